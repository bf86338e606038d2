/- ForestBack's walk. -/
import Derived.Test.YthhnlkbnphiaoaaLawC
namespace Go.Proofs.Ythhnlkbnphiaoaa
open Go.RowKit

/-- More acts, each joined. -/
def moreF (n : Int) (f : Nat → Act4) (J : List Jn) : Nat → List Jn
  | 0 => J
  | k + 1 => joinM n (moreF n f J k) (f k).a (f k).b (f k).r
theorem more_prefix (n : Int) (f : Nat → Act4) (J : List Jn) : ∀ k, ∃ X, moreF n f J k = J ++ X
  | 0 => ⟨[], by simp [moreF]⟩
  | k + 1 => by
    obtain ⟨X, hX⟩ := more_prefix n f J k
    obtain ⟨Y, hY⟩ := join_prefix n (moreF n f J k) (f k).a (f k).b (f k).r
    refine ⟨X ++ Y, ?_⟩
    show joinM n (moreF n f J k) (f k).a (f k).b (f k).r = _
    rw [hY, hX, List.append_assoc]

theorem more_len (n : Int) (f : Nat → Act4) (J : List Jn) : ∀ k, (moreF n f J k).length ≤ J.length + k
  | 0 => Nat.le_refl _
  | k + 1 => by
    have h1 := more_len n f J k
    have h2 := joinM_len n (moreF n f J k) (f k).a (f k).b (f k).r
    show (joinM n (moreF n f J k) (f k).a (f k).b (f k).r).length ≤ _
    omega

set_option maxRecDepth 100000 in
set_option maxHeartbeats 2000000 in
theorem forestBack_walk (n : Int) (A1 : Option Addr) (l1 c1 : Nat) (f1 : Nat → Act4) (A2 : Option Addr) (l2 c2 : Nat) (f2 : Nat → Act4) (a b : Int) (w : World) (_w0 : (Lit.int .i64 n).wf = true) (w1 : IsActs w A1 l1 c1 f1) (w2 : IsActs w A2 l2 c2 f2) (_w3 : (Lit.int .i64 a).wf = true) (_w4 : (Lit.int .i64 b).wf = true) :
    Calls Try.prog 3 #[.int .i64 n, .slice A1 l1 c1, .slice A2 l2 c2, .int .i64 a, .int .i64 b] w fun e w' => e = .returned (.bool true) ∧ Below w.heap.size w w' := by
  have hl1 : l1 ≤ maxLen := by
    rcases w1 with ⟨_, rfl⟩ | ⟨_, _, h1, h2, _⟩
    · omega
    · omega
  have hl2 : l2 ≤ maxLen := by
    rcases w2 with ⟨_, rfl⟩ | ⟨_, _, h1, h2, _⟩
    · omega
    · omega
  unfold maxLen at hl1 hl2
  by_cases hout : 100 < l1 ∨ 60 < l2 ∨ n < 1 ∨ 40 < n
  · clear w1 w2
    by_cases p1 : 100 < l1
    · have d1 : decide ((100 : Int) < (l1 : Int)) = true := by simp; omega
      clear hout
      go_enter Try.func3, Try.ntmps3
      go_wp2_with (go_at_call 7; refine (wakes_ok _).mono ?_; rintro e w2 ⟨rfl, b2⟩)
      go_ret
      exact ⟨rfl, b2⟩
    have d1 : decide ((100 : Int) < (l1 : Int)) = false := by simp; omega
    by_cases p2 : 60 < l2
    · have d2 : decide ((60 : Int) < (l2 : Int)) = true := by simp; omega
      clear hout
      go_enter Try.func3, Try.ntmps3
      go_wp2_with (go_at_call 7; refine (wakes_ok _).mono ?_; rintro e w2 ⟨rfl, b2⟩)
      go_ret
      exact ⟨rfl, b2⟩
    have d2 : decide ((60 : Int) < (l2 : Int)) = false := by simp; omega
    by_cases p3 : n < 1
    · have d3 : decide (n < 1) = true := decide_eq_true p3
      clear hout
      go_enter Try.func3, Try.ntmps3
      go_wp2_with (go_at_call 7; refine (wakes_ok _).mono ?_; rintro e w2 ⟨rfl, b2⟩)
      go_ret
      exact ⟨rfl, b2⟩
    have d3 : decide (n < 1) = false := decide_eq_false p3
    have d4 : decide (40 < n) = true := decide_eq_true (by omega)
    clear hout
    go_enter Try.func3, Try.ntmps3
    go_wp2_with (go_at_call 7; refine (wakes_ok _).mono ?_; rintro e w2 ⟨rfl, b2⟩)
    go_ret
    exact ⟨rfl, b2⟩
  have d1 : decide ((100 : Int) < (l1 : Int)) = false := by simp; omega
  have d2 : decide ((60 : Int) < (l2 : Int)) = false := by simp; omega
  have d3 : decide (n < 1) = false := decide_eq_false (by omega)
  have d4 : decide (40 < n) = false := decide_eq_false (by omega)
  have hn : 1 ≤ n ∧ n ≤ 40 := by omega
  have hl : l1 ≤ 100 ∧ l2 ≤ 60 := by omega
  have W1 := Lib.hid w1
  have W2 := Lib.hid w2
  clear w1 w2 hout
  go_enter Try.func3, Try.ntmps3
  go_wp2_with fail
  refine (behind_ok n hn.1 hn.2 A1 l1 c1 f1 w W1.out hl.1).mono ?_
  rintro e w5 ⟨bf, bn, bp, lj, N, rfl, hF, hB⟩
  have hJl := behindF_len n f1 l1
  generalize behindF n f1 l1 = J at *
  have HF := Lib.hid hF
  have HB := Lib.hid hB
  clear hF hB W1
  go_upto_region 6 with (fail)
  go_quiet (fail)
  obtain ⟨w6, hw6⟩ : ∃ w6, w5.drewN nq = w6 := ⟨_, rfl⟩
  have HF6 := Lib.hid (show FR w6 w.heap.size bf bn bp lj N n J 30000 from hw6 ▸ HF.out.below (below_drewN (Below.refl _ _) nq))
  have HB6 := Lib.hid (show Below w.heap.size w w6 from hw6 ▸ below_drewN HB.out nq)
  rw [hw6]
  clear hw6 HF HB
  generalize (wrap64 (a.tmod n + n)).tmod n = y at *
  generalize (wrap64 (b.tmod n + n)).tmod n = x at *
  go_wp2_with fail
  refine (joins_ok HF6.out).mono ?_
  rintro e w7 ⟨rfl, rfl⟩
  go_wp2_with fail
  refine (way_ok HF6.out y x).mono ?_
  rintro e w7 ⟨vp, rs, rfl, hW1, hR1, hb7⟩
  have HF7 := Lib.hid (HF6.out.below hb7)
  have HB7 := Lib.hid (below_then HB6.out (Nat.le_refl _) hb7)
  have HW1 := Lib.hid hW1
  have HR1 := Lib.hid hR1
  have hJl2 : J.length ≤ 100 := by omega
  generalize hqq : w6.heap.size = b6 at *
  clear hqq
  obtain ⟨Ap, cp, rfl⟩ := own_slice hR1.1
  clear HF6 HB6 hW1 hR1 hb7
  go_wp2_with fail
  go_loopw [15] (fun i wr => ∃ k : Nat, k ≤ l2 ∧ i = .int .i64 k ∧ (∃ lj N, FR wr w.heap.size bf bn bp lj N n (moreF n f2 J k) (30000 + 3 * k)) ∧ Below w.heap.size w wr ∧ RowOf wr b6 (.slice Ap rs.length cp) rs) (fun i _ => l2 - (intOf i).toNat)
  case atStart => exact ⟨0, Nat.zero_le _, rfl, ⟨_, _, HF7.out⟩, HB7.out, HR1.out⟩
  case round =>
    obtain ⟨k, hk, rfl, ⟨lj9, N9, hF⟩, hB, hR⟩ := hrel
    have HF9 := Lib.hid hF
    have HB9 := Lib.hid hB
    have HR9 := Lib.hid hR
    have hsz := hB.size
    by_cases hlt : k < l2
    · obtain ⟨x0, rfl, hx0, e0, e1, e2, e3⟩ := act_cells W2.out hB hlt
      have HM := Lib.hid (show moreF n f2 J (k + 1) = joinM n (moreF n f2 J k) (f2 k).a (f2 k).b (f2 k).r from rfl)
      generalize moreF n f2 J k = J9 at *
      generalize f2 k = q at *
      clear hF hB e0 hR HF7 HB7 HR1
      go_upto_region 12 with (fail)
      have hF2 : FR wr.drew w.heap.size bf bn bp lj9 N9 n J9 (30000 + 3 * k) := HF9.out.below ⟨rfl, rfl, rfl, Nat.le_refl _, fun _ _ => rfl⟩
      have HF2 := Lib.hid hF2
      have hsz2 : w.heap.size ≤ wr.drew.heap.size := hsz
      clear hF2
      go_region_held3 (fun w' => w'.cell? ⟨(x0.add (k * 4)).block, (x0.add (k * 4)).off + 1, none⟩ = some (.int .i64 q.a) ∧ w'.cell? ⟨(x0.add (k * 4)).block, (x0.add (k * 4)).off + 2, none⟩ = some (.int .i64 q.b) ∧ w'.cell? ⟨(x0.add (k * 4)).block, (x0.add (k * 4)).off + 3, none⟩ = some (.int .i64 q.r)) (go_keep)
        (first | (go_at_call 11; refine (join_ok HF2.out (by omega) _ _ _).mono ?_; rintro e w3 ⟨lj2, N2, rfl, hF3, hk3⟩; have hbb := below_undrew (hk3.below hsz2); have x1 := cell_low hbb hx0 e1; have x2 := cell_low hbb hx0 e2; have x3 := cell_low hbb hx0 e3; have HF3 := Lib.hid hF3; have HK3 := Lib.hid hk3; have Hbb := Lib.hid hbb; clear hF3 hk3 hbb))
      go_wp2
      refine ⟨⟨k + 1, by omega, by go_num, ⟨lj2, N2, ?_⟩, HB9.out.trans Hbb.out, HR9.out.kf ((Kf.of_below (B := w.heap.size) (w := wr) (w' := wr.drew) ⟨rfl, rfl, rfl, Nat.le_refl _, fun _ _ => rfl⟩).trans HK3.out)⟩, by simp [intOf]; omega⟩
      rw [HM.out]
      exact HF3.out.mono (by omega)
    · obtain rfl : k = l2 := by omega
      clear hF hB hR HF7 HB7 HR1
      go_upto_region 13 with (fail)
      go_wp2_with fail
      refine (joins_ok HF9.out).mono ?_
      rintro e w8 ⟨rfl, rfl⟩
      go_wp2_with fail
      refine (way_ok HF9.out y x).mono ?_
      rintro e w8 ⟨vq, ss, rfl, hW2, hR2, hb8⟩
      have HFa := Lib.hid (HF9.out.below hb8)
      have HBa := Lib.hid (below_then HB9.out (Nat.le_refl _) hb8)
      have HRp := Lib.hid (HR9.out.below hb8)
      have HRq := Lib.hid hR2
      have HWq := Lib.hid hW2
      generalize hqq : wr.heap.size = b8 at *
      clear hqq
      obtain ⟨Aq, cq, rfl⟩ := own_slice hR2.1
      obtain ⟨X, hX⟩ := more_prefix n f2 J k
      have hK2 := more_len n f2 J k
      have HX := Lib.hid hX
      have dlen : decide ((moreF n f2 J k).length < J.length) = false := by
        rw [hX, List.length_append]
        exact decide_eq_false (by omega)
      have HTr := Lib.hid (show Tree (J ++ X) from hX ▸ HF9.out.fine.tree)
      clear HF9 HB9 HR9 hW2 hR2 hb8 hX hsz
      have hbE : backE (moreF n f2 J k) (J.length : Int) = 0 := by
        unfold backE
        rw [if_pos ⟨by omega, by rw [HX.out, List.length_append]; omega⟩]
      have hbM : backM (moreF n f2 J k) (J.length : Int) = J := by
        unfold backM
        rw [if_pos ⟨by omega, by rw [HX.out, List.length_append]; omega⟩, HX.out]
        simp
      have hbf : oneM n J y x = true → oneM n (moreF n f2 J k) y x = true ∧ rs = ss := fun hbo =>
        ⟨by rw [HX.out]; exact oneM_mono hbo, WayR.more HTr.out hbo HW1.out (HX.out ▸ HWq.out)⟩
      go_upto_region 15 with (fail)
      generalize hbo : oneM n J y x = bo at *
      generalize hfo : oneM n (moreF n f2 J k) y x = fo at *
      have Hbo := Lib.hid hbo
      have Hfo := Lib.hid hfo
      clear hbo hfo
      have HBF := Lib.hid hbf
      clear hbf
      go_cut [128] (fun v wc => v = .bool false ∧ (∃ lj N, FR wc w.heap.size bf bn bp lj N n J 31000) ∧ Below w.heap.size w wc ∧ RowOf wc b6 (.slice Ap rs.length cp) rs ∧ RowOf wc b8 (.slice Aq ss.length cq) ss)
      case first =>
        cases bo
        case true =>
          obtain ⟨hfi, hrs⟩ := HBF.out rfl
          subst hfi
          have HRq2 := Lib.hid (show RowOf w8 b8 (.slice Aq ss.length cq) rs from hrs ▸ HRq.out)
          clear hrs
          go_wp2_with fail
          refine (same_ok HRp.out HRq2.out).mono ?_
          rintro e w9 ⟨rfl, dd, rfl⟩
          have HFb := Lib.hid (HFa.out.below (below_drewN (Below.refl _ w8) dd))
          go_wp2_with fail
          refine (back_ok HFb.out (by omega) _).mono ?_
          rw [hbE, hbM]
          rintro e w10 ⟨lj2, N2, rfl, hF2, hk2⟩
          have HF2 := Lib.hid hF2
          have HK2 := Lib.hid hk2
          clear hF2 hk2
          go_wp2
          go_meet
          exact ⟨rfl, ⟨lj2, N2, HF2.out.mono (by omega)⟩, (below_drewN HBa.out dd).trans (HK2.out.below HBa.out.size), (HRp.out.drewN dd).kf HK2.out, (HRq.out.drewN dd).kf HK2.out⟩
        case false =>
          go_wp2_with fail
          refine (back_ok HFa.out (by omega) _).mono ?_
          rw [hbE, hbM]
          rintro e w10 ⟨lj2, N2, rfl, hF2, hk2⟩
          have HF2 := Lib.hid hF2
          have HK2 := Lib.hid hk2
          clear hF2 hk2
          go_wp2
          go_meet
          exact ⟨rfl, ⟨lj2, N2, HF2.out.mono (by omega)⟩, HBa.out.trans (HK2.out.below HBa.out.size), HRp.out.kf HK2.out, HRq.out.kf HK2.out⟩
      case rest =>
        obtain ⟨rfl, ⟨lj2, N2, hF2⟩, hB2, hRp2, hRq2⟩ := hcut
        have HF2 := Lib.hid hF2
        have HB2 := Lib.hid hB2
        have HRp2 := Lib.hid hRp2
        have HRq2 := Lib.hid hRq2
        clear hF2 hB2 hRp2 hRq2 HFa HBa HRp HRq
        go_wp2_with fail
        refine (way_ok HF2.out y x).mono ?_
        rw [Hbo.out]
        rintro e w11 ⟨vr, tt, rfl, hW3, hR3, hb3⟩
        obtain rfl := WayR.same HF2.out.fine.tree HW1.out hW3
        have HF3 := Lib.hid (HF2.out.below hb3)
        have HB3 := Lib.hid (below_then HB2.out (Nat.le_refl _) hb3)
        have HRp3 := Lib.hid (HRp2.out.below hb3)
        have HRq3 := Lib.hid (HRq2.out.below hb3)
        have HR3 := Lib.hid hR3
        obtain ⟨Ar, cr, rfl⟩ := own_slice hR3.1
        clear HF2 HB2 HRp2 HRq2 hR3 hb3 hW3
        go_wp2_with fail
        refine (same_ok HRp3.out HR3.out).mono ?_
        rintro e w12 ⟨rfl, dd, rfl⟩
        have HF4 := Lib.hid (show FR (w11.drewN dd) w.heap.size bf bn bp lj2 N2 n J 31000 from HF3.out.below (below_drewN (Below.refl _ w11) dd))
        have HB4 := Lib.hid (show Below w.heap.size w (w11.drewN dd) from below_drewN HB3.out dd)
        have HR4 := Lib.hid (HRq3.out.drewN dd)
        clear HF3 HB3 HRp3 HRq3 HR3
        generalize w11.drewN dd = w12 at *
        go_wp2_with fail
        refine (joins_ok HF4.out).mono ?_
        rintro e w13 ⟨rfl, rfl⟩
        go_wp2_with fail
        go_loopw [21] (fun i wr => ∃ z : Nat, z ≤ k ∧ i = .int .i64 z ∧ (∃ lj N, FR wr w.heap.size bf bn bp lj N n (moreF n f2 J z) (31000 + 3 * z)) ∧ Below w.heap.size w wr ∧ RowOf wr b8 (.slice Aq ss.length cq) ss) (fun i _ => k - (intOf i).toNat)
        case atStart => exact ⟨0, Nat.zero_le _, rfl, ⟨_, _, HF4.out⟩, HB4.out, HR4.out⟩
        case round =>
          obtain ⟨z, hz, rfl, ⟨lj9, N9, hF⟩, hB, hR⟩ := hrel
          have HF9 := Lib.hid hF
          have HB9 := Lib.hid hB
          have HR9 := Lib.hid hR
          have hsz := hB.size
          by_cases hlt : z < k
          · obtain ⟨x0, rfl, hx0, e0, e1, e2, e3⟩ := act_cells W2.out hB hlt
            have HMz := Lib.hid (show moreF n f2 J (z + 1) = joinM n (moreF n f2 J z) (f2 z).a (f2 z).b (f2 z).r from rfl)
            generalize moreF n f2 J z = J8 at *
            generalize f2 z = q at *
            clear hF hB e0 hR HF4 HB4 HR4
            go_upto_region 23 with (fail)
            have hF2 : FR wr.drew w.heap.size bf bn bp lj9 N9 n J8 (31000 + 3 * z) := HF9.out.below ⟨rfl, rfl, rfl, Nat.le_refl _, fun _ _ => rfl⟩
            have HF2 := Lib.hid hF2
            have hsz2 : w.heap.size ≤ wr.drew.heap.size := hsz
            clear hF2
            go_region_held3 (fun w' => w'.cell? ⟨(x0.add (z * 4)).block, (x0.add (z * 4)).off + 1, none⟩ = some (.int .i64 q.a) ∧ w'.cell? ⟨(x0.add (z * 4)).block, (x0.add (z * 4)).off + 2, none⟩ = some (.int .i64 q.b) ∧ w'.cell? ⟨(x0.add (z * 4)).block, (x0.add (z * 4)).off + 3, none⟩ = some (.int .i64 q.r)) (go_keep)
              (first | (go_at_call 11; refine (join_ok HF2.out (by omega) _ _ _).mono ?_; rintro e w3 ⟨lj2, N2, rfl, hF3, hk3⟩; have hbb := below_undrew (hk3.below hsz2); have x1 := cell_low hbb hx0 e1; have x2 := cell_low hbb hx0 e2; have x3 := cell_low hbb hx0 e3; have HF3 := Lib.hid hF3; have HK3 := Lib.hid hk3; have Hbb := Lib.hid hbb; clear hF3 hk3 hbb))
            go_wp2
            refine ⟨⟨z + 1, by omega, by go_num, ⟨lj2, N2, ?_⟩, HB9.out.trans Hbb.out, HR9.out.kf ((Kf.of_below (B := w.heap.size) (w := wr) (w' := wr.drew) ⟨rfl, rfl, rfl, Nat.le_refl _, fun _ _ => rfl⟩).trans HK3.out)⟩, by simp [intOf]; omega⟩
            rw [HMz.out]
            exact HF3.out.mono (by omega)
          · obtain rfl : z = k := by omega
            clear hF hB hR HF4 HB4 HR4
            go_wp2_with fail
            refine (way_ok HF9.out y x).mono ?_
            rw [Hfo.out]
            rintro e w14 ⟨vs, uu, rfl, hW4, hR5, hb5⟩
            obtain rfl := WayR.same (HX.out ▸ HTr.out) HWq.out hW4
            have HF5 := Lib.hid (HF9.out.below hb5)
            have HB5 := Lib.hid (below_then HB9.out (Nat.le_refl _) hb5)
            have HRq5 := Lib.hid (HR9.out.below hb5)
            have HR5 := Lib.hid hR5
            obtain ⟨As, cs, rfl⟩ := own_slice hR5.1
            clear hW4 hR5 hb5 HF9 HB9 HR9
            go_wp2_with fail
            refine (joins_ok HF5.out).mono ?_
            rintro e w15 ⟨rfl, rfl⟩
            go_wp2_with fail
            refine (same_ok HRq5.out HR5.out).mono ?_
            rintro e w15 ⟨rfl, de, rfl⟩
            have HB6 := Lib.hid (below_drewN HB5.out de)
            clear HF5 HB5 HRq5 HR5
            go_wp2_with fail
            refine (wakes_ok _).mono ?_
            rintro e w16 ⟨rfl, hb6⟩
            have HB7 := Lib.hid (below_then HB6.out (Nat.le_refl _) hb6)
            clear hb6 HB6
            go_wp2
            go_ret
            exact ⟨rfl, HB7.out⟩
end Go.Proofs.Ythhnlkbnphiaoaa

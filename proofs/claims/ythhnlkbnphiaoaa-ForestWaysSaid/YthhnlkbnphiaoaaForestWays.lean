/- ForestWays' walk. -/
import Derived.Test.YthhnlkbnphiaoaaWays
import Derived.Test.YthhnlkbnphiaoaaStillCall
namespace Go.Proofs.Ythhnlkbnphiaoaa
open Go.RowKit

theorem still_of_quiet {P : Program} {o : Oper} {a : Act} {w : World} {K : Act → Prop} (h : o.quiet P a (fun w' => w' = w) K) : o.still P a w K := by
  obtain ⟨v, h1, h2⟩ := h
  have h3 := h1 w rfl
  unfold Oper.quietAt at h3
  unfold Oper.still
  generalize (execOp a.eval o).run P w = r at *
  cases r with
  | ok n w' =>
    cases n <;> simp only [Oper.quietUpon] at h3 <;> simp only [Oper.stillUpon]
    case value u => obtain ⟨h4, rfl⟩ := h3; exact ⟨h4, h2⟩
    case skip => obtain ⟨h4, rfl⟩ := h3; exact ⟨h4, h2⟩
    case enter f args => exact ⟨h3.1, v, h3.2, h2⟩
  | halt x w' => simp only [Oper.quietUpon] at h3
theorem wpStill_of_quiet {P : Program} {ops : Array Oper} {w : World} {Q : Act → Prop} : ∀ (l : List Oper) (a : Act), wpQuiet P ops (fun w' => w' = w) Q l a → wpStill P ops w Q l a
  | [], a, h => h
  | o :: l, a, h => by
    unfold wpQuiet at h
    unfold wpStill
    split
    · rename_i hw
      rw [if_pos hw] at h
      refine still_of_quiet ?_
      obtain ⟨v, h1, h2⟩ := h
      exact ⟨v, h1, wpStill_of_quiet l _ h2⟩
    · rename_i hw
      rw [if_neg hw] at h
      exact wpStill_of_quiet l _ h
theorem one_kf {w : World} {B bf bn bp m : Nat} {lj : Value} {N : Int → Value} {n : Int} {J : List Jn} (h : FR w B bf bn bp lj N n J m) (hm : m ≤ 1000000) (x y : Int) :
    Calls Try.prog 14 #[.pointer (some ⟨bf, 0, none⟩), .int .i64 x, .int .i64 y] w fun e w' => e = .returned (.bool (oneM n J x y)) ∧ FR w' B bf bn bp lj N n J (m + 1) ∧ Kf B w w' :=
  (one_ok h hm x y).mono fun _ _ ⟨h1, h2, h3⟩ => ⟨h1, h2, Kf.of_kept h3 fun _ _ hz => h.noInt (.inr (.inr (.inl hz)))⟩

theorem kf_cell {B g : Nat} {w w' : World} {cs : Array Value} (h : Kf B w w') (hb : Blk w g 3 cs) (i : Nat) : w'.cell? ⟨g, i, none⟩ = w.cell? ⟨g, i, none⟩ := by
  rw [(hb.kept h (fun hn => hn.2 cs hb)).cell, hb.cell]
theorem take_found2 (rs : List Int) (r : Int) (k : Nat) (hk : k < rs.length) : decide (r ∈ rs.take (k + 1)) = (decide (r ∈ rs.take k) || (rs[k] == r)) := by
  rw [List.take_succ_eq_append_getElem hk, Bool.eq_iff_iff]
  simp only [decide_eq_true_eq, List.mem_append, List.mem_singleton, Bool.or_eq_true, beq_iff_eq]
  exact or_congr Iff.rfl eq_comm
theorem wrap64_small {i : Int} (h : 0 ≤ i ∧ i ≤ 1000000) : wrap64 i = i := by
  unfold wrap64
  omega
theorem bound_k {k L : Nat} (hk : k < L) (hL : L ≤ 4096) : 30010 + k ≤ 1000000 := by omega
theorem round_facts {k m L : Nat} (hm : k = m + 1) (hlt : k < L) (hL : L ≤ 1000000) :
    (k : Int) - 1 = m ∧ wrap64 (m : Int) = m ∧ m < L ∧ decide ((0 : Int) < (k : Int)) = true ∧ decide (0 < k) = true :=
  ⟨by omega, wrap64_small (by omega), by omega, decide_eq_true (by omega), decide_eq_true (by omega)⟩

set_option maxRecDepth 100000 in
set_option maxHeartbeats 2000000 in
theorem forestWays_walk (n : Int) (A1 : Option Addr) (l1 c1 : Nat) (f1 : Nat → Act4) (a b c : Int) (w : World) (_w0 : (Lit.int .i64 n).wf = true) (w1 : IsActs w A1 l1 c1 f1) (_w2 : (Lit.int .i64 a).wf = true) (_w3 : (Lit.int .i64 b).wf = true) (_w4 : (Lit.int .i64 c).wf = true) :
    Calls Try.prog 5 #[.int .i64 n, .slice A1 l1 c1, .int .i64 a, .int .i64 b, .int .i64 c] w fun e w' => e = .returned (.bool true) ∧ Below w.heap.size w w' := by
  have hl1 : l1 ≤ maxLen := by
    rcases w1 with ⟨_, rfl⟩ | ⟨_, _, h1, h2, _⟩
    · omega
    · omega
  unfold maxLen at hl1
  by_cases hout : 100 < l1 ∨ n < 1 ∨ 40 < n
  · clear w1
    by_cases p1 : 100 < l1
    · have d1 : decide ((100 : Int) < (l1 : Int)) = true := by simp; omega
      clear hout
      go_enter Try.func5, Try.ntmps5
      go_wp2_with (go_at_call 7; refine (wakes_ok _).mono ?_; rintro e w2 ⟨rfl, b2⟩)
      go_ret
      exact ⟨rfl, b2⟩
    have d1 : decide ((100 : Int) < (l1 : Int)) = false := by simp; omega
    by_cases p3 : n < 1
    · have d3 : decide (n < 1) = true := decide_eq_true p3
      clear hout
      go_enter Try.func5, Try.ntmps5
      go_wp2_with (go_at_call 7; refine (wakes_ok _).mono ?_; rintro e w2 ⟨rfl, b2⟩)
      go_ret
      exact ⟨rfl, b2⟩
    have d3 : decide (n < 1) = false := decide_eq_false p3
    have d4 : decide (40 < n) = true := decide_eq_true (by omega)
    clear hout
    go_enter Try.func5, Try.ntmps5
    go_wp2_with (go_at_call 7; refine (wakes_ok _).mono ?_; rintro e w2 ⟨rfl, b2⟩)
    go_ret
    exact ⟨rfl, b2⟩
  have d1 : decide ((100 : Int) < (l1 : Int)) = false := by simp; omega
  have d3 : decide (n < 1) = false := decide_eq_false (by omega)
  have d4 : decide (40 < n) = false := decide_eq_false (by omega)
  have hn : 1 ≤ n ∧ n ≤ 40 := by omega
  have hl : l1 ≤ 100 := by omega
  have W1 := Lib.hid w1
  clear w1 hout
  go_enter Try.func5, Try.ntmps5
  go_wp2_with fail
  refine (behind_ok n hn.1 hn.2 A1 l1 c1 f1 w W1.out hl).mono ?_
  rintro e w5 ⟨bf, bn, bp, lj, N, rfl, hF, hB⟩
  have hJl := behindF_len n f1 l1
  generalize behindF n f1 l1 = J at *
  have HF := Lib.hid hF
  have HB := Lib.hid hB
  have HFine := Lib.hid hF.fine
  clear hF hB W1
  go_upto_region 6 with (fail)
  go_quiet (fail)
  go_upto_region 7 with (fail)
  obtain ⟨w6, hw6⟩ : ∃ w6, w5.drewN nq = w6 := ⟨_, rfl⟩
  have HF6 := Lib.hid (show FR w6 w.heap.size bf bn bp lj N n J 30000 from hw6 ▸ HF.out.below (below_drewN (Below.refl _ _) nq))
  have HB6 := Lib.hid (show Below w.heap.size w w6 from hw6 ▸ below_drewN HB.out nq)
  rw [hw6]
  clear hw6 HF HB
  have Hy := Lib.hid (mod_range (a := a) hn)
  have Hx := Lib.hid (mod_range (a := b) hn)
  have Hz := Lib.hid (mod_range (a := c) hn)
  generalize (wrap64 (a.tmod n + n)).tmod n = y at *
  generalize (wrap64 (b.tmod n + n)).tmod n = x at *
  generalize (wrap64 (c.tmod n + n)).tmod n = z at *
  go_wp2_with fail
  refine (way_ok HF6.out y x).mono ?_
  rintro e w7 ⟨vp, rs, rfl, hW1, hR1, hb7⟩
  have HF7 := Lib.hid (HF6.out.below hb7)
  have HB7 := Lib.hid (below_then HB6.out (Nat.le_refl _) hb7)
  have HW1 := Lib.hid hW1
  have HR7 := Lib.hid hR1
  generalize hqq : w6.heap.size = b6 at *
  clear hqq
  clear HF6 HB6 hW1 hR1 hb7
  go_wp2_with fail
  refine (way_ok HF7.out x y).mono ?_
  rintro e w8 ⟨vq, ss, rfl, hW2, hR2, hb8⟩
  have hsym : oneM n J x y = oneM n J y x := by
    rw [oneM_in Hx.out Hy.out, oneM_in Hy.out Hx.out]
    exact decide_eq_decide.2 eq_comm
  have hss := WayR.back HFine.out.tree hsym HW1.out hW2
  subst hss
  have hlen := WayR.len HFine.out Hy.out HW1.out
  have HF8 := Lib.hid (HF7.out.below hb8)
  have HB8 := Lib.hid (below_then HB7.out (Nat.le_refl _) hb8)
  have HP8 := Lib.hid (HR7.out.below hb8)
  have HQ8 := Lib.hid hR2
  generalize hqq : w7.heap.size = b7 at *
  clear hqq
  obtain ⟨Ap, cp, rfl⟩ := own_slice HP8.out.1
  obtain ⟨Aq, cq, rfl⟩ := own_slice HQ8.out.1
  rw [hsym]
  clear HF7 HB7 HR7 hW2 hR2 hb8
  have dlen : decide (J.length < rs.length) = false := decide_eq_false (by omega)
  have hself : oneM n J y y = true := by
    rw [oneM_in Hy.out Hy.out]
    exact decide_eq_true rfl
  have htr : oneM n J y x = true → oneM n J x z = true → oneM n J y z = true := by
    rw [oneM_in Hy.out Hx.out, oneM_in Hx.out Hz.out, oneM_in Hy.out Hz.out]
    intro h1 h2
    exact decide_eq_true ((of_decide_eq_true h1).trans (of_decide_eq_true h2))
  have hok : oneM n J y x = decide (cls J y = cls J x) := oneM_in Hy.out Hx.out
  generalize hbo : oneM n J y x = bo at *
  generalize hbz : oneM n J x z = bz at *
  generalize hbt : oneM n J y z = bt at *
  have Hbo := Lib.hid hbo
  have Hbz := Lib.hid hbz
  have Hbt := Lib.hid hbt
  have Htr := Lib.hid htr
  have Hok := Lib.hid hok
  have Hsf := Lib.hid hself
  have Hsym := Lib.hid hsym
  clear hbo hbz hbt htr hok hself hlen hsym
  go_upto_region 9 with (fail)
  go_cut [122] (fun v wc => v = .bool false ∧ FR wc w.heap.size bf bn bp lj N n J 30010 ∧ Below w.heap.size w wc ∧ RowOf wc b6 (.slice Ap rs.length cp) rs ∧ RowOf wc b7 (.slice Aq rs.reverse.length cq) rs.reverse)
  case first =>
    cases bo
    case false =>
      go_wp2_with fail
      refine (one_kf HF8.out (by omega) y y).mono ?_
      rw [Hsf.out]
      rintro e wo0 ⟨rfl, hFo, hko⟩
      have HFo0 := Lib.hid hFo
      have HKo0 := Lib.hid hko
      clear hFo hko
      go_wp2_with fail
      refine (one_kf HFo0.out (by omega) y x).mono ?_
      rw [Hbo.out]
      rintro e wo1 ⟨rfl, hFo, hko⟩
      have HFo1 := Lib.hid hFo
      have HKo1 := Lib.hid (HKo0.out.trans hko)
      clear hFo hko
      go_wp2_with fail
      refine (one_kf HFo1.out (by omega) y x).mono ?_
      rw [Hbo.out]
      rintro e wo2 ⟨rfl, hFo, hko⟩
      have HFo2 := Lib.hid hFo
      have HKo2 := Lib.hid (HKo1.out.trans hko)
      clear hFo hko
      go_wp2_with fail
      refine (joins_ok HFo2.out).mono ?_
      rintro e wj ⟨rfl, rfl⟩
      go_wp2
      go_meet
      exact ⟨rfl, HFo2.out.mono (by omega), HB8.out.trans (HKo2.out.below HB8.out.size), HP8.out.kf HKo2.out, HQ8.out.kf HKo2.out⟩
    case true =>
      cases bz
      case false =>
        go_wp2_with fail
        refine (one_kf HF8.out (by omega) y y).mono ?_
        rw [Hsf.out]
        rintro e wo0 ⟨rfl, hFo, hko⟩
        have HFo0 := Lib.hid hFo
        have HKo0 := Lib.hid hko
        clear hFo hko
        go_wp2_with fail
        refine (one_kf HFo0.out (by omega) y x).mono ?_
        rw [Hbo.out]
        rintro e wo1 ⟨rfl, hFo, hko⟩
        have HFo1 := Lib.hid hFo
        have HKo1 := Lib.hid (HKo0.out.trans hko)
        clear hFo hko
        go_wp2_with fail
        refine (one_kf HFo1.out (by omega) y x).mono ?_
        rw [Hbo.out]
        rintro e wo2 ⟨rfl, hFo, hko⟩
        have HFo2 := Lib.hid hFo
        have HKo2 := Lib.hid (HKo1.out.trans hko)
        clear hFo hko
        go_wp2_with fail
        refine (one_kf HFo2.out (by omega) x z).mono ?_
        rw [Hbz.out]
        rintro e wo3 ⟨rfl, hFo, hko⟩
        have HFo3 := Lib.hid hFo
        have HKo3 := Lib.hid (HKo2.out.trans hko)
        clear hFo hko
        go_wp2_with fail
        refine (joins_ok HFo3.out).mono ?_
        rintro e wj ⟨rfl, rfl⟩
        go_wp2
        go_meet
        exact ⟨rfl, HFo3.out.mono (by omega), HB8.out.trans (HKo3.out.below HB8.out.size), HP8.out.kf HKo3.out, HQ8.out.kf HKo3.out⟩
      case true =>
        have hbt2 := Htr.out rfl rfl
        subst hbt2
        go_wp2_with fail
        refine (one_kf HF8.out (by omega) y y).mono ?_
        rw [Hsf.out]
        rintro e wo0 ⟨rfl, hFo, hko⟩
        have HFo0 := Lib.hid hFo
        have HKo0 := Lib.hid hko
        clear hFo hko
        go_wp2_with fail
        refine (one_kf HFo0.out (by omega) y x).mono ?_
        rw [Hbo.out]
        rintro e wo1 ⟨rfl, hFo, hko⟩
        have HFo1 := Lib.hid hFo
        have HKo1 := Lib.hid (HKo0.out.trans hko)
        clear hFo hko
        go_wp2_with fail
        refine (one_kf HFo1.out (by omega) y x).mono ?_
        rw [Hbo.out]
        rintro e wo2 ⟨rfl, hFo, hko⟩
        have HFo2 := Lib.hid hFo
        have HKo2 := Lib.hid (HKo1.out.trans hko)
        clear hFo hko
        go_wp2_with fail
        refine (one_kf HFo2.out (by omega) x z).mono ?_
        rw [Hbz.out]
        rintro e wo3 ⟨rfl, hFo, hko⟩
        have HFo3 := Lib.hid hFo
        have HKo3 := Lib.hid (HKo2.out.trans hko)
        clear hFo hko
        go_wp2_with fail
        refine (one_kf HFo3.out (by omega) y z).mono ?_
        rw [Hbt.out]
        rintro e wo4 ⟨rfl, hFo, hko⟩
        have HFo4 := Lib.hid hFo
        have HKo4 := Lib.hid (HKo3.out.trans hko)
        clear hFo hko
        go_wp2_with fail
        refine (joins_ok HFo4.out).mono ?_
        rintro e wj ⟨rfl, rfl⟩
        go_wp2
        go_meet
        exact ⟨rfl, HFo4.out.mono (by omega), HB8.out.trans (HKo4.out.below HB8.out.size), HP8.out.kf HKo4.out, HQ8.out.kf HKo4.out⟩
  case rest =>
    obtain ⟨rfl, hF9, hB9, hP9, hQ9⟩ := hcut
    have HF9 := Lib.hid hF9
    have HB9 := Lib.hid hB9
    have HP9 := Lib.hid hP9
    have HQ9 := Lib.hid hQ9
    clear hF9 hB9 hP9 hQ9 HF8 HB8 HP8 HQ8
    have hl4 := HP9.out.2
    have HA := Lib.hid (show ∀ k (hk : k < rs.length), ∃ g, Ap = some ⟨g, 0, none⟩ ∧ wc.cell? ⟨g, k, none⟩ = some (.int .i64 rs[k]) from fun k hk => by
      obtain ⟨g, cc, e, _⟩ := own_form HP9.out.1 (by omega)
      injection e with e _ _
      subst e
      refine ⟨g, rfl, ?_⟩
      have := HP9.out.1.cells (g := g) rfl k (.int .i64 rs[k]) (by rw [List.getElem?_map, List.getElem?_eq_getElem hk]; rfl)
      rwa [addr_add] at this)
    have HBq := Lib.hid (show ∀ k m (hk : k < rs.length), rs.length = m + k + 1 → ∃ g, Aq = some ⟨g, 0, none⟩ ∧ wc.cell? ⟨g, m, none⟩ = some (.int .i64 rs[k]) from fun k m hk hm => by
      obtain ⟨g, cc, e, _⟩ := own_form HQ9.out.1 (by rw [List.length_reverse]; omega)
      injection e with e _ _
      subst e
      refine ⟨g, rfl, ?_⟩
      have := HQ9.out.1.cells (g := g) rfl m (.int .i64 rs[k]) (by
        rw [List.getElem?_map, List.getElem?_reverse (by omega), show rs.length - 1 - m = k by omega, List.getElem?_eq_getElem hk]
        rfl)
      rwa [addr_add] at this)
    clear HP9 HQ9
    go_upto_region 12 with (fail)
    go_loopw [16] (fun i wr => ∃ k : Nat, k ≤ rs.length ∧ i = .int .i64 k ∧ ∃ d, wr = wc.drewN d) (fun i _ => rs.length - (intOf i).toNat)
    case atStart => exact ⟨0, Nat.zero_le _, rfl, 0, rfl⟩
    case round =>
      obtain ⟨k, hk, rfl, d, rfl⟩ := hrel
      by_cases hlt : k < rs.length
      · obtain ⟨m, hm⟩ : ∃ m, rs.length = m + k + 1 := ⟨rs.length - k - 1, by omega⟩
        obtain ⟨g, rfl, e1⟩ := HA.out k hlt
        obtain ⟨g', rfl, e2⟩ := HBq.out k m hlt hm
        generalize rs[k] = u at *
        clear HA HBq
        generalize rs.length = L at *
        subst hm
        have hw1 : wrap64 ((m : Int) + k) = m + k := wrap64_small (by omega)
        have hw2 : wrap64 (m : Int) = m := wrap64_small (by omega)
        go_wp2
        go_quiet (fail)
        go_wp2
        exact ⟨⟨k + 1, by omega, by go_num, _, rfl⟩, by simp [intOf]; omega⟩
      · obtain rfl : k = rs.length := by omega
        clear HA HBq
        have HFb := Lib.hid (HF9.out.below (below_drewN (Below.refl _ wc) d))
        have HBb := Lib.hid (below_drewN HB9.out d)
        clear HF9 HB9
        generalize wc.drewN d = wd at *
        go_wp2_with fail
        refine (class_walk HFb.out y Hy.out).mono ?_
        rintro e we ⟨vs, cl, rfl, hcl, hrc, hbc⟩
        have HFc := Lib.hid (HFb.out.below hbc)
        have HBc := Lib.hid (below_then HBb.out (Nat.le_refl _) hbc)
        have HCl := Lib.hid hcl
        have HRc := Lib.hid hrc
        obtain ⟨hcp, hrep⟩ := hcl.rep Hy.out
        have HRep := Lib.hid hrep
        obtain ⟨gs, cs, rfl, _, hgs, _⟩ := own_form hrc.1 hcp
        have s0 := hrc.1.cells (g := gs) rfl 0 (.int .i64 cl[0]) (by rw [List.getElem?_map, List.getElem?_eq_getElem hcp]; rfl)
        rw [addr_add] at s0
        clear hcl hrc hbc hrep HFb HBb
        go_upto_region 17 with (fail)
        have hgl : gs < we.heap.size := hgs
        generalize cl[0] = c0 at *
        have HF0 := Lib.hid (show FR we.drew w.heap.size bf bn bp lj N n J 30010 from HFc.out.below ⟨rfl, rfl, rfl, Nat.le_refl _, fun _ _ => rfl⟩)
        have HB0 := Lib.hid (show Below w.heap.size w we.drew from below_drewN HBc.out 1)
        have HR0 := Lib.hid (show RowOf we.drew wd.heap.size (.slice (some ⟨gs, 0, none⟩) cl.length cs) cl from HRc.out.drewN 1)
        have q0 : we.drew.cell? ⟨gs, 0, none⟩ = some (.int .i64 c0) := s0
        have g0 : gs < we.drew.heap.size := hgs
        have HRx := Lib.hid (show ∀ r3, RepR n J x r3 → (c0 == r3) = bo from fun r3 h3 => by
          rw [Hok.out]
          by_cases hc : cls J y = cls J x
          · rw [decide_eq_true hc, beq_iff_eq]
            exact HRep.out.one h3 hc
          · rw [decide_eq_false hc, beq_eq_false_iff_ne]
            exact fun e => hc (by rw [← HRep.out.2.1, e, h3.2.1]))
        have hcl0 : ((cl.length : Int) == 0) = false := by
          rw [beq_eq_false_iff_ne]
          omega
        clear HFc HBc HRc s0
        go_cut [167] (fun v wx => v = .bool false ∧ FR wx w.heap.size bf bn bp lj N n J 30010 ∧ Below w.heap.size w wx ∧ RowOf wx wd.heap.size (.slice (some ⟨gs, 0, none⟩) cl.length cs) cl)
        case first =>
          go_region_held3 (fun w' => w'.cell? ⟨gs, 0, none⟩ = some (.int .i64 c0)) (go_keep)
            (first
              | (go_at_call 16; refine (rep_ok HF2.out x Hx.out).mono ?_; rintro e w3 ⟨r3, rfl, hr3, hb3⟩; have q3 : w3.cell? ⟨gs, 0, none⟩ = some (.int .i64 c0) := cell_low hb3 g2 q2; have hbx := HRx.out r3 hr3; have HF3 := Lib.hid (HF2.out.below hb3); have HB3 := Lib.hid (below_then HB2.out (Nat.le_refl _) hb3); have HR3 := Lib.hid (HR2.out.below hb3); clear hr3 hb3)
              | (go_at_call 16; refine (rep_ok HF1.out y Hy.out).mono ?_; rintro e w2 ⟨r2, rfl, hr2, hb2⟩; obtain rfl := (hr2.one HRep.out rfl).symm; have q2 : w2.cell? ⟨gs, 0, none⟩ = some (.int .i64 c0) := cell_low hb2 g1 q1; have g2 : gs < w2.heap.size := Nat.lt_of_lt_of_le g1 hb2.size; have HF2 := Lib.hid (HF1.out.below hb2); have HB2 := Lib.hid (below_then HB1.out (Nat.le_refl _) hb2); have HR2 := Lib.hid (HR1.out.below hb2); clear hr2 hb2)
              | (go_at_call 16; refine (rep_ok HF0.out y Hy.out).mono ?_; rintro e w1 ⟨r1, rfl, hr1, hb1⟩; obtain rfl := (hr1.one HRep.out rfl).symm; have q1 : w1.cell? ⟨gs, 0, none⟩ = some (.int .i64 c0) := cell_low hb1 g0 q0; have g1 : gs < w1.heap.size := Nat.lt_of_lt_of_le g0 hb1.size; have HF1 := Lib.hid (HF0.out.below hb1); have HB1 := Lib.hid (below_then HB0.out (Nat.le_refl _) hb1); have HR1 := Lib.hid (HR0.out.below hb1); clear hr1 hb1))
          all_goals go_wp2
          all_goals
            go_meet
            exact ⟨rfl, HF3.out, HB3.out, HR3.out⟩
        case rest =>
          obtain ⟨rfl, hFx, hBx, hRx⟩ := hcut
          have HFx := Lib.hid hFx
          have HBx := Lib.hid hBx
          have HRx := Lib.hid hRx
          have hcl4 := hRx.2
          clear hFx hBx hRx HF0 HB0 HR0 q0 g0
          go_wp2_with fail
          go_loopw [18, 19] (fun f i wr => ∃ k : Nat, k ≤ cl.length ∧ i = .int .i64 k ∧ f = .bool (decide (x ∈ cl.take k)) ∧ FR wr w.heap.size bf bn bp lj N n J (30010 + k) ∧ Below w.heap.size w wr ∧ RowOf wr wd.heap.size (.slice (some ⟨gs, 0, none⟩) cl.length cs) cl) (fun _ i _ => cl.length - (intOf i).toNat)
          case atStart => exact ⟨0, Nat.zero_le _, rfl, by simp, HFx.out, HBx.out, HRx.out⟩
          case round =>
            obtain ⟨k, hk, rfl, rfl, hF, hB, hR⟩ := hrel
            have HFr := Lib.hid hF
            have HBr := Lib.hid hB
            have HRr := Lib.hid hR
            by_cases hlt : k < cl.length
            · have hone : oneM n J y cl[k] = true := by
                have := (HCl.out.1 cl[k]).1 (List.getElem_mem hlt)
                rw [oneM_in Hy.out this.1]
                exact decide_eq_true this.2.symm
              have hs0 := hR.1.cells (g := gs) rfl k (.int .i64 cl[k]) (by rw [List.getElem?_map, List.getElem?_eq_getElem hlt]; rfl)
              rw [addr_add] at hs0
              have hgw : gs < wr.heap.size := (hR.1.lt gs rfl).2
              have htf := take_found2 cl x k hlt
              have hprev : ∀ m, k = m + 1 → ∃ u, wr.cell? ⟨gs, m, none⟩ = some (.int .i64 u) ∧ decide (cl[k] ≤ u) = false := fun m hm => by
                refine ⟨cl[m], ?_, ?_⟩
                · have := hR.1.cells (g := gs) rfl m (.int .i64 cl[m]) (by rw [List.getElem?_map, List.getElem?_eq_getElem (by omega)]; rfl)
                  rwa [addr_add] at this
                · have := List.pairwise_iff_getElem.1 HCl.out.2 m k (by omega) hlt (by omega)
                  exact decide_eq_false (by omega)
              have Hprev := Lib.hid hprev
              have Hone := Lib.hid hone
              have Htf := Lib.hid htf
              generalize cl[k] = u at *
              generalize decide (x ∈ cl.take k) = bk at *
              have HF0 := Lib.hid (show FR wr.drew w.heap.size bf bn bp lj N n J (30010 + k) from HFr.out.below ⟨rfl, rfl, rfl, Nat.le_refl _, fun _ _ => rfl⟩)
              have hg0 : gs < wr.drew.heap.size := hgw
              have hd0 : wr.drew.cell? ⟨gs, k, none⟩ = some (.int .i64 u) := hs0
              clear hprev hone htf hF hB hR HFx HBx HRx
              have hblk : ∃ cs, Blk wr.drew gs 3 cs := own_heap HRr.out.1 rfl
              have hg1 : w.heap.size ≤ wr.drew.heap.size := HBr.out.size
              have HMx : Hid (30010 + k ≤ 1000000) := Lib.hid (bound_k hlt hcl4)
              have HLen : Hid (cl.length ≤ 1000000) := Lib.hid (Nat.le_trans hcl4 (by decide))
              go_upto_region 23 with (fail)
              by_cases hk0 : k = 0
              · have dk0 : decide ((0 : Int) < (k : Int)) = false := decide_eq_false (by omega)
                have dk1 : decide (0 < k) = false := decide_eq_false (by omega)
                clear hk0
                refine wp_region_still_call 6 (by kernel_rfl) (by kernel_rfl) ?_
                simp only [List.take_succ_cons, List.take_zero, List.drop_succ_cons, List.drop_zero]
                change wpStill Try.prog _ wr.drew (fun a' => wpOp _ _ _ _ _ a' wr.drew) _ _
                iterate 6 still_step
                refine wpStill_nil ?_
                refine wpOp_of rfl rfl ?_
                go_simp
                go_at_call 14; refine (one_kf HF0.out HMx.out y u).mono ?_; rw [Hone.out]; rintro e w1 ⟨rfl, hF1, hk1⟩; have q0 : w1.cell? ⟨gs, k, none⟩ = some (.int .i64 u) := (kf_cell hk1 hblk.choose_spec _).trans hd0; have HF1 := Lib.hid hF1; have HK1 := Lib.hid hk1; clear hF1 hk1
                refine wpStill_of_quiet _ _ ?_
                repeat (go_big_quiet_step (fail))
                refine wpQuiet_nil ?_
                have HB1 := Lib.hid (HBr.out.trans (below_undrew (HK1.out.below hg1)))
                have HR1 := Lib.hid ((HRr.out.drewN 1).kf HK1.out)
                cases bk
                case false =>
                  go_wp2
                  exact ⟨⟨k + 1, by omega, by go_num, by rw [Htf.out, Bool.false_or], HF1.out, HB1.out, HR1.out⟩, by simp [intOf]; omega⟩
                case true =>
                  go_wp2
                  exact ⟨⟨k + 1, by omega, by go_num, by rw [Htf.out, Bool.true_or], HF1.out, HB1.out, HR1.out⟩, by simp [intOf]; omega⟩
              · obtain ⟨m, hm⟩ : ∃ m, k = m + 1 := ⟨k - 1, (Nat.succ_pred hk0).symm⟩
                obtain ⟨v, hv, hle⟩ := Hprev.out m hm
                have hv0 : wr.drew.cell? ⟨gs, m, none⟩ = some (.int .i64 v) := hv
                obtain ⟨hkm, -, hmlt, dk0, dk1⟩ := round_facts hm hlt HLen.out
                have Hm := Lib.hid hm
                clear hm hk0
                refine wp_region_still_call 6 (by kernel_rfl) (by kernel_rfl) ?_
                simp only [List.take_succ_cons, List.take_zero, List.drop_succ_cons, List.drop_zero]
                change wpStill Try.prog _ wr.drew (fun a' => wpOp _ _ _ _ _ a' wr.drew) _ _
                iterate 6 still_step
                refine wpStill_nil ?_
                refine wpOp_of rfl rfl ?_
                go_simp
                go_at_call 14; refine (one_kf HF0.out HMx.out y u).mono ?_; rw [Hone.out]; rintro e w1 ⟨rfl, hF1, hk1⟩; have q0 : w1.cell? ⟨gs, k, none⟩ = some (.int .i64 u) := (kf_cell hk1 hblk.choose_spec _).trans hd0; have q1 : w1.cell? ⟨gs, m, none⟩ = some (.int .i64 v) := (kf_cell hk1 hblk.choose_spec _).trans hv0; have HF1 := Lib.hid hF1; have HK1 := Lib.hid hk1; clear hF1 hk1
                refine wpStill_of_quiet _ _ ?_
                repeat (go_big_quiet_step (fail))
                refine wpQuiet_nil ?_
                clear hkm hmlt q1 hv hv0 hle Hm
                have HB1 := Lib.hid (HBr.out.trans (below_undrew (HK1.out.below hg1)))
                have HR1 := Lib.hid ((HRr.out.drewN 1).kf HK1.out)
                cases bk
                case false =>
                  go_wp2
                  exact ⟨⟨k + 1, by omega, by go_num, by rw [Htf.out, Bool.false_or], HF1.out, HB1.out, HR1.out⟩, by simp [intOf]; omega⟩
                case true =>
                  go_wp2
                  exact ⟨⟨k + 1, by omega, by go_num, by rw [Htf.out, Bool.true_or], HF1.out, HB1.out, HR1.out⟩, by simp [intOf]; omega⟩
            · obtain rfl : k = cl.length := by omega
              rw [List.take_length]
              have hfin : decide (x ∈ cl) = bo := by
                rw [Hok.out]
                refine decide_eq_decide.2 ⟨fun h => ((HCl.out.1 x).1 h).2.symm, fun h => (HCl.out.1 x).2 ⟨Hx.out, h.symm⟩⟩
              rw [hfin]
              clear hfin hF hB hR HFx HBx HRx
              go_wp2_with fail
              refine (wakes_ok _).mono ?_
              rintro e wz ⟨rfl, hbz⟩
              have HBz := Lib.hid (below_then HBr.out (Nat.le_refl _) hbz)
              clear hbz
              go_wp2
              go_ret
              exact ⟨rfl, HBz.out⟩
end Go.Proofs.Ythhnlkbnphiaoaa

/- In order: offset.Ordered. -/
import Derived.Test.YtlipnnibagidiaaGreatEuD
import Derived.WalkMore
import Derived.ScopeJumps
import Derived.Shelf.Abstract
namespace Go.Proofs.YtlipnnibagidiaaGreat
open Go.RowKit Go.Lib
theorem Tab.take {w : World} {A : Option Addr} {T : List Nd} (h : Tab w A T) (k : Nat) : Tab w A (T.take k) := by
  refine ⟨by rw [List.length_take]; have := h.len; omega, ?_⟩
  rcases h.at_ with h0 | ⟨b, off, h1, h2, h3⟩
  · exact .inl (by rw [List.length_take]; omega)
  · refine .inr ⟨b, off, h1, h2, fun i hi => ?_⟩
    rw [List.getElem_take]
    exact h3 i (by rw [List.length_take] at hi; omega)
theorem ErrIs.no {p : Prop} {w w' : World} (h : ¬ p) (hb : Below w.heap.size w w') : ErrIs p w (.returned (.int .i64 2)) w' := ⟨false, rfl, ⟨fun e => (by cases e), fun e => absurd e h⟩, hb⟩
theorem ErrIs.yes {p : Prop} {w w' : World} (h : p) (hb : Below w.heap.size w w') : ErrIs p w (.returned (.int .i64 0)) w' := ⟨true, rfl, ⟨fun _ => h, fun _ => rfl⟩, hb⟩
theorem tab_two {T : List Nd} : T.take 2 = twoNd ↔ T[0]? = some trueNd ∧ T[1]? = some zeroNd := by
  rcases T with _ | ⟨a, _ | ⟨b, T⟩⟩
  · simp [twoNd]
  · simp [twoNd]
  · simp [twoNd]
set_option maxRecDepth 100000 in
set_option maxHeartbeats 4000000 in
theorem check_ok {T : List Nd} {w : World} {A : Option Addr} (c : Nat) (hc : T.length ≤ c) (h : Tab w A T) : Calls Tryz.prog 45 #[.agg #[.slice A T.length c]] w (ErrIs (TabOk T) w) := by
  have hlen := h.len
  have hB1 : Below w.heap.size w (w.alloc (.cells #[.slice A T.length c] 33)) := (Below.refl _ w).alloc (Nat.le_refl _) _
  have hbl : Blk (w.alloc (.cells #[.slice A T.length c] 33)) w.heap.size 33 #[.slice A T.length c] := Blk.new w _ _
  have hsz : (w.alloc (.cells #[.slice A T.length c] 33)).heap.size = w.heap.size + 1 := by simp
  have H := zzh h
  have HB1 := zzh hB1
  have HBL := zzh hbl
  have HL1 : Hid (w.heap.size < (w.alloc (.cells #[.slice A T.length c] 33)).heap.size) := zzh (by omega)
  clear h hB1 hbl hsz
  by_cases h2 : T.length < 2
  · have d1 : decide ((T.length : Int) < 2) = true := by simp; omega
    have HN : Hid (¬ TabOk T) := zzh fun ht => by have := ht.len; omega
    clear h2
    go_enter Tryz.func45, Tryz.ntmps45
    go_wp2
    go_quiet (fail)
    go_wp2
    go_ret
    exact ErrIs.no HN.out (below_drewN HB1.out _)
  have d1 : decide ((T.length : Int) < 2) = false := by simp; omega
  have l2 : (2 : Int) ≤ c := by omega
  have l3 : (2 : Nat) ≤ c := by omega
  have HD1 : Hid (Below w.heap.size w (w.alloc (.cells #[.slice A T.length c] 33)).drew) := zzh ⟨HB1.out.os, HB1.out.tape, HB1.out.output, HB1.out.size, HB1.out.block⟩
  have HDL : Hid (Blk (w.alloc (.cells #[.slice A T.length c] 33)).drew w.heap.size 33 #[.slice A T.length c]) := zzh HBL.out
  obtain ⟨b, off, hA, hbb, hcell⟩ := H.out.at_.resolve_left (by omega)
  have HH2 := zzh h2
  clear h2
  have KE : Hid (∀ W A2, Below w.heap.size w W → Tab W A2 twoNd → Calls Tryz.prog 75 #[.slice A 2 c, .slice A2 2 2] W (TestIs (T.take 2 = twoNd) W)) := zzh fun W A2 hb ht => by
    have := eqn_ok c 2 ((H.out.below hb).take 2) ht
    rwa [show (T.take 2).length = 2 by rw [List.length_take]; have := HH2.out; omega] at this
  have hfd : ∀ (W : World) (a : Option Addr) (l c : Nat), (Instr.field 33 (.agg #[.slice a l c]) 0).run Tryz.prog W = .ok (.slice a l c) W := fun _ _ _ _ => by kernel_rfl
  have HC := zzh hcell
  have HA := zzh hA
  clear hcell
  go_enter Tryz.func45, Tryz.ntmps45
  go_wp2
  subst hA
  go_upto_region 3 with (fail)
  go_region_held3 (fun w' => w'.cell? ⟨w.heap.size, 0, none⟩ = some (.slice (some ⟨b, off, none⟩) T.length c)) (go_keep) (first
    | (go_at_call 76; refine (tnew_ok _).mono ?_; rintro e w1 ⟨A2, rfl, ht2, hb2⟩; have hcc := (hb2.cell (p := ⟨w.heap.size, 0, none⟩) HL1.out).trans (HDL.out.cell 0); simp only [zzg, zzi] at hcc; have HT2 := zzh ht2; have HB2 := zzh hb2; clear ht2 hb2)
    | (go_at_call 75; refine (KE.out _ _ (HD1.out.trans (HB2.out.mono (Nat.le_of_lt HL1.out))) HT2.out).mono ?_; rintro e w3 ⟨r, rfl, hr, hb3⟩; have HR := zzh hr; have HB3 := zzh hb3; have hcd := (hb3.cell (p := ⟨w.heap.size, 0, none⟩) (Nat.lt_of_lt_of_le HL1.out HB2.out.size)).trans hcc; clear hr hb3))
  have HW3 : Hid (Below w.heap.size w w3) := zzh (HD1.out.trans ((HB2.out.mono (Nat.le_of_lt HL1.out)).trans (HB3.out.mono (Nat.le_trans (Nat.le_of_lt HL1.out) HB2.out.size))))
  have hbl3 : Blk w3 w.heap.size 33 #[.slice (some ⟨b, off, none⟩) T.length c] := (HDL.out.below (HB2.out.mono (Nat.le_refl _)) HL1.out).below HB3.out (Nat.lt_of_lt_of_le HL1.out HB2.out.size)
  have HBL3 := zzh hbl3
  clear hbl3
  cases r with
  | false =>
    have HN : Hid (¬ TabOk T) := zzh fun ht => by
      have := HR.out.2 (tab_two.2 ⟨ht.t0, ht.t1⟩)
      cases this
    go_wp2
    go_ret
    exact ErrIs.no HN.out HW3.out
  | true =>
    have HTwo := zzh (tab_two.1 (HR.out.1 rfl))
    clear hcc hcd
    have c3 := HBL3.out.cell 0
    simp only [zzg, zzi] at c3
    go_wp2
    go_loopg [22] T.length (fun g v wr => ∃ i : Nat, i + g = T.length ∧ v = .int .i64 i ∧ Below w.heap.size w wr ∧ Blk wr w.heap.size 33 #[.slice (some ⟨b, off, none⟩) T.length c] ∧ ∀ (k : Nat) (n : Nd), k < i → T[k]? = some n → Stands n k)
    case atStart => exact ⟨0, by omega, rfl, HW3.out, HBL3.out, fun k n hk => absurd hk (Nat.not_lt_zero _)⟩
    case round =>
      obtain ⟨i, hig, rfl, hbw, hblr, hinv⟩ := hrel
      have HBW := zzh hbw
      have HBR := zzh hblr
      have HI := zzh hinv
      have c4 := hblr.cell 0
      simp only [zzg, zzi] at c4
      clear hbw hblr hinv
      cases gk with
      | zero =>
        obtain rfl : i = T.length := by omega
        have d2 : decide ((T.length : Int) < T.length) = false := by simp
        go_wp2_with fail
        refine (places_ok c (H.out.below HBW.out)).mono ?_
        rintro e w5 ⟨M, r, rfl, hr, hb5⟩
        have HR5 := zzh hr
        have HB5 := zzh (HBW.out.trans (hb5.mono HBW.out.size))
        clear hr hb5
        cases r with
        | false =>
          go_wp2
          go_ret
          exact ErrIs.no (fun ht => by have := HR5.out.2 ht.once; cases this) HB5.out
        | true =>
          go_wp2
          go_ret
          exact ErrIs.yes ⟨HTwo.out.1, HTwo.out.2, fun k n hk => HI.out k n (List.getElem?_eq_some_iff.1 hk).1 hk, (by have := HR5.out; simpa using this)⟩ HB5.out
      | succ gk =>
        have hlt : i < T.length := by omega
        have d2 : decide ((i : Int) < T.length) = true := by simp; omega
        have t1 : (0 : Int) ≤ (i : Int) := by omega
        have t2 : (i : Int) < (T.length : Int) := by omega
        have KS : Hid (Calls Tryz.prog 77 #[.pointer (some ⟨b, off + i * 8, none⟩), .int .i64 (i : Int)] wr (TestIs (Stands T[i] i) wr)) := zzh (stands_ok T[i] i (by omega) b (off + i * 8) wr ((HC.out i hlt).below HBW.out))
        go_wp2_with fail
        refine KS.out.mono ?_
        rintro e w5 ⟨r, rfl, hr, hb5⟩
        have HR5 := zzh hr
        have HB5 := zzh (HBW.out.trans (hb5.mono HBW.out.size))
        have HBR5 := zzh (HBR.out.below hb5 HBR.out.lt)
        clear hr hb5
        cases r with
        | false =>
          go_wp2
          go_ret
          exact ErrIs.no (fun ht => by have := HR5.out.2 (ht.st i _ (List.getElem?_eq_getElem hlt)); cases this) HB5.out
        | true =>
          go_wp2
          go_roundg gk
          case measure => omega
          case rel =>
            refine ⟨i + 1, by omega, by go_num, HB5.out, HBR5.out, fun k n hk hn => ?_⟩
            rcases Nat.lt_succ_iff_lt_or_eq.1 hk with hk | rfl
            · exact HI.out k n hk hn
            · rw [List.getElem?_eq_getElem hlt] at hn
              injection hn with hn
              subst hn
              exact (by have := HR5.out; simpa using this)
theorem wp_scope_once {P : Program} {a : Act} {w : World} {Q : Exit → Act → World → Prop} {c rest : Code} (l : Nat) (hf : findLabel c l = some rest)
    (first : c.wp P (Exit.jump l (fun a w => rest.wp P (Exit.jump l (fun _ _ => False) Q) a w) Q) a w) : (Code.scope c).wp P Q a w :=
  wp_scope_jumps l (fun a w => rest.wp P (Exit.jump l (fun _ _ => False) Q) a w) (fun _ _ => 0) hf first fun a w h =>
    Code.wp_mono (fun e a w q => by cases e <;> first | exact q | exact ⟨q.1, q.2.elim⟩) h
def OfIs (r : OfR) (w : World) (e : Ending) (w' : World) : Prop := e = .returned (.tuple #[.int .i64 r.b, .int .i64 r.n, .int .i64 r.e]) ∧ Below w.heap.size w w'
set_option maxRecDepth 100000 in
set_option maxHeartbeats 4000000 in
theorem of_ok {T : List Nd} {w : World} {A : Option Addr} (c : Nat) (id : Int) (hid : -9223372036854775808 ≤ id ∧ id ≤ 9223372036854775807) (hc : T.length ≤ c) (h : Tab w A T) (ho : TabOk T → ordB T = true) :
    Calls Tryz.prog 136 #[.agg #[.slice A T.length c], .int .i64 id] w (OfIs (ofT T id) w) := by
  have hlen := h.len
  have HB1 := zzh (show Below w.heap.size w (w.alloc (.cells #[.slice A T.length c] 33)) from (Below.refl _ w).alloc (Nat.le_refl _) _)
  have HBL := zzh (show Blk (w.alloc (.cells #[.slice A T.length c] 33)) w.heap.size 33 #[.slice A T.length c] from Blk.new w _ _)
  have HL1 : Hid (w.heap.size < (w.alloc (.cells #[.slice A T.length c] 33)).heap.size) := zzh (by simp)
  have H := zzh h
  have HO := zzh ho
  have HC := zzh hc
  clear h ho hc
  go_enter Tryz.func136, Tryz.ntmps136
  go_wp2_with fail
  refine wp_scope_once 0 rfl ?_
  go_wp2_with fail
  refine (check_ok c HC.out (H.out.below HB1.out)).mono ?_
  rintro e w1 ⟨r, rfl, hr, hb⟩
  have c0 := (HBL.out.below hb HL1.out).cell 0
  simp only [zzg, zzi] at c0
  have HR := zzh hr
  have HB1w := zzh hb
  have HB2 : Hid (Below w.heap.size w w1) := zzh (HB1.out.trans (hb.mono (Nat.le_of_lt HL1.out)))
  clear hr hb
  cases r with
  | false =>
    have hn : tabB T = false := by
      cases ht : tabB T with
      | false => rfl
      | true => exact absurd (HR.out.2 (tabB_iff.1 ht)) (by simp)
    have HN := zzh hn
    clear hn
    go_wp2
    simp only [Exit.jump]
    go_ret3
    refine ⟨?_, HB2.out⟩
    simp only [ofT, HN.out]
    rfl
  | true =>
  have ht := HR.out.1 rfl
  have HT := zzh ht
  have HT2 := zzh (tabB_iff.2 ht)
  clear ht
  by_cases t1 : id < 0
  · have d1 := decide_eq_true t1
    have HS : Hid (ofT T id = ⟨0, 0, 2⟩) := zzh (by unfold ofT; rw [if_neg (by simp; intro _ h; omega)])
    clear t1
    go_wp2
    simp only [Exit.jump]
    go_ret3
    rw [HS.out]
    exact ⟨rfl, HB2.out⟩
  have d1 := decide_eq_false t1
  obtain ⟨i, rfl⟩ : ∃ i : Nat, id = i := ⟨id.toNat, by omega⟩
  by_cases t2 : T.length ≤ i
  · have d2 : decide (T.length ≤ i) = true := by simp; omega
    have HS : Hid (ofT T i = ⟨0, 0, 2⟩) := zzh (by unfold ofT; rw [if_neg (by simp; intro _; omega)])
    clear t1 t2
    go_wp2
    simp only [Exit.jump]
    go_ret3
    rw [HS.out]
    exact ⟨rfl, HB2.out⟩
  have d2 : decide (T.length ≤ i) = false := by simp; omega
  have hil : i < T.length := by omega
  obtain ⟨b, off, hA, hbb, hcell⟩ := H.out.at_.resolve_left (by omega)
  subst hA
  have d3 : (0 : Int) ≤ (i : Int) := by omega
  have d4 : (i : Int) < (T.length : Int) := by omega
  have hn := (hcell i hil).below HB2.out
  have HCell := zzh hcell
  have HIL := zzh hil
  have hnd : ndAt T i = T[i] := ndAt_nat hil
  have HM := zzh (List.getElem_mem hil)
  have HST := zzh (HT.out.st i T[i] (List.getElem?_eq_getElem hil))
  clear hcell t1 t2
  generalize T[i] = n at *
  clear hil
  obtain ⟨x0, x1, x2, x3, x4, x5, x6, x7⟩ := hn.all
  have HND := zzh hnd
  have HNA := zzh hn
  clear hn hnd
  have HG : Hid (ofT T i = if n.sort = 1 then ⟨(baseT T i).1, (baseT T i).2, 0⟩ else ⟨0, 0, 33⟩) := zzh (by unfold ofT; rw [if_pos (by rw [HT2.out]; simp; have := HIL.out; omega), HND.out])
  by_cases t3 : n.sort = 1
  · rw [t3] at x5
    have HS : Hid (ofT T i = ⟨(baseT T i).1, (baseT T i).2, 0⟩) := zzh (by rw [HG.out, if_pos t3])
    have HMay : Hid (n.op = 10 ∨ n.op = 11 → mayI n.num = true) := zzh fun hq => mayI_iff.2 (HST.out.numb.1 (hq.imp id .inl))
    clear t3
    have HB3 := zzh (show Below w1.heap.size w1 (w1.alloc (.cells #[.int .i64 0, .int .i64 0] 184)) from (Below.refl _ w1).alloc (Nat.le_refl _) _)
    have HSM := zzh (show Blk (w1.alloc (.cells #[.int .i64 0, .int .i64 0] 184)) w1.heap.size 184 #[.int .i64 0, .int .i64 0] from Blk.new w1 _ _)
    have HLT := zzh (show w.heap.size < w1.heap.size from Nat.lt_of_lt_of_le HL1.out HB1w.out.size)
    have c1 := (HB3.out.cell (p := ⟨w.heap.size, 0, none⟩) HLT.out).trans c0
    have HNB := zzh (HNA.out.below HB3.out)
    obtain ⟨y0, y1, y2, y3, y4, y5, y6, y7⟩ := HNB.out.all
    by_cases q1 : n.op = 11
    · rw [q1] at y0
      have HQ := zzh q1
      have HA : Hid (stepA 0 0 n.num = (n.num, 0)) := zzh (by
        have := HMay.out (.inr q1)
        unfold stepA addN
        rw [if_pos rfl, Int.zero_add, this]
        rfl)
      have HA0 := zzh (HST.out.one (.inr q1))
      have HBT : Hid (baseT T i = (n.a0, n.num)) := zzh (by unfold baseT; rw [HND.out, if_pos q1])
      have HOD := zzh (ordB_iff.1 (HO.out HT.out) n HM.out q1)
      clear q1
      go_wp2
      go_step3
      go_wp2_with fail
      refine (sadd_ok 0 0 n.num HSM.out).mono ?_
      rintro e w2 ⟨rfl, hs, hk⟩
      rw [HA.out] at hs
      have hb2 := hk.below (B := w1.heap.size) (by simp) (fun k e => Nat.le_of_eq e.symm)
      have HB5 := zzh (HB3.out.trans hb2)
      have HB6 := zzh (HB2.out.trans (HB5.out.mono HB2.out.size))
      have c2 := (HB5.out.cell (p := ⟨w.heap.size, 0, none⟩) HLT.out).trans c0
      have s0 := hs.cell 0
      have s1 := hs.cell 1
      simp only [zzg, zzi, zzj] at s0 s1
      obtain ⟨k, hk0⟩ : ∃ k : Nat, n.a0 = k := ⟨n.a0.toNat, by have := HA0.out; omega⟩
      have hkT : k < T.length := by have := HA0.out; have := HIL.out; omega
      have hm := (HCell.out k hkT).below HB6.out
      have HOD2 : Hid (T[k].op ≠ 11 ∧ T[k].op ≠ 10) := zzh (by have := HOD.out.2; rw [hk0, ndAt_nat hkT] at this; exact this)
      have HHS := zzh hs
      have HK0 := zzh hk0
      generalize T[k] = m at *
      obtain ⟨z0, z1, z2, z3, z4, z5, z6, z7⟩ := hm.all
      have e1 : (m.op == 11) = false := by simp [HOD2.out.1]
      have e2 : (m.op == 10) = false := by simp [HOD2.out.2]
      have g1 : (0 : Int) ≤ (k : Int) := by omega
      have g2 : (k : Int) < (T.length : Int) := by omega
      clear hs hk hb2 hkT hm
      rw [hk0]
      go_wp2
      go_step3
      refine ⟨rfl, ?_⟩
      go_wp2
      go_quiet (fail)
      go_wp2
      simp only [Exit.jump]
      go_ret3
      rw [HS.out, HBT.out, HK0.out]
      exact ⟨rfl, below_drewN HB6.out _⟩
    · have e1 : (n.op == 11) = false := by simp [q1]
      by_cases q2 : n.op = 10
      · rw [q2] at y0
        have HQ := zzh q2
        have HA : Hid (stepA 0 0 n.num = (n.num, 0)) := zzh (by
          have := HMay.out (.inl q2)
          unfold stepA addN
          rw [if_pos rfl, Int.zero_add, this]
          rfl)
        have HBT : Hid (baseT T i = (1, n.num)) := zzh (by unfold baseT; rw [HND.out, if_neg q1, if_pos q2])
        clear q1 q2
        go_wp2
        go_step3
        go_wp2_with fail
        refine (sadd_ok 0 0 n.num HSM.out).mono ?_
        rintro e w2 ⟨rfl, hs, hk⟩
        rw [HA.out] at hs
        have hb2 := hk.below (B := w1.heap.size) (by simp) (fun k e => Nat.le_of_eq e.symm)
        have HB6 := zzh (HB2.out.trans ((HB3.out.trans hb2).mono HB2.out.size))
        have s0 := hs.cell 0
        have s1 := hs.cell 1
        simp only [zzg, zzi, zzj] at s0 s1
        clear hs hk hb2
        go_wp2
        go_quiet (fail)
        go_wp2
        simp only [Exit.jump]
        go_ret3
        rw [HS.out, HBT.out]
        exact ⟨rfl, below_drewN HB6.out _⟩
      · have e2 : (n.op == 10) = false := by simp [q2]
        have HBT : Hid (baseT T i = ((i : Int), 0)) := zzh (by unfold baseT; rw [HND.out, if_neg q1, if_neg q2])
        clear q1 q2
        have s0 := HSM.out.cell 0
        have s1 := HSM.out.cell 1
        simp only [zzg, zzi, zzj] at s0 s1
        go_wp2
        go_step3
        go_wp2
        go_quiet (fail)
        go_wp2
        simp only [Exit.jump]
        go_ret3
        rw [HS.out, HBT.out]
        exact ⟨rfl, below_drewN (HB2.out.trans (HB3.out.mono HB2.out.size)) _⟩
  · have d5 : (n.sort == 1) = false := by simp [t3]
    have HS : Hid (ofT T i = ⟨0, 0, 33⟩) := zzh (by rw [HG.out, if_neg t3])
    clear t3
    go_wp2
    simp only [Exit.jump]
    go_ret3
    rw [HS.out]
    exact ⟨rfl, HB2.out⟩
set_option maxHeartbeats 1000000 in
theorem nindex_ok {w : World} {B : Option Addr} {L : List Nd} (cap : Nat) (g : Nat) (lb : Array Value) (p : Nd → Bool) (eg : ∀ args w, (callFunc g args).run Tryz.prog w = .ok (.enter g args) w) (h0 : Tab w B L)
    (hp : ∀ W x, x ∈ L → Below w.heap.size w W → Calls Tryz.prog g (#[nodeVal x] ++ lb) W fun e w' => e = .returned (.bool (p x)) ∧ Below W.heap.size W w') :
    Calls Tryz.prog 134 #[.slice B L.length cap, .func (.func g) #[] lb] w fun e w' => ∃ r : Int, e = .returned (.int .i64 r) ∧ (0 ≤ r ↔ L.any p = true) ∧ Below w.heap.size w w' := by
  have hlen := h0.len
  have HP := zzh hp
  have H0 := zzh h0
  clear hp h0
  go_enter Tryz.func134, Tryz.ntmps134
  go_wp2
  go_loopg [8] L.length (fun g v wr => ∃ i : Nat, i + g = L.length ∧ v = .int .i64 i ∧ Below w.heap.size w wr ∧ (L.any p = true ↔ (L.drop i).any p = true))
  case atStart => exact ⟨0, by omega, rfl, Below.refl _ _, Iff.rfl⟩
  case round =>
    obtain ⟨i, hig, rfl, hi, hinv⟩ := hrel
    have HW := zzh hi
    have HV := zzh hinv
    clear hi hinv
    cases gk with
    | zero =>
      obtain rfl : i = L.length := by omega
      have d1 : decide ((L.length : Int) < L.length) = false := by simp
      have HN : Hid ((0 : Int) ≤ -1 ↔ L.any p = true) := zzh ⟨fun h => by omega, fun h => by have := HV.out.1 h; rw [List.drop_length] at this; cases this⟩
      go_wp2
      go_ret
      exact ⟨_, rfl, HN.out, HW.out⟩
    | succ gk =>
      have hlt : i < L.length := by omega
      have d1 : decide ((i : Int) < L.length) = true := by simp; omega
      have t1 : (0 : Int) ≤ (i : Int) := by omega
      have t2 : (i : Int) < (L.length : Int) := by omega
      obtain ⟨b, off, hA, hbb, hcell⟩ := (H0.out.below HW.out).at_.resolve_left (by omega)
      obtain ⟨y0, y1, y2, y3, y4, y5, y6, y7⟩ := (hcell i hlt).all
      have KP := zzh (HP.out wr L[i] (List.getElem_mem hlt) HW.out)
      have HD := zzh (show (L.drop i).any p = (p L[i] || (L.drop (i + 1)).any p) by rw [List.drop_eq_getElem_cons hlt, List.any_cons])
      subst hA
      clear hcell
      generalize L[i] = x at *
      simp only [nodeVal, nodeCells] at KP
      obtain ⟨r, hr⟩ : ∃ r, p x = r := ⟨_, rfl⟩
      rw [hr] at KP HD
      clear hr
      go_wp2_with fail
      refine KP.out.mono ?_
      rintro e w2 ⟨rfl, h2⟩
      have H2 := zzh (HW.out.trans (h2.mono HW.out.size))
      clear h2 y0 y1 y2 y3 y4 y5 y6 y7
      cases r with
      | true =>
        have HN : Hid ((0 : Int) ≤ (i : Int) ↔ L.any p = true) := zzh ⟨fun _ => HV.out.2 (by rw [HD.out]; rfl), fun _ => by omega⟩
        go_wp2
        go_ret
        exact ⟨_, rfl, HN.out, H2.out⟩
      | false =>
        go_wp2
        go_roundg gk
        case measure => omega
        case rel => exact ⟨i + 1, by omega, by go_num, H2.out, by rw [HV.out, HD.out]; simp⟩
theorem ncontains_ok {w : World} {B : Option Addr} {L : List Nd} (cap : Nat) (g : Nat) (lb : Array Value) (p : Nd → Bool) (eg : ∀ args w, (callFunc g args).run Tryz.prog w = .ok (.enter g args) w) (h0 : Tab w B L)
    (hp : ∀ W x, x ∈ L → Below w.heap.size w W → Calls Tryz.prog g (#[nodeVal x] ++ lb) W fun e w' => e = .returned (.bool (p x)) ∧ Below W.heap.size W w') :
    Calls Tryz.prog 88 #[.slice B L.length cap, .func (.func g) #[] lb] w fun e w' => e = .returned (.bool (L.any p)) ∧ Below w.heap.size w w' := by
  have KI := zzh (nindex_ok cap g lb p eg h0 hp)
  obtain ⟨bb, hbb⟩ : ∃ bb, L.any p = bb := ⟨_, rfl⟩
  have HBB := zzh hbb
  rw [hbb]
  clear hp h0 hbb eg
  go_enter Tryz.func88, Tryz.ntmps88
  go_wp2_with fail
  refine KI.out.mono ?_
  rintro e w2 ⟨r, rfl, hr, hk⟩
  have HK := zzh hk
  have d0 : decide (0 ≤ r) = bb := by
    rw [← HBB.out, Bool.eq_iff_iff, decide_eq_true_iff]
    exact hr
  clear hk hr
  go_wp2
  go_ret
  exact ⟨by rw [← d0]; rfl, HK.out⟩
def ordBad (T : List Nd) (n : Nd) : Bool := n.op == 11 && (n.num == 0 || (ndAt T n.a0).op == 11 || (ndAt T n.a0).op == 10)
theorem ordB_any (T : List Nd) : ordB T = !T.any (ordBad T) := by
  rw [Bool.eq_iff_iff, ordB_iff, Bool.not_eq_true', List.any_eq_false]
  refine forall_congr' fun n => forall_congr' fun _ => ?_
  unfold ordBad
  simp only [Bool.and_eq_true, Bool.or_eq_true, beq_iff_eq, not_and, not_or]
  exact forall_congr' fun _ => ⟨fun ⟨a, b, c⟩ => ⟨⟨a, b⟩, c⟩, fun ⟨⟨a, b⟩, c⟩ => ⟨a, b, c⟩⟩
set_option maxRecDepth 100000 in
set_option maxHeartbeats 4000000 in
theorem orderedf_ok {W : World} {q : Nat} {A : Option Addr} {c : Nat} {T : List Nd} (hb : Blk W q 33 #[.slice A T.length c]) (ht : Tab W A T) (hT : TabOk T) (x : Nd) (hx : x ∈ T) :
    Calls Tryz.prog 133 #[nodeVal x, .pointer (some ⟨q, 0, none⟩)] W fun e w' => e = .returned (.bool (ordBad T x)) ∧ Below W.heap.size W w' := by
  obtain ⟨i, hi, hti, hst⟩ := hT.stands hx
  simp only [nodeVal, nodeCells]
  have HB0 := zzh (show Below W.heap.size W (W.alloc (.cells (nodeCells x).toArray 51)) from (Below.refl _ W).alloc (Nat.le_refl _) _)
  by_cases ho : x.op = 11
  · obtain ⟨h0, h1⟩ := hst.one (.inr ho)
    obtain ⟨k, hk⟩ : ∃ k : Nat, x.a0 = k := ⟨x.a0.toNat, by omega⟩
    have hkT : k < T.length := by omega
    obtain ⟨b, off, hA, hbb, hcell⟩ := ht.at_.resolve_left (by omega)
    subst hA
    have hm := (hcell k hkT).below HB0.out
    have hnd : ndAt T x.a0 = T[k] := by rw [hk, ndAt_nat hkT]
    have g1 : (0 : Int) ≤ (k : Int) := by omega
    have g2 : (k : Int) < (T.length : Int) := by omega
    have hb1 := hb.alloc (.cells (nodeCells x).toArray 51)
    have c0 := hb1.cell 0
    simp only [zzg, zzi] at c0
    have HR : Hid (ordBad T x = (x.num == 0 || T[k].op == 11 || T[k].op == 10)) := zzh (by unfold ordBad; rw [ho, hnd]; rfl)
    generalize T[k] = m at *
    obtain ⟨z0, z1, z2, z3, z4, z5, z6, z7⟩ := hm.all
    simp only [nodeCells] at z0 z1 z2 z3 z4 z5 z6 z7 c0
    rw [ho, hk]
    rw [ho, hk] at z0 z1 z2 z3 z4 z5 z6 z7 c0
    have HX : Hid (Below W.heap.size W (W.alloc (.cells #[.int .i8 11, .int .i8 x.len, .int .i64 k, .int .i64 x.a1, .int .i64 x.a2, .int .i64 x.sort, .int .i64 x.fn, .int .i64 x.num] 51))) := zzh ((Below.refl _ W).alloc (Nat.le_refl _) _)
    clear hm hb1 hb ht hT hcell hbb hnd h0 h1 hst hti hi hx HB0
    cases e1 : x.num == 0 with
    | true =>
      go_enter Tryz.func133, Tryz.ntmps133
      go_wp2
      go_ret
      rw [HR.out, e1]
      exact ⟨rfl, HX.out⟩
    | false =>
      cases e2 : m.op == 11 with
      | true =>
        go_enter Tryz.func133, Tryz.ntmps133
        go_wp2
        go_ret
        rw [HR.out, e1, e2]
        exact ⟨rfl, HX.out⟩
      | false =>
        go_enter Tryz.func133, Tryz.ntmps133
        go_wp2
        go_ret
        rw [HR.out, e1, e2]
        exact ⟨rfl, HX.out⟩
  · have e0 : (x.op == 11) = false := by simp [ho]
    have HR : Hid (ordBad T x = false) := zzh (by unfold ordBad; rw [e0]; rfl)
    have HX : Hid (Below W.heap.size W (W.alloc (.cells #[.int .i8 x.op, .int .i8 x.len, .int .i64 x.a0, .int .i64 x.a1, .int .i64 x.a2, .int .i64 x.sort, .int .i64 x.fn, .int .i64 x.num] 51))) := zzh ((Below.refl _ W).alloc (Nat.le_refl _) _)
    clear hb ht hT hst hti hi hx HB0 ho
    go_enter Tryz.func133, Tryz.ntmps133
    go_wp2
    go_ret
    rw [HR.out]
    exact ⟨rfl, HX.out⟩
set_option maxRecDepth 100000 in
set_option maxHeartbeats 4000000 in
theorem ordered_ok {T : List Nd} {w : World} {A : Option Addr} (c : Nat) (hc : T.length ≤ c) (h : Tab w A T) : Calls Tryz.prog 87 #[.agg #[.slice A T.length c]] w fun e w' => e = .returned (.bool (tabB T && ordB T)) ∧ Below w.heap.size w w' := by
  have hlen := h.len
  have HB1 := zzh (show Below w.heap.size w (w.alloc (.cells #[.slice A T.length c] 33)) from (Below.refl _ w).alloc (Nat.le_refl _) _)
  have HBL := zzh (show Blk (w.alloc (.cells #[.slice A T.length c] 33)) w.heap.size 33 #[.slice A T.length c] from Blk.new w _ _)
  have HL1 : Hid (w.heap.size < (w.alloc (.cells #[.slice A T.length c] 33)).heap.size) := zzh (by simp)
  have H := zzh h
  have HC := zzh hc
  clear h hc
  go_enter Tryz.func87, Tryz.ntmps87
  go_wp2_with fail
  refine (check_ok c HC.out (H.out.below HB1.out)).mono ?_
  rintro e w1 ⟨r, rfl, hr, hb⟩
  have c0 := (HBL.out.below hb HL1.out).cell 0
  simp only [zzg, zzi] at c0
  have HR := zzh hr
  have HB2 : Hid (Below w.heap.size w w1) := zzh (HB1.out.trans (hb.mono (Nat.le_of_lt HL1.out)))
  have HBL2 := zzh (HBL.out.below hb HL1.out)
  clear hr hb
  cases r with
  | false =>
    have HN : Hid ((tabB T && ordB T) = false) := zzh (by
      cases ht : tabB T with
      | false => rfl
      | true => exact absurd (HR.out.2 (tabB_iff.1 ht)) (by simp))
    go_wp2
    go_ret
    rw [HN.out]
    exact ⟨rfl, HB2.out⟩
  | true =>
    have HT := zzh (HR.out.1 rfl)
    have HG : Hid ((tabB T && ordB T) = !T.any (ordBad T)) := zzh (by rw [tabB_iff.2 HT.out, ordB_any]; rfl)
    go_wp2_with fail
    refine (ncontains_ok c 133 #[.pointer (some ⟨w.heap.size, 0, none⟩)] (ordBad T) (enters_of Tryz.func133 (by kernel_rfl) rfl) (H.out.below HB2.out) (fun W x hx hW => orderedf_ok (HBL2.out.below hW HBL2.out.lt) (H.out.below (HB2.out.trans (hW.mono HB2.out.size))) HT.out x hx)).mono ?_
    rintro e w2 ⟨rfl, hb2⟩
    generalize T.any (ordBad T) = bb at *
    have HB3 := zzh (HB2.out.trans (hb2.mono HB2.out.size))
    clear hb2
    go_wp2
    go_ret
    rw [HG.out]
    exact ⟨rfl, HB3.out⟩
end Go.Proofs.YtlipnnibagidiaaGreat

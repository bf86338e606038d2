/- A quiet walk, operation by operation: an operation that is wanted has one value in every world of the class; one that is passed over has none. -/
import Derived.Test.YtkapbdjobfbhhaaGreatEuG
namespace Go.Proofs.YtkapbdjobfbhhaaGreat
open Go.RowKit Go.Lib
theorem nodup_of {T : List Nd} (h : ∀ i k, k < i → (hi : i < T.length) → (hk : k < T.length) → T[k] ≠ T[i]) : T.Nodup :=
  List.pairwise_iff_getElem.2 fun i j hi hj hij => h j i hij hj hi
theorem once_of {T : List Nd} (h : T.Nodup) {i k : Nat} (hki : k < i) (hi : i < T.length) : T[k]'(by omega) ≠ T[i] :=
  List.pairwise_iff_getElem.1 h k i (by omega) hi hki
set_option maxRecDepth 100000 in
set_option maxHeartbeats 4000000 in
theorem rcheck_ok {T : List Nd} {w : World} {A : Option Addr} (c : Nat) (h : Tab w A T) : Calls Tryz.prog 13 #[.agg #[.slice A T.length c]] w (ErrIs (TabOk T) w) := by
  have hlen := h.len
  have HB1 := Lib.hid (show Below w.heap.size w (w.alloc (.cells #[.slice A T.length c] 33)) from (Below.refl _ w).alloc (Nat.le_refl _) _)
  have HBL := Lib.hid (show Blk (w.alloc (.cells #[.slice A T.length c] 33)) w.heap.size 33 #[.slice A T.length c] from Blk.new w _ _)
  have HL1 : Hid (w.heap.size < (w.alloc (.cells #[.slice A T.length c] 33)).heap.size) := Lib.hid (by simp)
  have H := Lib.hid h
  clear h
  go_enter Tryz.func13, Tryz.ntmps13
  go_wp2_with fail
  refine (rnew_ok _).mono ?_
  rintro e w1 ⟨A2, rfl, ht2, hb2⟩
  have hbl1 := HBL.out.below hb2 HL1.out
  have HW1 := Lib.hid (HB1.out.trans (hb2.mono (Nat.le_of_lt HL1.out)))
  have hx : Below w.heap.size w (w1.alloc (.cells #[.slice A2 2 2] 33)) := HW1.out.alloc HW1.out.size _
  have hbl2 := hbl1.alloc (.cells #[.slice A2 2 2] 33)
  have hbx2 : Blk (w1.alloc (.cells #[.slice A2 2 2] 33)) w1.heap.size 33 #[.slice A2 2 2] := Blk.new w1 _ _
  have ht3 := ht2.below ((Below.refl _ w1).alloc (Nat.le_refl _) (.cells #[.slice A2 2 2] 33))
  have c0 := hbl2.cell 0
  have c1 := hbx2.cell 0
  simp only [List.getElem?_toArray, List.getElem?_cons_zero] at c0 c1
  have HX := Lib.hid hx
  have HBL2 := Lib.hid hbl2
  have HT3 := Lib.hid ht3
  have hs1 := hbl2.lt
  have hs2 := hbx2.lt
  clear hb2 hbl1 hx hbl2 hbx2 ht2 ht3
  by_cases h2 : T.length < 2
  · have d1 : decide ((T.length : Int) < 2) = true := by simp; omega
    have HN : Hid (¬ TabOk T) := Lib.hid fun ht => by have := ht.len; omega
    clear h2
    go_wp2
    go_quiet (fail)
    go_wp2
    go_ret
    exact ErrIs.no HN.out (below_drewN HX.out _)
  have d1 : decide ((T.length : Int) < 2) = false := by simp; omega
  obtain ⟨b, off, hA, hbb, hcell⟩ := H.out.at_.resolve_left (by omega)
  obtain ⟨b2, off2, hA2, hbb2, hcell2⟩ := HT3.out.at_.resolve_left (by decide)
  subst hA hA2
  have hn0 := (hcell 0 (by omega)).below HX.out
  have hn1 := (hcell 1 (by omega)).below HX.out
  have hm0 := hcell2 0 (by decide)
  have hm1 := hcell2 1 (by decide)
  rw [show twoNd[0]'(by decide) = trueNd from rfl] at hm0
  rw [show twoNd[1]'(by decide) = zeroNd from rfl] at hm1
  obtain ⟨r0, hr0, he0⟩ := node_eq hn0.wf hm0.wf
  obtain ⟨r1, hr1, he1⟩ := node_eq hn1.wf hm1.wf
  have hg0 : T[0]? = some (T[0]'(by omega)) := List.getElem?_eq_getElem (by omega)
  have hg1 : T[1]? = some (T[1]'(by omega)) := List.getElem?_eq_getElem (by omega)
  have HR0 := Lib.hid (show r0 = true ↔ T[0]? = some trueNd by rw [hr0, hg0]; simp)
  have HR1 := Lib.hid (show r1 = true ↔ T[1]? = some zeroNd by rw [hr1, hg1]; simp)
  clear hr0 hr1 hg0 hg1
  simp only [Nat.zero_mul, Nat.add_zero, Nat.one_mul] at hn0 hn1 hm0 hm1
  obtain ⟨x0, x1, x2, x3, x4, x5, x6, x7⟩ := hn0.all
  obtain ⟨y0, y1, y2, y3, y4, y5, y6, y7⟩ := hn1.all
  obtain ⟨u0, u1, u2, u3, u4, u5, u6, u7⟩ := hm0.all
  obtain ⟨v0, v1, v2, v3, v4, v5, v6, v7⟩ := hm1.all
  simp only [trueNd] at u0 u1 u2 u3 u4 u5 u6 u7
  simp only [zeroNd] at v0 v1 v2 v3 v4 v5 v6 v7
  simp only [nodeVal, nodeCells, trueNd] at he0
  simp only [nodeVal, nodeCells, zeroNd] at he1
  have g0 := node_neq he0
  have g1 := node_neq he1
  have gg := node_guard
  have HC := Lib.hid hcell
  have l2 : (2 : Int) ≤ T.length := by omega
  clear he0 he1 hn0 hn1 hm0 hm1 hcell hcell2
  generalize T[0] = n0 at *
  generalize T[1] = n1 at *
  clear h2
  cases r0 with
  | false =>
    go_wp2
    go_quiet (fail)
    go_wp2
    go_ret
    exact ErrIs.no (fun ht => by have := HR0.out.2 ht.t0; cases this) (below_drewN HX.out _)
  | true =>
    cases r1 with
    | false =>
      go_wp2
      go_quiet (fail)
      go_wp2
      go_ret
      exact ErrIs.no (fun ht => by have := HR1.out.2 ht.t1; cases this) (below_drewN HX.out _)
    | true =>
      have HTwo := Lib.hid (And.intro (HR0.out.1 rfl) (HR1.out.1 rfl))
      go_wp2
      go_quiet (fail)
      clear g0 g1 x0 x1 x2 x3 x4 x5 x6 x7 y0 y1 y2 y3 y4 y5 y6 y7 u0 u1 u2 u3 u4 u5 u6 u7 v0 v1 v2 v3 v4 v5 v6 v7 c0 c1
      go_wp2
      go_loopg [4] T.length (fun g v wr => ∃ i : Nat, i + g = T.length ∧ v = .int .i64 i ∧ Below w.heap.size w wr ∧ Blk wr w.heap.size 33 #[.slice (some ⟨b, off, none⟩) T.length c] ∧ (∀ (k : Nat) (n : Nd), k < i → T[k]? = some n → Stands n k) ∧ ∀ j k : Nat, k < j → j < i → T[k]? ≠ T[j]?)
      case atStart => exact ⟨0, by omega, rfl, below_drewN HX.out _, HBL2.out, fun k n hk => absurd hk (Nat.not_lt_zero _), fun j k _ hj => absurd hj (Nat.not_lt_zero _)⟩
      case round =>
        obtain ⟨i, hig, rfl, hbw, hblr, hinv, honce⟩ := hrel
        have HBW := Lib.hid hbw
        have HBR := Lib.hid hblr
        have HI := Lib.hid hinv
        have HO := Lib.hid honce
        have c4 := hblr.cell 0
        have hls := hblr.lt
        simp only [List.getElem?_toArray, List.getElem?_cons_zero] at c4
        clear hbw hblr hinv honce
        cases gk with
        | zero =>
          obtain rfl : i = T.length := by omega
          have d2 : decide ((T.length : Int) < T.length) = false := by simp
          go_wp2
          go_ret
          refine ErrIs.yes ⟨HTwo.out.1, HTwo.out.2, fun k n hn => HI.out k n (List.getElem?_eq_some_iff.1 hn).1 hn, nodup_of fun j k hkj hj hk e => ?_⟩ HBW.out
          refine HO.out j k hkj hj ?_
          rw [List.getElem?_eq_getElem hj, List.getElem?_eq_getElem hk, e]
        | succ gk =>
          have hlt : i < T.length := by omega
          have d2 : decide ((i : Int) < T.length) = true := by simp; omega
          have t1 : (0 : Int) ≤ (i : Int) := by omega
          have t2 : (i : Int) < (T.length : Int) := by omega
          have hn := (HC.out i hlt).below HBW.out
          have HNat := Lib.hid (HC.out i hlt)
          have HWf := Lib.hid hn.wf
          obtain ⟨x0, x1, x2, x3, x4, x5, x6, x7⟩ := hn.all
          have HTi := Lib.hid (List.getElem?_eq_getElem hlt)
          clear hn
          generalize T[i] = n at *
          go_wp2_with fail
          refine (rstands_ok n HWf.out i wr).mono ?_
          rintro e w5 ⟨r, rfl, hr, hb5⟩
          have HR5 := Lib.hid hr
          have HB5 := Lib.hid (HBW.out.trans (hb5.mono HBW.out.size))
          have HBR5 := Lib.hid (HBR.out.below hb5 HBR.out.lt)
          clear hr hb5 x0 x1 x2 x3 x4 x5 x6 x7 c4
          cases r with
          | false =>
            go_wp2
            go_ret
            exact ErrIs.no (fun ht => by have := HR5.out.2 (ht.st i _ HTi.out); cases this) HB5.out
          | true =>
            go_wp2
            go_loopg [5] i (fun g v wx => ∃ k : Nat, k + g = i ∧ v = .int .i64 k ∧ Below w.heap.size w wx ∧ Blk wx w.heap.size 33 #[.slice (some ⟨b, off, none⟩) T.length c] ∧ ∀ j : Nat, j < k → T[j]? ≠ T[i]?)
            case atStart => exact ⟨0, by omega, rfl, HB5.out, HBR5.out, fun j hj => absurd hj (Nat.not_lt_zero _)⟩
            case round =>
              obtain ⟨k, hkg, rfl, hbx, hblx, hne⟩ := hrel
              have HBX := Lib.hid hbx
              have HBLX := Lib.hid hblx
              have HNE := Lib.hid hne
              have c5 := hblx.cell 0
              have hls5 := hblx.lt
              simp only [List.getElem?_toArray, List.getElem?_cons_zero] at c5
              clear hbx hblx hne
              cases gk with
              | zero =>
                obtain rfl : k = i := by omega
                have d3 : decide (k < k) = false := by simp
                have d4 : decide ((k : Int) < (k : Int)) = false := by simp
                go_wp2
                go_roundg gk
                case measure => omega
                case rel =>
                  refine ⟨k + 1, by omega, by go_num, HBX.out, HBLX.out, fun j m hj hm => ?_, fun j q hq hj => ?_⟩
                  · rcases Nat.lt_succ_iff_lt_or_eq.1 hj with hj | rfl
                    · exact HI.out j m hj hm
                    · rw [HTi.out] at hm
                      injection hm with hm
                      subst hm
                      exact (by have := HR5.out; simpa using this)
                  · rcases Nat.lt_succ_iff_lt_or_eq.1 hj with hj | rfl
                    · exact HO.out j q hq hj
                    · exact HNE.out q hq
              | succ g2 =>
                have hki : k < i := by omega
                have hkT : k < T.length := by omega
                have d3 : decide (k < i) = true := by simp; omega
                have d4 : decide ((k : Int) < (i : Int)) = true := by simp; omega
                have t3 : (0 : Int) ≤ (k : Int) := by omega
                have t4 : (k : Int) < (T.length : Int) := by omega
                have hn := HNat.out.below HBX.out
                have hm := (HC.out k hkT).below HBX.out
                obtain ⟨r, hr, he⟩ := node_eq hm.wf hn.wf
                have HTk := Lib.hid (List.getElem?_eq_getElem hkT)
                obtain ⟨x0, x1, x2, x3, x4, x5, x6, x7⟩ := hn.all
                obtain ⟨y0, y1, y2, y3, y4, y5, y6, y7⟩ := hm.all
                have HR := Lib.hid hr
                clear hn hm hr
                generalize T[k] = m at *
                simp only [nodeVal, nodeCells] at he
                have g0 := node_eql he
                clear he
                cases r with
                | true =>
                  have HN : Hid (¬ TabOk T) := Lib.hid fun ht => by
                    have h1 := once_of ht.once hki hlt
                    have e1 := HTk.out
                    have e2 := HTi.out
                    rw [List.getElem?_eq_getElem hkT] at e1
                    rw [List.getElem?_eq_getElem hlt] at e2
                    injection e1 with e1
                    injection e2 with e2
                    exact h1 (e1.trans ((HR.out.1 rfl).trans e2.symm))
                  go_wp2
                  go_quiet (fail)
                  go_wp2
                  go_ret
                  exact ErrIs.no HN.out (below_drewN HBX.out _)
                | false =>
                  go_wp2
                  go_quiet (fail)
                  go_wp2
                  go_roundg g2
                  case measure => omega
                  case rel =>
                    refine ⟨k + 1, by omega, by go_num, below_drewN HBX.out _, HBLX.out, fun j hj => ?_⟩
                    rcases Nat.lt_succ_iff_lt_or_eq.1 hj with hj | rfl
                    · exact HNE.out j hj
                    · rw [HTk.out, HTi.out]
                      intro e
                      injection e with e
                      have := HR.out.2 e
                      cases this
theorem wpQuiet_want {P : Program} {ops : Array Oper} {C : World → Prop} {Q : Act → Prop} {a : Act} {o : Oper} {rest : List Oper} (hw : Region.wanted o (yielded ops a.tmps) = true) (v : Value) (h1 : ∀ w, C w → o.quietAt P a C w v) (h2 : wpQuiet P ops C Q rest (a.put o.dst v)) : wpQuiet P ops C Q (o :: rest) a := by
  unfold wpQuiet
  rw [if_pos hw]
  exact ⟨v, h1, h2⟩
theorem wpQuiet_skip {P : Program} {ops : Array Oper} {C : World → Prop} {Q : Act → Prop} {a : Act} {o : Oper} {rest : List Oper} (hw : Region.wanted o (yielded ops a.tmps) = false) (h2 : wpQuiet P ops C Q rest (a.put o.dst undef)) : wpQuiet P ops C Q (o :: rest) a := by
  unfold wpQuiet
  rw [if_neg (by rw [hw]; decide)]
  exact h2
structure QW (P : Program) (ops : Array Oper) (C : World → Prop) (Q : Act → Prop) (rest : List Oper) (a : Act) : Prop where
  out : wpQuiet P ops C Q rest a
theorem qw_want {P : Program} {ops : Array Oper} {C : World → Prop} {Q : Act → Prop} {a : Act} {o : Oper} {rest : List Oper} (hw : Region.wanted o (yielded ops a.tmps) = true) (v : Value) (h1 : ∀ w, C w → o.quietAt P a C w v) (h2 : QW P ops C Q rest (a.put o.dst v)) : QW P ops C Q (o :: rest) a := ⟨wpQuiet_want hw v h1 h2.out⟩
theorem qw_skip {P : Program} {ops : Array Oper} {C : World → Prop} {Q : Act → Prop} {a : Act} {o : Oper} {rest : List Oper} (hw : Region.wanted o (yielded ops a.tmps) = false) (h2 : QW P ops C Q rest (a.put o.dst undef)) : QW P ops C Q (o :: rest) a := ⟨wpQuiet_skip hw h2.out⟩
theorem qw_end {P : Program} {ops : Array Oper} {C : World → Prop} {Q : Act → Prop} {a : Act} (h : Q a) : QW P ops C Q [] a := ⟨h⟩
theorem QW.lit {P : Program} {C : World → Prop} {Q : Act → Prop} {l : List Oper} {a : Act} (h : QW P l.toArray C Q l a) : wpQuiet P l.toArray C Q l.toArray.toList a := h.out
end Go.Proofs.YtkapbdjobfbhhaaGreat

/- The reference's Conflict. -/
import Derived.Test.YtbgbhfmchpdkcaaEwE
import Derived.Test.YtbgbhfmchpdkcaaEvM
import Derived.Test.YtbgbhfmchpdkcaaEvD
namespace Go.Proofs.Ytbgbhfmchpdkcaa
open Go.RowKit

theorem addr_plus (b off k : Nat) : (⟨b, off, none⟩ : Addr).add k = ⟨b, off + k, none⟩ := by unfold Addr.add; split <;> simp_all
theorem cut_to {A : Option Addr} {n c i : Nat} (hi : i < n) (hc : n ≤ c) (W : World) : (Instr.sliceAt 25 (.slice A n c) none (some (.int .i64 (i : Int))) none).run Try.prog W = .ok (.slice A i c) W := by
  have t1 : (0 : Int) ≤ (i : Int) := by omega
  have t3 : (i : Int) ≤ (c : Int) := by omega
  have t5 : c ≠ 0 := by omega
  cases A with
  | none => simp [go_sem, t1, t3, t5]
  | some a =>
    obtain ⟨b, off, sp⟩ := a
    simp [go_sem, t1, t3, t5, Addr.add]
theorem cut_from {A : Option Addr} {n c i : Nat} (hi : i < n) (W : World) : (Instr.sliceAt 25 (.slice A n c) (some (.int .i64 ((i : Int) + 1))) none none).run Try.prog W = .ok (.slice (if c = i + 1 then A else A.map (·.add (i + 1))) (n - (i + 1)) (c - (i + 1))) W := by
  have t1 : (0 : Int) ≤ (i : Int) + 1 := by omega
  have t2 : (i : Int) + 1 ≤ (n : Int) := by omega
  have t4 : ((i : Int) + 1).toNat = i + 1 := by omega
  simp [go_sem, t1, t2, t4]
theorem Row.upto {w : World} {A : Option Addr} {zs : List Int} (h : Row w A zs) (i : Nat) : Row w A (zs.take i) := by
  refine ⟨by rw [List.length_take]; have := h.len; omega, ?_⟩
  rcases h.at_ with h0 | ⟨b, off, e, hb, hc⟩
  · exact .inl (by rw [List.length_take]; omega)
  · refine .inr ⟨b, off, e, hb, fun i hi => ?_⟩
    rw [List.length_take] at hi
    rw [hc i (by omega), List.getElem_take]
theorem Row.behind {w : World} {A : Option Addr} {zs : List Int} (h : Row w A zs) (i : Nat) (hi : i < zs.length) {c : Nat} (hc : zs.length ≤ c) : Row w (if c = i + 1 then A else A.map (·.add (i + 1))) (zs.drop (i + 1)) := by
  refine ⟨by rw [List.length_drop]; have := h.len; omega, ?_⟩
  by_cases h1 : i + 1 < zs.length
  · obtain ⟨b, off, rfl, hb, hcc⟩ := h.at_.resolve_left (by omega)
    rw [if_neg (by omega)]
    refine .inr ⟨b, off + (i + 1), by simp [addr_plus], hb, fun j hj => ?_⟩
    rw [List.length_drop] at hj
    rw [Nat.add_assoc, hcc (i + 1 + j) (by omega), List.getElem_drop]
  · exact .inl (by rw [List.length_drop]; omega)

theorem OwnL.rowN {w : World} {B : Nat} {v : Value} {zs : List Int} (h : OwnL w B v zs) (hl : zs.length ≤ 100000) : ∃ A cap, v = .slice A zs.length cap ∧ Row w A zs ∧ zs.length ≤ cap ∧ (A = none → cap = 0) := by
  obtain ⟨A, cap, e, hr, hc, _⟩ := h.row hl
  refine ⟨A, cap, e, hr, hc, fun hA => ?_⟩
  rcases h.2 with ⟨e2, _⟩ | ⟨g, c2, cur, e2, _⟩
  · rw [e] at e2
    injection e2
  · rw [e, hA] at e2
    injection e2 with e2
    cases e2

set_option maxRecDepth 100000 in
set_option maxHeartbeats 4000000 in
theorem rconflict_ok {w : World} {A B : Option Addr} {c : Nat} {T : List Nd} {L : List Int} (cap : Nat) (h : Tab w A T) (hT1 : T.length ≤ 60) (hL1 : L.length ≤ 300) (hr : Row w B L) (hcap : L.length ≤ cap) (hnil : B = none → cap = 0) :
    Calls Try.prog 13 #[.agg #[.slice A T.length c], .slice B L.length cap] w (ConfIs T L w) := by
  have HB := Lib.hid (show Below w.heap.size w (w.alloc (.cells #[.slice A T.length c] 24)) from (Below.refl _ w).alloc (Nat.le_refl _) _)
  have HBX := Lib.hid (Blk.new w 24 #[.slice A T.length c])
  have HT := Lib.hid h
  have HR := Lib.hid hr
  have HCap := Lib.hid hcap
  have HNil := Lib.hid hnil
  clear h hr hcap hnil
  go_enter Try.func13, Try.ntmps13
  go_wp2_with fail
  refine (rclose_ok cap (HT.out.below HB.out) hT1 hL1 (HR.out.below HB.out)).mono ?_
  rintro e w1 ⟨v1, cs1, bd, er, rfl, ho1, hb1, hbd, _⟩
  obtain ⟨a1, cp1, rfl⟩ := own_slice ho1
  have HB1 := Lib.hid (HB.out.trans (hb1.mono HB.out.size))
  have HX1 := Lib.hid (HBX.out.below hb1 HBX.out.lt)
  have HBD := Lib.hid hbd
  clear ho1 hb1 hbd
  cases bd with
  | false =>
    go_wp2
    go_ret2
    exact ⟨none, [], 0, false, rfl, ⟨by simp, .inl rfl⟩, Nat.le_refl _, HB1.out, .inr ⟨fun hl => (by have := HBD.out.2 hl; cases this), rfl, rfl⟩⟩
  | true =>
    have HBad := Lib.hid (HBD.out.1 rfl)
    have HR1 := Lib.hid (HR.out.below HB1.out)
    go_wp2
    go_loopg [9, 10] L.length (fun g vl v wr => ∃ (pre r : List Int) (A2 : Option Addr) (cp : Nat), r.length = g ∧ v = .int .i64 pre.length ∧ vl = .slice A2 (pre ++ r).length cp ∧ (pre ++ r).length ≤ cp ∧ (A2 = none → cp = 0) ∧ (pre ++ r).length ≤ 300 ∧ Row wr A2 (pre ++ r) ∧ BadL T (pre ++ r) ∧ confM T pre r = confM T [] L ∧ Below w.heap.size w wr ∧ Blk wr w.heap.size 24 #[.slice A T.length c])
    case atStart => exact ⟨[], L, B, cap, rfl, rfl, rfl, HCap.out, HNil.out, hL1, HR1.out, HBad.out, rfl, HB1.out, HX1.out⟩
    case round =>
      obtain ⟨pre, r, A2, cp, hrg, rfl, rfl, hcp, hnil, hl3, hrow, hbad, hconf, hb, hbl⟩ := hrel
      have HRow := Lib.hid hrow
      have HBd := Lib.hid hbad
      have HCf := Lib.hid hconf
      have HBW := Lib.hid hb
      have HX := Lib.hid hbl
      have HNil2 := Lib.hid hnil
      clear hrow hbad hconf hb hbl hnil
      cases gk with
      | zero =>
        obtain rfl := List.length_eq_zero_iff.1 hrg
        have HE := Lib.hid (List.append_nil pre)
        rw [HE.out] at hcp hl3 HRow HBd ⊢
        have HCf2 := Lib.hid (show pre = confM T [] L from by rw [← HCf.out]; rfl)
        have d1 : decide (pre.length < pre.length) = false := by simp
        have d2 : decide ((pre.length : Int) < (pre.length : Int)) = false := by simp
        clear HCf HE
        go_wp2
        go_ret2
        exact ⟨_, pre, cp, true, rfl, HRow.out, hcp, HBW.out, .inl ⟨HBad.out, rfl, HCf2.out⟩⟩
      | succ gk =>
        obtain ⟨x, r2, rfl⟩ : ∃ x r2, r = x :: r2 := by
          cases r with
          | nil => cases hrg
          | cons x r2 => exact ⟨x, r2, rfl⟩
        have HRG := Lib.hid (show r2.length = gk by simpa using hrg)
        have HLm : Hid ((pre ++ r2).length ≤ 300) := Lib.hid (by simp at hl3 ⊢; omega)
        have HTk : Hid ((pre ++ x :: r2).take pre.length = pre) := Lib.hid (by rw [List.take_append_of_le_length (Nat.le_refl _), List.take_length])
        have HDr : Hid ((pre ++ x :: r2).drop (pre.length + 1) = r2) := Lib.hid (by rw [List.drop_append]; simp)
        have hi : pre.length < (pre ++ x :: r2).length := by simp
        have HRt := Lib.hid (HRow.out.upto pre.length)
        rw [HTk.out] at HRt
        have HRf := Lib.hid (HRow.out.behind pre.length hi hcp)
        rw [HDr.out] at HRf
        have hs2 := cut_to (A := A2) hi hcp
        have hs3 := cut_from (A := A2) (c := cp) hi
        have HLr : Hid ((pre ++ x :: r2).length - (pre.length + 1) = r2.length) := Lib.hid (by simp; omega)
        rw [HLr.out] at hs3
        obtain ⟨D2, hD2⟩ : ∃ D2, (if cp = pre.length + 1 then A2 else A2.map (·.add (pre.length + 1))) = D2 := ⟨_, rfl⟩
        have HNf : Hid (D2 = none → cp - (pre.length + 1) = 0) := Lib.hid (by
          rw [← hD2]
          intro h
          split at h
          · omega
          · cases hA : A2 with
            | none =>
              have := HNil2.out hA
              omega
            | some a =>
              rw [hA] at h
              cases h)
        rw [hD2] at HRf
        simp only [hD2] at hs3
        clear hD2
        have HL3 := Lib.hid hl3
        have HCP := Lib.hid hcp
        obtain ⟨ln, hln⟩ : ∃ ln, (pre ++ x :: r2).length = ln := ⟨_, rfl⟩
        have HLN := Lib.hid hln
        rw [hln] at hs2 hs3 hi ⊢
        have hln3 : ln ≤ 300 := by rw [← hln]; exact hl3
        have X1 : Hid (0 + pre.length ≤ 1000000) := Lib.hid (by omega)
        have X2 : Hid (0 + pre.length + r2.length ≤ 1000000) := Lib.hid (by
          simp at hln
          omega)
        have HZN : Hid ((pre ++ r2).length = pre.length + r2.length) := Lib.hid List.length_append
        clear hln hl3 hcp hrg
        have d1 : decide (pre.length < ln) = true := by simp; exact hi
        have d2 : decide ((pre.length : Int) < (ln : Int)) = true := by simp; exact hi
        have cx := HX.out.cell 0
        have hls := HX.out.lt
        simp only [List.getElem?_toArray, List.getElem?_cons_zero] at cx
        obtain ⟨pl, hplE⟩ : ∃ pl, pre.length = pl := ⟨_, rfl⟩
        have HPL := Lib.hid hplE
        obtain ⟨rl, hrlE⟩ : ∃ rl, r2.length = rl := ⟨_, rfl⟩
        have HRL := Lib.hid hrlE
        rw [hplE] at hs2 hs3 hi d1 d2 ⊢
        rw [hrlE] at hs3
        clear hplE hrlE
        have HNf2 : Hid (D2 = none → cp - (pl + 1) = 0) := Lib.hid (by rw [← HPL.out]; exact HNf.out)
        obtain ⟨ZZ, hZZ⟩ : ∃ X, pre ++ r2 = X := ⟨_, rfl⟩
        rw [hZZ] at HZN HLm
        have HZE := Lib.hid hZZ
        clear hZZ
        go_wp2_with (first
          | (at_builtin; refine list_append_row _ rfl (.tmp 34) (.tmp 38) rfl wr.heap.size _ (0 + pre.length) ([] ++ pre) rfl HO5.out D2 (cp - (pl + 1)) r2 (by rw [HRL.out]; rfl) (HRf.out.below HG5.out) HNf2.out X2.out HG5.out.size ?_; intro v6 w6 ho6 hg6; have HG6 := Lib.hid (Below.grown HG5.out hg6 HG5.out.size (fun k hk => (HO5.out.lt k hk).1)); obtain ⟨A6, k6, rfl, hr6, hk6, hn6⟩ := OwnL.rowN (zs := ZZ) (by have h9 := ho6; simp only [Nat.zero_add, List.nil_append, HZE.out] at h9; unfold OwnL; rw [HZN.out]; exact h9) (Nat.le_trans HLm.out (by decide)); have HR6 := Lib.hid hr6; have HK6 := Lib.hid hk6; have HN6 := Lib.hid hn6; have HX6 := Lib.hid (HX.out.below HG6.out HX.out.lt); have cx6 := HX6.out.cell 0; have hl6 := HX6.out.lt; simp only [List.getElem?_toArray, List.getElem?_cons_zero] at cx6; clear ho6 hg6 hr6 hk6 hn6)
          | (at_builtin; refine list_append_row _ rfl (.tmp 29) (.tmp 32) rfl wr.heap.size _ 0 [] rfl (World.ownsRow_nil _ _ _ _) A2 cp pre (by rw [HPL.out]; rfl) HRt.out HNil2.out X1.out (Nat.le_refl _) ?_; intro v5 w5 ho5 hg5; have HO5 := Lib.hid ho5; have HG5 := Lib.hid (Below.grown (Below.refl wr.heap.size wr) hg5 (Nat.le_refl _) (fun k hk => by cases hk)); clear ho5 hg5)
          | fail)
        have HB6 := Lib.hid (HBW.out.trans (HG6.out.mono HBW.out.size))
        have KL := Lib.hid (rclose_ok (c := c) k6 (HT.out.below HB6.out) hT1 HLm.out HR6.out)
        refine KL.out.mono ?_
        rintro e w7 ⟨v7, cs7, bd7, er7, rfl, ho7, hb7, hbd7, _⟩
        obtain ⟨a7, cp7, rfl⟩ := own_slice ho7
        have HB7 := Lib.hid (HB6.out.trans (hb7.mono HB6.out.size))
        have HX7 := Lib.hid (HX6.out.below hb7 HX6.out.lt)
        have HRow7 := Lib.hid (HR6.out.below hb7)
        have HRowO := Lib.hid (HRow.out.below (HG6.out.trans (hb7.mono HG6.out.size)))
        have HBD7 := Lib.hid hbd7
        clear ho7 hb7 hbd7 cx6 hl6 cx hls
        cases bd7 with
        | true =>
          have HBt := Lib.hid (HBD7.out.1 rfl)
          go_wp2
          go_roundg gk
          case measure => omega
          case rel =>
            refine ⟨pre, r2, A6, k6, HRG.out, by rw [HPL.out], by rw [HZE.out], by rw [HZE.out]; exact HK6.out, HN6.out, by rw [HZE.out]; exact HLm.out, by rw [HZE.out]; exact HRow7.out, by rw [HZE.out]; exact HBt.out, ?_, HB7.out, HX7.out⟩
            rw [← HCf.out]
            conv => rhs; rw [confM]
            rw [if_pos (badB_iff.2 (by rw [HZE.out]; exact HBt.out))]
        | false =>
          have HNB : Hid (¬ badB T (pre ++ r2) = true) := Lib.hid fun hb => by
            rw [HZE.out] at hb
            have := HBD7.out.2 (badB_iff.1 hb)
            cases this
          have hln3' : pl ≤ 300 := by omega
          go_wp2
          go_roundg gk
          case measure => omega
          case rel =>
            have e1 : pre ++ [x] ++ r2 = pre ++ x :: r2 := by simp
            refine ⟨pre ++ [x], r2, A2, cp, HRG.out, ?_, by rw [e1, HLN.out], by rw [e1]; exact HCP.out, HNil2.out, by rw [e1]; exact HL3.out, by rw [e1]; exact HRowO.out, by rw [e1]; exact HBd.out, ?_, HB7.out, HX7.out⟩
            · rw [List.length_append, HPL.out]
              go_num
            · rw [← HCf.out]
              conv => rhs; rw [confM]
              rw [if_neg HNB.out]
end Go.Proofs.Ytbgbhfmchpdkcaa

/- The reference's Lemma and One; two rows that are alike. -/
namespace Go.Proofs.Ytbgbhfmchpdkcaa
open Go.RowKit

theorem rints_same {w : World} {A B : Option Addr} {xs : List Int} (c d : Nat) (h : Row w A xs) (k : Row w B xs) :
    Calls Try.prog 9 #[.slice A xs.length c, .slice B xs.length d] w fun e w' => e = .returned (.bool true) ∧ Below w.heap.size w w' := by
  have hlen := h.len
  have H := Lib.hid h
  have K := Lib.hid k
  clear h k
  have hb : ((xs.length : Int) != xs.length) = false := by simp
  go_enter Try.func9, Try.ntmps9
  go_wp2
  go_loopg [5] xs.length (fun g v wx => ∃ i : Nat, i + g = xs.length ∧ v = .int .i64 i ∧ Below w.heap.size w wx)
  case atStart => exact ⟨0, by omega, rfl, Below.refl _ _⟩
  case round =>
    obtain ⟨i, hig, rfl, hbw⟩ := hrel
    have HB := Lib.hid hbw
    clear hbw
    cases gk with
    | zero =>
      obtain rfl : i = xs.length := by omega
      have d1 : decide ((xs.length : Int) < xs.length) = false := by simp
      go_wp2
      go_ret
      exact ⟨rfl, HB.out⟩
    | succ gk =>
      have hlt : i < xs.length := by omega
      have d1 : decide ((i : Int) < xs.length) = true := by simp; omega
      obtain ⟨b, off, hA, hbb, hcell⟩ := (H.out.below HB.out).at_.resolve_left (by omega)
      obtain ⟨b2, off2, hB, hbb2, hcell2⟩ := (K.out.below HB.out).at_.resolve_left (by omega)
      subst hA hB
      have y0 := hcell i hlt
      have y1 := hcell2 i hlt
      have t1 : (0 : Int) ≤ (i : Int) := by omega
      have t2 : (i : Int) < (xs.length : Int) := by omega
      clear hcell hcell2
      generalize xs[i] = x at *
      have hne : (x != x) = false := by simp
      go_wp2
      go_quiet (fail)
      go_wp2
      go_roundg gk
      case measure => omega
      case rel => exact ⟨i + 1, by omega, by go_num, below_drewN HB.out _⟩

set_option maxRecDepth 100000 in
set_option maxHeartbeats 2000000 in
theorem rone_fn {w : World} {A : Option Addr} {cs : List Int} (cap : Nat) (hr : Row w A cs) (a b : Int) :
    Calls Try.prog 11 #[.slice A cs.length cap, .int .i64 a, .int .i64 b] w fun e w' => e = .returned (.bool (oneL cs a b)) ∧ Below w.heap.size w w' := by
  have hlen := hr.len
  have HR := Lib.hid hr
  clear hr
  obtain ⟨rv, hrv⟩ : ∃ rv, oneL cs a b = rv := ⟨_, rfl⟩
  have HV := Lib.hid hrv
  rw [hrv]
  unfold oneL at hrv
  by_cases a0 : 0 ≤ a
  rotate_left
  · have d0 : decide (0 ≤ a) = false := decide_eq_false a0
    obtain rfl : false = rv := by rw [← hrv]; simp [inB, a0]
    clear a0 hrv
    go_enter Try.func11, Try.ntmps11
    go_wp2
    go_quiet (fail)
    go_wp2
    go_ret
    exact ⟨rfl, below_drewN (Below.refl _ _) _⟩
  have d0 : decide (0 ≤ a) = true := decide_eq_true a0
  by_cases b0 : 0 ≤ b
  rotate_left
  · have d1 : decide (0 ≤ b) = false := decide_eq_false b0
    obtain rfl : false = rv := by rw [← hrv]; simp [inB, b0]
    clear b0 hrv a0
    go_enter Try.func11, Try.ntmps11
    go_wp2
    go_quiet (fail)
    go_wp2
    go_ret
    exact ⟨rfl, below_drewN (Below.refl _ _) _⟩
  have d1 : decide (0 ≤ b) = true := decide_eq_true b0
  by_cases a1 : a < (cs.length : Int)
  rotate_left
  · have d2 : decide (a < (cs.length : Int)) = false := decide_eq_false a1
    obtain rfl : false = rv := by rw [← hrv]; simp [inB, a1]
    clear b0 hrv a0 a1
    go_enter Try.func11, Try.ntmps11
    go_wp2
    go_quiet (fail)
    go_wp2
    go_ret
    exact ⟨rfl, below_drewN (Below.refl _ _) _⟩
  have d2 : decide (a < (cs.length : Int)) = true := decide_eq_true a1
  by_cases b1 : b < (cs.length : Int)
  rotate_left
  · have d3 : decide (b < (cs.length : Int)) = false := decide_eq_false b1
    obtain rfl : false = rv := by rw [← hrv]; simp [inB, b1]
    clear b0 hrv a0 a1 b1
    go_enter Try.func11, Try.ntmps11
    go_wp2
    go_quiet (fail)
    go_wp2
    go_ret
    exact ⟨rfl, below_drewN (Below.refl _ _) _⟩
  have d3 : decide (b < (cs.length : Int)) = true := decide_eq_true b1
  obtain ⟨p, rfl⟩ : ∃ p : Nat, a = p := ⟨a.toNat, by omega⟩
  obtain ⟨q, rfl⟩ : ∃ q : Nat, b = q := ⟨b.toNat, by omega⟩
  have hp : p < cs.length := by omega
  have hq : q < cs.length := by omega
  obtain rfl : (cs[p] == cs[q]) = rv := by
    rw [← hrv, ← atC_nat hp, ← atC_nat hq]
    simp [inB, hp, hq]
  obtain ⟨bb, off, hA, hbb, hcell⟩ := HR.out.at_.resolve_left (by omega)
  subst hA
  have y0 := hcell p hp
  have y1 := hcell q hq
  clear hrv HV hcell
  generalize cs[p] = x at *
  generalize cs[q] = y at *
  obtain ⟨r, hr⟩ : ∃ r, (x == y) = r := ⟨_, rfl⟩
  rw [hr]
  go_enter Try.func11, Try.ntmps11
  go_wp2
  go_quiet (fail)
  go_wp2
  go_ret
  exact ⟨rfl, below_drewN (Below.refl _ _) _⟩

set_option maxRecDepth 100000 in
set_option maxHeartbeats 2000000 in
theorem rlemma_ok {w : World} {A B : Option Addr} {c : Nat} {T : List Nd} {L : List Int} (cap : Nat) (h : Tab w A T) (hT1 : T.length ≤ 60) (hL1 : L.length ≤ 300) (hr : Row w B L) :
    Calls Try.prog 15 #[.agg #[.slice A T.length c], .slice B L.length cap] w (TestIs (LemL T L) w) := by
  obtain ⟨i0, hi, hz0, hz1, hz2⟩ := info_parts int_info
  have HB := Lib.hid (show Below w.heap.size w (w.alloc (.cells #[.slice A T.length c] 24)) from (Below.refl _ w).alloc (Nat.le_refl _) _)
  have HBX := Lib.hid (Blk.new w 24 #[.slice A T.length c])
  have HT := Lib.hid h
  have HR := Lib.hid hr
  clear h hr
  go_enter Try.func15, Try.ntmps15
  go_wp2
  go_loopg [5, 6] L.length (fun g vo v wr => ∃ i : Nat, i + g = L.length ∧ v = .int .i64 i ∧ OwnL wr w.heap.size vo ((L.take i).map negG) ∧ (∀ x ∈ L.take i, 0 ≤ x) ∧ Below w.heap.size w wr ∧ Blk wr w.heap.size 24 #[.slice A T.length c])
  case atStart => exact ⟨0, by omega, rfl, World.ownsRow_nil _ _ _ _, (fun x hx => by simp at hx), HB.out, HBX.out⟩
  case round =>
    obtain ⟨i, hig, rfl, hown, hpos, hb, hbl⟩ := hrel
    have HO := Lib.hid hown
    have HP := Lib.hid hpos
    have HBW := Lib.hid hb
    have HX := Lib.hid hbl
    clear hb hbl hpos
    cases gk with
    | zero =>
      obtain rfl : i = L.length := by omega
      have d1 : decide ((L.length : Int) < L.length) = false := by simp
      have hO2 := HO.out
      rw [List.take_length] at hO2
      have hln : (L.map negG).length = L.length := by simp
      have hn3 : (L.map negG).length ≤ 300 := by omega
      obtain ⟨A2, cap2, hv, hrow, _, _⟩ := hO2.row (by omega)
      subst hv
      have HRow := Lib.hid hrow
      have HN3 := Lib.hid hn3
      have HPos : Hid (∀ x ∈ L, 0 ≤ x) := Lib.hid (by have := HP.out; rwa [List.take_length] at this)
      clear hown hO2 HO hrow hln hn3
      have cx := HX.out.cell 0
      have hls := HX.out.lt
      simp only [List.getElem?_toArray, List.getElem?_cons_zero] at cx
      obtain ⟨M, hM⟩ : ∃ M, L.map negG = M := ⟨_, rfl⟩
      have HMM := Lib.hid hM
      rw [hM] at HRow HN3 ⊢
      clear hM
      have KL := Lib.hid (rclose_ok (c := c) cap2 (HT.out.below HBW.out) hT1 HN3.out HRow.out)
      go_wp2_with fail
      refine KL.out.mono ?_
      rintro e w3 ⟨v3, cs, bd, er, rfl, ho3, hb3, hbd, _⟩
      have HB3 := Lib.hid (HBW.out.trans (hb3.mono HBW.out.size))
      have HBD := Lib.hid hbd
      obtain ⟨a3, cp3, rfl⟩ := own_slice ho3
      clear hb3 hbd ho3
      go_wp2
      go_ret
      refine ⟨bd, rfl, ?_, HB3.out⟩
      rw [HBD.out]
      unfold LemL
      rw [HMM.out]
      exact ⟨fun h => ⟨HPos.out, h⟩, fun h => h.2⟩
    | succ gk =>
      have hlt : i < L.length := by omega
      have d1 : decide ((i : Int) < L.length) = true := by simp; omega
      have t1 : (0 : Int) ≤ (i : Int) := by omega
      have t2 : (i : Int) < (L.length : Int) := by omega
      obtain ⟨b, off, hA, hbb, hcell⟩ := (HR.out.below HBW.out).at_.resolve_left (by omega)
      subst hA
      have y0 := hcell i hlt
      have HS := Lib.hid (show (L.take (i + 1)).map negG = (L.take i).map negG ++ [negG L[i]] by rw [List.take_add_one, List.getElem?_eq_getElem hlt, List.map_append]; rfl)
      have HS2 : Hid (L.take (i + 1) = L.take i ++ [L[i]]) := Lib.hid (by rw [List.take_add_one, List.getElem?_eq_getElem hlt]; rfl)
      have HMem : Hid (L[i] ∈ L) := Lib.hid (List.getElem_mem hlt)
      clear hcell hown
      generalize L[i] = x at *
      obtain ⟨fs, hfs⟩ : ∃ fs, (L.take i).map negG = fs := ⟨_, rfl⟩
      rw [hfs] at HO HS
      have X1 : Hid ((fs.length + 1) * 8 ≤ 140737488355328) := Lib.hid (by
        rw [← hfs, List.length_map, List.length_take]
        omega)
      clear hfs
      by_cases hx : x < 0
      · have d2 : decide (x < 0) = true := decide_eq_true hx
        have HNeg := Lib.hid hx
        clear hx
        go_wp2
        go_ret
        exact TestIs.no (fun h => by have := h.1 x HMem.out; have := HNeg.out; omega) HBW.out
      · have d2 : decide (x < 0) = false := decide_eq_false hx
        have HNeg := Lib.hid hx
        clear hx
        go_wp2_with (at_builtin; refine list_push _ rfl (.tmp 21) (.tmp 27) 25 rfl w.heap.size 3 i0 (.int .i64 0) 1 8 Try.underlying25 hi hz0 hz1 hz2 rfl (by decide) _ fs.length (fs.map (Value.int .i64)) rfl (own_kept HO.out ((Kept.refl (fun _ => False) wr).alloc _) (fun _ _ h => h)) wr.heap.size #[.int .i64 (negG x)] rfl (Blk.new wr _ _) rfl (by intro u hu; rw [List.mem_singleton.1 hu]; rfl) X1.out (by decide) HBW.out.size ?_; intro ga ca w3 ho3 hg3 _ _; have HO3 := Lib.hid ho3; have HB3 := Lib.hid (Below.grown (HBW.out.alloc HBW.out.size _) hg3 (Nat.le_trans HBW.out.size (by simp)) (own_base_le HO.out)); have HX3 := Lib.hid ((HX.out.alloc (.cells #[.int .i64 (negG x)] 3)).grown hg3 (fun e => own_blk_ne HO.out HX.out (by decide) e.symm)); clear ho3 hg3)
        go_roundg gk
        case measure => omega
        case rel =>
          refine ⟨i + 1, by omega, by go_num, ?_, fun y hy => ?_, HB3.out, HX3.out⟩
          · rw [HS.out]
            unfold OwnL
            rw [List.length_append, List.map_append]
            exact HO3.out
          · rw [HS2.out] at hy
            rcases List.mem_append.1 hy with hy | hy
            · exact HP.out y hy
            · obtain rfl := List.mem_singleton.1 hy
              have := HNeg.out
              omega
end Go.Proofs.Ytbgbhfmchpdkcaa

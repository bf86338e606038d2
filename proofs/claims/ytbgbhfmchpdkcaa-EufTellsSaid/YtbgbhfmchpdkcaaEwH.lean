/- EufTells' walk. -/
import Derived.Test.YtbgbhfmchpdkcaaEwG
import Derived.Test.YtbgbhfmchpdkcaaEvO
namespace Go.Proofs.Ytbgbhfmchpdkcaa
open Go.RowKit

set_option maxRecDepth 100000 in
set_option maxHeartbeats 4000000 in
theorem eufTells_core {w : World} {A B : Option Addr} {c : Nat} {T : List Nd} {L : List Int} (cb : Nat) (a b : Int) (h : Tab w A T) (hc : T.length ≤ c) (hT : T.length ≤ 60) (hL : L.length ≤ 60) (hr : Row w B L) (hcap : L.length ≤ cb) (hnil : B = none → cb = 0) :
    Calls Try.prog 3 #[.agg #[.slice A T.length c], .slice B L.length cb, .int .i64 a, .int .i64 b] w (fun e w' => e = .returned (.bool true) ∧ Below w.heap.size w w') := by
  have H := Lib.hid h
  have HR := Lib.hid hr
  have HCap := Lib.hid hcap
  have HNil := Lib.hid hnil
  clear h hr hcap hnil
  have HB1 : Hid (Below w.heap.size w (w.alloc (.cells #[.slice A T.length c] 24))) := Lib.hid ((Below.refl _ w).alloc (Nat.le_refl _) _)
  have HX1 := Lib.hid (Blk.new w 24 #[.slice A T.length c])
  have e1 : decide ((T.length : Int) > 60) = false := by simp; omega
  have e2 : decide ((60 : Int) < T.length) = false := by simp; omega
  have e3 : decide ((L.length : Int) > 60) = false := by simp; omega
  have e4 : decide ((60 : Int) < L.length) = false := by simp; omega
  have lT : T.length ≤ 100 := by omega
  have lL : L.length ≤ 300 := by omega
  have HLT := Lib.hid hT
  have HLL := Lib.hid hL
  obtain ⟨r, hr⟩ : ∃ r : Bool, r = true ↔ LemL T L := by
    by_cases hh : LemL T L
    · exact ⟨true, fun _ => hh, fun _ => rfl⟩
    · exact ⟨false, fun e => (by cases e), fun h => absurd h hh⟩
  have HLem := Lib.hid hr
  clear hr
  go_enter Try.func3, Try.ntmps3
  go_wp2_with fail
  refine (close_ok cb (H.out.below HB1.out) hc lT lL (HR.out.below HB1.out)).mono ?_
  rintro e w2 ⟨v2, cs, bd, er, rfl, ho2, hb2, hbd, hcl⟩
  have hlc : cs.length ≤ 61 := by
    rcases hcl with ⟨_, _, h1⟩ | ⟨_, _, h1⟩
    · have := h1.1
      omega
    · rw [h1]
      simp
  obtain ⟨A2, k2, rfl, hr2, _, _⟩ := ho2.row (by omega)
  have HR2 := Lib.hid hr2
  have HBD := Lib.hid hbd
  have HCL := Lib.hid hcl
  have HB2 := Lib.hid (HB1.out.trans (hb2.mono HB1.out.size))
  have HX2 := Lib.hid (HX1.out.below hb2 HX1.out.lt)
  have cx2 := HX2.out.cell 0
  have hl2 := HX2.out.lt
  simp only [List.getElem?_toArray, List.getElem?_cons_zero] at cx2
  clear ho2 hb2 hbd hcl hr2
  go_wp2_with fail
  refine (rclose_ok (c := c) cb (H.out.below HB2.out) HLT.out lL (HR.out.below HB2.out)).mono ?_
  rintro e w3 ⟨v3, ds, bw, er', rfl, ho3, hb3, hbw, hcl3⟩
  obtain ⟨rfl, rfl⟩ : cs = ds ∧ er = er' := by
    rcases HCL.out with ⟨g1, g2, g3⟩ | ⟨g1, g2, g3⟩ <;> rcases hcl3 with ⟨k1, k2, k3⟩ | ⟨k1, k2, k3⟩
    · exact ⟨g3.one k3, g2.trans k2.symm⟩
    · exact absurd g1 k1
    · exact absurd k1 g1
    · exact ⟨g3.trans k3.symm, g2.trans k2.symm⟩
  obtain rfl : bd = bw := by
    rw [Bool.eq_iff_iff, HBD.out, hbw]
  obtain ⟨A3, k3, rfl, hr3, _, _⟩ := ho3.row (by omega)
  have HR3 := Lib.hid hr3
  have HR23 := Lib.hid (HR2.out.below hb3)
  have HB3 := Lib.hid (HB2.out.trans (hb3.mono HB2.out.size))
  have HX3 := Lib.hid (HX2.out.below hb3 HX2.out.lt)
  have cx3 := HX3.out.cell 0
  have hl3 := HX3.out.lt
  simp only [List.getElem?_toArray, List.getElem?_cons_zero] at cx3
  have dE : (er != er) = false := by simp
  have dB : (bd != bd) = false := by simp
  clear ho3 hb3 hbw hcl3 hr3 cx2 hl2
  have KI := Lib.hid (rints_same k2 k3 HR23.out HR3.out)
  have K1 := Lib.hid (fun W (hW : Below w3.heap.size w3 W) => one_fn k2 (HR23.out.below hW) a b)
  have K2 := Lib.hid (fun W (hW : Below w3.heap.size w3 W) => rone_fn k3 (HR3.out.below hW) a b)
  generalize oneL cs a b = ov at K1 K2
  generalize cs.length = ln at *
  have dO : (ov != ov) = false := by simp
  go_wp2_with fail
  refine KI.out.mono ?_
  rintro e w4 ⟨rfl, hb4⟩
  have HG4 := Lib.hid hb4
  have HX4 := Lib.hid (HX3.out.below hb4 HX3.out.lt)
  clear hb4
  go_wp2_with fail
  refine (K1.out _ HG4.out).mono ?_
  rintro e w5 ⟨rfl, hb5⟩
  have HG5 := Lib.hid (HG4.out.trans (hb5.mono HG4.out.size))
  have HX5 := Lib.hid (HX4.out.below hb5 HX4.out.lt)
  clear hb5
  go_wp2_with fail
  refine (K2.out _ HG5.out).mono ?_
  rintro e w6 ⟨rfl, hb6⟩
  have HG6 := Lib.hid (HG5.out.trans (hb6.mono HG5.out.size))
  have HX6 := Lib.hid (HX5.out.below hb6 HX5.out.lt)
  have HB6 := Lib.hid (HB3.out.trans (HG6.out.mono HB3.out.size))
  have cx6 := HX6.out.cell 0
  have hl6 := HX6.out.lt
  simp only [List.getElem?_toArray, List.getElem?_cons_zero] at cx6
  clear hb6 cx3 hl3
  go_wp2_with fail
  refine (conflict_ok cb (H.out.below HB6.out) hc lT lL (HR.out.below HB6.out)).mono ?_
  rintro e w7 ⟨A7, zs, cp7, ok, rfl, hr7, _, hb7, hcf7⟩
  have HR7 := Lib.hid hr7
  have HCF := Lib.hid hcf7
  have HB7 := Lib.hid (HB6.out.trans (hb7.mono HB6.out.size))
  have HX7 := Lib.hid (HX6.out.below hb7 HX6.out.lt)
  have cx7 := HX7.out.cell 0
  have hl7 := HX7.out.lt
  simp only [List.getElem?_toArray, List.getElem?_cons_zero] at cx7
  clear hr7 hcf7 hb7 cx6 hl6
  go_wp2_with fail
  refine (rconflict_ok (c := c) cb (H.out.below HB7.out) HLT.out lL (HR.out.below HB7.out) HCap.out HNil.out).mono ?_
  rintro e w8 ⟨A8, ys, cp8, ok', rfl, hr8, _, hb8, hcf8⟩
  obtain ⟨rfl, rfl⟩ : zs = ys ∧ ok = ok' := by
    rcases HCF.out with ⟨g1, g2, g3⟩ | ⟨g1, g2, g3⟩ <;> rcases hcf8 with ⟨k1, k2, k3⟩ | ⟨k1, k2, k3⟩
    · exact ⟨g3.trans k3.symm, g2.trans k2.symm⟩
    · exact absurd g1 k1
    · exact absurd k1 g1
    · exact ⟨g3.trans k3.symm, g2.trans k2.symm⟩
  have HR8 := Lib.hid hr8
  have HR78 := Lib.hid (HR7.out.below hb8)
  have HB8 := Lib.hid (HB7.out.trans (hb8.mono HB7.out.size))
  have HX8 := Lib.hid (HX7.out.below hb8 HX7.out.lt)
  clear hr8 hcf8 hb8 cx7 hl7
  have KZ := Lib.hid (fun W (hW : Below w8.heap.size w8 W) => rints_same cp7 cp8 (HR78.out.below hW) (HR8.out.below hW))
  have KL := Lib.hid (fun W (hW : Below w8.heap.size w8 W) => (lemma_ok cb (H.out.below (HB8.out.trans (hW.mono HB8.out.size))) hc lT lL (HR.out.below (HB8.out.trans (hW.mono HB8.out.size)))).mono fun e w2 ⟨x, h1, h2, h3⟩ => (⟨by rw [h1, show x = r by rw [Bool.eq_iff_iff, h2, HLem.out]], h3⟩ : e = Ending.returned (.bool r) ∧ Below W.heap.size W w2))
  have KR := Lib.hid (fun W (hW : Below w8.heap.size w8 W) => (rlemma_ok (c := c) cb (H.out.below (HB8.out.trans (hW.mono HB8.out.size))) HLT.out lL (HR.out.below (HB8.out.trans (hW.mono HB8.out.size)))).mono fun e w2 ⟨x, h1, h2, h3⟩ => (⟨by rw [h1, show x = r by rw [Bool.eq_iff_iff, h2, HLem.out]], h3⟩ : e = Ending.returned (.bool r) ∧ Below W.heap.size W w2))
  have HF : Hid (∀ W, Below w8.heap.size w8 W → W.cell? ⟨w.heap.size, 0, none⟩ = some (.slice A T.length c)) := Lib.hid fun W hW => (hW.cell (p := ⟨w.heap.size, 0, none⟩) HX8.out.lt).trans (HX8.out.cell 0)
  generalize zs.length = lz at *
  have dK : (ok == ok) = true := by simp
  have dR : (r == r) = true := by simp
  go_upto_region 9 with (fail)
  refine wp_region_quiet (C := fun w' => Below w8.heap.size w8 w') (by kernel_rfl) (by kernel_rfl) (⟨rfl, rfl, rfl, Nat.le_refl _, fun _ _ => rfl⟩) ?_
  refine QW.lit ?_
  refine qw_want rfl ?_ (fun w' hw' => ?_) ?_
  rotate_left
  · unfold Oper.quietAt
    go_simp
    exact rfl
  simp only [Act.put, List.setIfInBounds_toArray, List.set_cons_succ, List.set_cons_zero]
  refine qw_want rfl ?_ (fun w' hw' => ?_) ?_
  rotate_left
  · unfold Oper.quietAt
    go_simp
    exact rfl
  simp only [Act.put, List.setIfInBounds_toArray, List.set_cons_succ, List.set_cons_zero]
  refine qw_want rfl (.bool true) (fun w' hw' => ?_) ?_
  · unfold Oper.quietAt
    go_simp
    refine (KZ.out w' hw').mono ?_
    rintro e w2 ⟨rfl, hb⟩
    have hz := below_then hw' (Nat.le_refl _) hb
    exact ⟨rfl, by simpa using hz⟩
  simp only [Act.put, List.setIfInBounds_toArray, List.set_cons_succ, List.set_cons_zero]
  refine qw_want rfl ?_ (fun w' hw' => ?_) ?_
  rotate_left
  · unfold Oper.quietAt
    go_simp
    exact rfl
  simp only [Act.put, List.setIfInBounds_toArray, List.set_cons_succ, List.set_cons_zero]
  refine qw_want rfl ?_ (fun w' hw' => ?_) ?_
  rotate_left
  · unfold Oper.quietAt
    go_simp
    exact rfl
  simp only [Act.put, List.setIfInBounds_toArray, List.set_cons_succ, List.set_cons_zero]
  refine qw_want rfl ?_ (fun w' hw' => ?_) ?_
  rotate_left
  · unfold Oper.quietAt
    go_simp
    exact rfl
  simp only [Act.put, List.setIfInBounds_toArray, List.set_cons_succ, List.set_cons_zero]
  refine qw_want rfl ?_ (fun w' hw' => ?_) ?_
  rotate_left
  · unfold Oper.quietAt
    go_simp
    exact rfl
  simp only [Act.put, List.setIfInBounds_toArray, List.set_cons_succ, List.set_cons_zero]
  refine qw_want rfl ?_ (fun w' hw' => ?_) ?_
  rotate_left
  · unfold Oper.quietAt
    go_simp
    exact rfl
  simp only [Act.put, List.setIfInBounds_toArray, List.set_cons_succ, List.set_cons_zero]
  refine qw_want rfl ?_ (fun w' hw' => ?_) ?_
  rotate_left
  · unfold Oper.quietAt
    go_simp
    exact rfl
  simp only [Act.put, List.setIfInBounds_toArray, List.set_cons_succ, List.set_cons_zero]
  refine qw_want rfl ?_ (fun w' hw' => ?_) ?_
  rotate_left
  · obtain k0 := HF.out w' hw'
    unfold Oper.quietAt
    go_simp
    exact rfl
  simp only [Act.put, List.setIfInBounds_toArray, List.set_cons_succ, List.set_cons_zero]
  refine qw_want rfl ?_ (fun w' hw' => ?_) ?_
  rotate_left
  · unfold Oper.quietAt
    go_simp
    exact rfl
  simp only [Act.put, List.setIfInBounds_toArray, List.set_cons_succ, List.set_cons_zero]
  refine qw_want rfl (.bool r) (fun w' hw' => ?_) ?_
  · unfold Oper.quietAt
    go_simp
    refine (KL.out w' hw').mono ?_
    rintro e w2 ⟨rfl, hb⟩
    have hz := below_then hw' (Nat.le_refl _) hb
    exact ⟨rfl, by simpa using hz⟩
  simp only [Act.put, List.setIfInBounds_toArray, List.set_cons_succ, List.set_cons_zero]
  refine qw_want rfl ?_ (fun w' hw' => ?_) ?_
  rotate_left
  · obtain k0 := HF.out w' hw'
    unfold Oper.quietAt
    go_simp
    exact rfl
  simp only [Act.put, List.setIfInBounds_toArray, List.set_cons_succ, List.set_cons_zero]
  refine qw_want rfl ?_ (fun w' hw' => ?_) ?_
  rotate_left
  · unfold Oper.quietAt
    go_simp
    exact rfl
  simp only [Act.put, List.setIfInBounds_toArray, List.set_cons_succ, List.set_cons_zero]
  refine qw_want rfl (.bool r) (fun w' hw' => ?_) ?_
  · unfold Oper.quietAt
    go_simp
    refine (KR.out w' hw').mono ?_
    rintro e w2 ⟨rfl, hb⟩
    have hz := below_then hw' (Nat.le_refl _) hb
    exact ⟨rfl, by simpa using hz⟩
  simp only [Act.put, List.setIfInBounds_toArray, List.set_cons_succ, List.set_cons_zero]
  refine qw_want rfl ?_ (fun w' hw' => ?_) ?_
  rotate_left
  · unfold Oper.quietAt
    go_simp
    exact rfl
  simp only [Act.put, List.setIfInBounds_toArray, List.set_cons_succ, List.set_cons_zero]
  refine qw_want rfl ?_ (fun w' hw' => ?_) ?_
  rotate_left
  · unfold Oper.quietAt
    go_simp
    exact rfl
  simp only [Act.put, List.setIfInBounds_toArray, List.set_cons_succ, List.set_cons_zero]
  refine qw_want rfl ?_ (fun w' hw' => ?_) ?_
  rotate_left
  · unfold Oper.quietAt
    go_simp
    exact rfl
  simp only [Act.put, List.setIfInBounds_toArray, List.set_cons_succ, List.set_cons_zero]
  refine qw_want rfl (.bool true) (fun w' hw' => ?_) ?_
  · unfold Oper.quietAt
    go_simp
    refine (wakes_ok w').mono ?_
    rintro e w2 ⟨rfl, hb⟩
    have hz := below_then hw' (Nat.le_refl _) hb
    exact ⟨rfl, by simpa using hz⟩
  simp only [Act.put, List.setIfInBounds_toArray, List.set_cons_succ, List.set_cons_zero]
  refine qw_want rfl ?_ (fun w' hw' => ?_) ?_
  rotate_left
  · unfold Oper.quietAt
    go_simp
    exact rfl
  simp only [Act.put, List.setIfInBounds_toArray, List.set_cons_succ, List.set_cons_zero]
  refine qw_want rfl ?_ (fun w' hw' => ?_) ?_
  rotate_left
  · unfold Oper.quietAt
    go_simp
    exact rfl
  simp only [Act.put, List.setIfInBounds_toArray, List.set_cons_succ, List.set_cons_zero]
  refine qw_end (fun w5 hb5 => ?_)
  go_wp2
  go_ret
  exact ⟨rfl, HB8.out.trans (hb5.mono HB8.out.size)⟩
set_option maxRecDepth 100000 in
set_option maxHeartbeats 4000000 in
theorem eufTells_big {w : World} {A B : Option Addr} {l0 c0 l1 c1 : Nat} (a b : Int) (h : 60 < l0 ∨ 60 < l1) :
    Calls Try.prog 3 #[.agg #[.slice A l0 c0], .slice B l1 c1, .int .i64 a, .int .i64 b] w (fun e w' => e = .returned (.bool true) ∧ Below w.heap.size w w') := by
  have HB1 : Hid (Below w.heap.size w (w.alloc (.cells #[.slice A l0 c0] 24))) := Lib.hid ((Below.refl _ w).alloc (Nat.le_refl _) _)
  by_cases hl0 : 60 < l0
  · skip
    have d1 : decide (((l0 : Nat) : Int) > 60) = true := by simp; omega
    have d2 : decide ((60 : Int) < ((l0 : Nat) : Int)) = true := by simp; omega
    clear hl0 h
    go_enter Try.func3, Try.ntmps3
    go_wp2_with fail
    refine (wakes_ok _).mono ?_
    rintro e w2 ⟨rfl, hb2⟩
    have HB2 := Lib.hid (HB1.out.trans (hb2.mono HB1.out.size))
    clear hb2
    go_wp2_with fail
    go_ret
    exact ⟨rfl, HB2.out⟩
  have e0a : decide (((l0 : Nat) : Int) > 60) = false := by simp; omega
  have e0b : decide ((60 : Int) < ((l0 : Nat) : Int)) = false := by simp; omega
  have hl1 : 60 < l1 := by omega
  clear hl0
  have d1 : decide (((l1 : Nat) : Int) > 60) = true := by simp; omega
  have d2 : decide ((60 : Int) < ((l1 : Nat) : Int)) = true := by simp; omega
  clear hl1 h
  go_enter Try.func3, Try.ntmps3
  go_wp2_with fail
  refine (wakes_ok _).mono ?_
  rintro e w2 ⟨rfl, hb2⟩
  have HB2 := Lib.hid (HB1.out.trans (hb2.mono HB1.out.size))
  clear hb2
  go_wp2_with fail
  go_ret
  exact ⟨rfl, HB2.out⟩
theorem eufTells_walk (x : TabIn) (B : Option Addr) (l1 c1 : Nat) (z1 : List Int) (a b : Int) (w : World) (h : x.Ok w) (h1 : IsRow .i64 w B l1 c1 z1) (_ : (Lit.int .i64 a).wf = true) (_ : (Lit.int .i64 b).wf = true) :
    Calls Try.prog 3 #[x.val, .slice B l1 c1, .int .i64 a, .int .i64 b] w (fun e w' => e = .returned (.bool true) ∧ Below w.heap.size w w') := by
  by_cases hb : 60 < x.len ∨ 60 < l1
  · exact eufTells_big a b hb
  · obtain ⟨T, e0, hT, hc⟩ := IsNodes.full h (by omega)
    obtain ⟨L, e1, hL, hn1, hc1, _⟩ := isRow_row h1 (by omega)
    unfold TabIn.val
    rw [← e0, ← e1]
    exact eufTells_core c1 a b hT (by omega) (by omega) (by omega) hL (by omega) hn1
end Go.Proofs.Ytbgbhfmchpdkcaa

/- EufConflict for whatever came in. -/
import Derived.Test.YtbgbhfmchpdkcaaEvN
import Derived.Test.YtbgbhfmchpdkcaaEvO
namespace Go.Proofs.Ytbgbhfmchpdkcaa
open Go.RowKit Go.ChangeShapes Go.WideShapes Go.ChangeAt

set_option maxHeartbeats 4000000 in
set_option maxRecDepth 100000 in
theorem eufConflict_big {w : World} {A B C : Option Addr} {l0 c0 l1 c1 l2 c2 : Nat} (h : 60 < l0 ∨ 60 < l1 ∨ 60 < l2) :
    Calls Try.prog 4 #[.agg #[.slice A l0 c0], .slice B l1 c1, .slice C l2 c2] w (fun e w' => e = .returned (.bool true) ∧ Below w.heap.size w w') := by
  have HB1 : Hid (Below w.heap.size w (w.alloc (.cells #[.slice A l0 c0] 24))) := Lib.hid ((Below.refl _ w).alloc (Nat.le_refl _) _)
  by_cases hl0 : 60 < l0
  · skip
    have d1 : decide (((l0 : Nat) : Int) > 60) = true := by simp; omega
    have d2 : decide ((60 : Int) < ((l0 : Nat) : Int)) = true := by simp; omega
    clear hl0 h
    go_enter Try.func4, Try.ntmps4
    go_wp2_with fail
    refine (wakes_ok _).mono ?_
    rintro e w2 ⟨rfl, hb2⟩
    have HB2 := Lib.hid (HB1.out.trans (hb2.mono HB1.out.size))
    clear hb2
    go_wp2_with fail
    go_ret
    exact ⟨rfl, HB2.out⟩
  have e0a : decide (((l0 : Nat) : Int) > 60) = false := by simp; omega
  have e0b : decide ((60 : Int) < ((l0 : Nat) : Int)) = false := by simp; omega
  by_cases hl1 : 60 < l1
  · skip
    have d1 : decide (((l1 : Nat) : Int) > 60) = true := by simp; omega
    have d2 : decide ((60 : Int) < ((l1 : Nat) : Int)) = true := by simp; omega
    clear hl1 h
    go_enter Try.func4, Try.ntmps4
    go_wp2_with fail
    refine (wakes_ok _).mono ?_
    rintro e w2 ⟨rfl, hb2⟩
    have HB2 := Lib.hid (HB1.out.trans (hb2.mono HB1.out.size))
    clear hb2
    go_wp2_with fail
    go_ret
    exact ⟨rfl, HB2.out⟩
  have e1a : decide (((l1 : Nat) : Int) > 60) = false := by simp; omega
  have e1b : decide ((60 : Int) < ((l1 : Nat) : Int)) = false := by simp; omega
  have hl2 : 60 < l2 := by omega
  clear hl0 hl1
  have d1 : decide (((l2 : Nat) : Int) > 60) = true := by simp; omega
  have d2 : decide ((60 : Int) < ((l2 : Nat) : Int)) = true := by simp; omega
  clear hl2 h
  go_enter Try.func4, Try.ntmps4
  go_wp2_with fail
  refine (wakes_ok _).mono ?_
  rintro e w2 ⟨rfl, hb2⟩
  have HB2 := Lib.hid (HB1.out.trans (hb2.mono HB1.out.size))
  clear hb2
  go_wp2_with fail
  go_ret
  exact ⟨rfl, HB2.out⟩
theorem eufConflict_walk (x : TabIn) (B : Option Addr) (l1 c1 : Nat) (z1 : List Int) (C : Option Addr) (l2 c2 : Nat) (z2 : List Int) (w : World) (h : x.Ok w) (h1 : IsRow .i64 w B l1 c1 z1) (h2 : IsRow .i64 w C l2 c2 z2) :
    Calls Try.prog 4 #[x.val, .slice B l1 c1, .slice C l2 c2] w (fun e w' => e = .returned (.bool true) ∧ Below w.heap.size w w') := by
  by_cases hb : 60 < x.len ∨ 60 < l1 ∨ 60 < l2
  · exact eufConflict_big hb
  · obtain ⟨T, e0, hT, hc⟩ := IsNodes.full h (by omega)
    obtain ⟨L, e1, hL, hn1, _, _⟩ := isRow_row h1 (by omega)
    obtain ⟨M, e2, hM, hn2, _, _⟩ := isRow_row h2 (by omega)
    unfold TabIn.val
    rw [← e0, ← e1, ← e2]
    exact eufConflict_core c1 c2 hT (by omega) hL hM hn1 hn2
end Go.Proofs.Ytbgbhfmchpdkcaa

/- SatRight's walk. -/
import Derived.Test.YtmbekchnfbmhbaaGreatSrS
namespace Go.Proofs.YtmbekchnfbmhbaaGreat
open Go.RowKit Go.Lib

set_option maxRecDepth 100000 in
set_option maxHeartbeats 8000000 in
theorem satRight_walk (a0 : Int) (A1 : Option Addr) (l1 c1 : Nat) (A : Nat → Option Addr) (L C : Nat → Nat) (Z : Nat → List Int) (A2 : Option Addr) (l2 c2 : Nat) (z2 : List Int) (a3 : Int) (w : World) (w0 : (Lit.int .i64 a0).wf = true) (w1 : IsGrid w A1 l1 c1 A L C Z) (w2 : IsRow .i64 w A2 l2 c2 z2) (w3 : (Lit.int .i64 a3).wf = true) :
    Calls Tryz.prog 3 #[.int .i64 a0, .slice A1 l1 c1, .slice A2 l2 c2, .int .i64 a3] w fun e w' => e = .returned (.bool true) ∧ Below w.heap.size w w' := by
  have W1 := Lib.hid w1
  have W2 := Lib.hid w2
  have hl2 := w2.lenMax
  have hwk := Lib.hid (wakes_ok w)
  clear w1 w2 w0 w3
  go_enter Tryz.func3, Tryz.ntmps3
  go_upto_region 3 with (first
    | (go_at_call 7; (with_reducible refine (great15_ok W1.out).mono ?_); rintro e w1 ⟨bb, rfl, rfl, hbb⟩; have HB0 := Lib.hid hbb; clear hbb; cases bb)
    | (go_at_call 8; (with_reducible refine hwk.out.mono ?_); rintro e w9 ⟨rfl, hb9⟩; have HB9 := Lib.hid hb9; clear hb9))
  all_goals try (go_ret; exact ⟨rfl, HB9.out⟩)
  have h5 : ((l2 : Int) ≤ 50 ∧ a0 ≤ 12) ∧ a3 ≤ 200 := by assumption
  obtain ⟨R, rfl, hR⟩ := tameG W1.out (HB0.out rfl)
  obtain ⟨s1, s2, s3, _⟩ := W2.out.row (by omega)
  have hsc : (z2.take l2).length ≤ c2 := by
    rw [s1]
    rcases W2.out with ⟨_, e, _, _⟩ | ⟨_, _, e, _⟩
    · omega
    · exact e
  have hgr := hR.grid
  have hn0 := hR.nil
  have hr80 := hR.r80
  have KM : ∀ W, Below w.heap.size w W → Calls Tryz.prog 10 #[.int .i64 a0, .slice A1 R.length c1, .int .i64 a3] W fun e w' => e = .returned (.bool (mayB a0 R a3)) ∧ Below W.heap.size W w' := fun W hW => may21_ok c1 (hgr.below hW) (fun r hr => by have := (hR.each r hr).1; omega)
  cases hm : mayB a0 R a3 with
  | false =>
    rw [hm] at KM
    have K1 := solve_no (cl := c1) (SA := A2) (cs := c2) (m := l2) hgr hm
    have HM := Lib.hid KM
    clear hR s1 s2 s3 hsc hn0 hr80 hgr hm KM hwk
    go_wp2_with (first
      | (go_at_call 9; (with_reducible refine K1.mono ?_); rintro e w1 ⟨rfl, hb1⟩; have HB1 := Lib.hid (below_then hb1 (Nat.le_refl _) ((Below.refl _ w1).alloc (Nat.le_refl _) (.cells #[.int .i8 0, .slice none 0 0, .slice none 0 0] 29))); clear hb1)
      | (go_at_call 10; (with_reducible refine (HM.out _ HB1.out).mono ?_); rintro e w2 ⟨rfl, hb2⟩; have HB2 := Lib.hid (below_then HB1.out (Nat.le_refl _) hb2); clear hb2)
      | (go_at_call 8; (with_reducible refine (wakes_ok _).mono ?_); rintro e w9 ⟨rfl, hb9⟩; have HB9 := Lib.hid (below_then HB2.out (Nat.le_refl _) hb9); clear hb9))
    go_ret
    exact ⟨rfl, HB9.out⟩
  | true =>
    rw [hm] at KM
    obtain ⟨q1, q2, q3, q4⟩ := may_range hm
    obtain ⟨n, rfl⟩ := Int.eq_ofNat_of_zero_le q1
    obtain ⟨bu, rfl⟩ := Int.eq_ofNat_of_zero_le q3
    have K1 := solve_in (cl := c1) hgr s2 s3 hsc (by omega) hm (by omega)
    rw [s1] at K1
    have hcl := may_cl hm
    have HM := Lib.hid KM
    have HR := Lib.hid hR
    have HCL := Lib.hid hcl
    have hn12 : n ≤ 12 := by omega
    have hb200 : bu ≤ 200 := by omega
    clear hR s1 s2 s3 hsc hn0 hr80 hgr hm KM hwk hcl q1 q2 q3 q4
    go_upto_region 4 with (go_at_call 9; (with_reducible refine K1.mono ?_); rintro e w1 ⟨v, rfl, hp⟩; obtain ⟨k, VA, vm, vc, QA, qc, m, rfl, hmb⟩ := hp.steps; have HP := Lib.hid hp; clear hp)
    have q1 := boxed w1 (.int .i8 k) (.slice VA vm vc) (.slice QA m qc)
    have KR := Lib.hid (fun W (hW : Below w1.heap.size w1 W) => right_ok c1 (HR.out.grid.below HP.out.1) HR.out.nil (by omega) HCL.out (by have := HR.out.r80; omega) (by omega) HP.out hW)
    have HB1 := Lib.hid (HP.out.1)
    have HB2 := Lib.hid (q1.1)
    have HX := Lib.hid q1.2
    clear q1 K1
    generalize w1.alloc (.cells #[.int .i8 k, .slice VA vm vc, .slice QA m qc] 29) = W1 at *
    have x0 : ∀ W, Below W1.heap.size W1 W → W.cell? ⟨w1.heap.size, 0, none⟩ = some (.int .i8 k) ∧ W.cell? ⟨w1.heap.size, 1, none⟩ = some (.slice VA vm vc) ∧ W.cell? ⟨w1.heap.size, 2, none⟩ = some (.slice QA m qc) := fun W hW => by
      have h := HX.out.below hW HX.out.lt
      exact ⟨h.cell 0, h.cell 1, h.cell 2⟩
    have X0 := Lib.hid x0
    have d1 : decide ((m : Int) ≤ (bu : Int) + 1) = true := decide_eq_true (by omega)
    clear x0
    go_wp2_with (first
      | (go_at_call 10; (with_reducible refine (HM.out _ (below_then HB1.out (Nat.le_refl _) HB2.out)).mono ?_); rintro e w2 ⟨rfl, hb2⟩; have x1 := X0.out _ hb2; have x2 := x1.1; have x3 := x1.2.1; have x4 := x1.2.2; clear x1; have HB3 := Lib.hid hb2; clear hb2)
      | (go_at_call 11; (with_reducible refine (KR.out _ (below_then HB2.out (Nat.le_refl _) HB3.out)).mono ?_); rintro e w3 ⟨rfl, hb3⟩; have HB4 := Lib.hid (below_then HB3.out (Nat.le_refl _) hb3); clear hb3 x2 x3 x4; have x1 := X0.out _ HB4.out; have x2 := x1.1; have x3 := x1.2.1; have x4 := x1.2.2; clear x1)
      | (go_at_call 8; (with_reducible refine (wakes_ok _).mono ?_); rintro e w9 ⟨rfl, hb9⟩; have HB9 := Lib.hid (below_then HB1.out (Nat.le_refl _) (below_then HB2.out (Nat.le_refl _) (below_then HB4.out (Nat.le_refl _) hb9))); clear hb9))
    go_ret
    exact ⟨rfl, HB9.out⟩
end Go.Proofs.YtmbekchnfbmhbaaGreat

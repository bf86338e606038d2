/- What all the laws ask last. -/
import Derived.Test.YtlganicnbcnngaaClF
namespace Go.Proofs.Ytlganicnbcnngaa
open Go.RowKit Go.Lib

theorem make_w : makeM [7, 2, 7, 3] = [2, 3, 7] := by
  unfold makeM
  have h : ([7, 2, 7, 3] : List Int).filter (fun x => !decide (x < 0)) = [7, 2, 7, 3] := by decide
  rw [h]
  have h2 : ([7, 2, 7, 3] : List Int).mergeSort (fun x y => decide (x ≤ y)) = [2, 3, 7, 7] := by
    simp [List.mergeSort, List.MergeSort.Internal.splitInTwo]
  rw [h2]
  rfl

set_option maxHeartbeats 1000000 in
theorem wakes_ok (w : World) : Calls Try.prog 7 #[] w fun e w' => e = .returned (.bool true) ∧ Below w.heap.size w w' := by
  go_enter Try.func7, Try.ntmps7
  have hb : Below w.heap.size w (w.alloc (.cells #[.int .i64 7, .int .i64 2, .int .i64 7, .int .i64 3] 3)) := (Below.refl _ w).alloc (Nat.le_refl _) _
  have hrow : Row .i64 (w.alloc (.cells #[.int .i64 7, .int .i64 2, .int .i64 7, .int .i64 3] 3)) (some ⟨w.heap.size, 0, none⟩) [7, 2, 7, 3] := by
    refine ⟨by simp, .inr ⟨w.heap.size, 0, rfl, by simp, fun i hi => ?_⟩⟩
    have h1 := (Blk.new w 3 #[.int .i64 7, .int .i64 2, .int .i64 7, .int .i64 3]).cell i
    rw [Nat.zero_add, h1]
    match i, hi with
    | 0, _ => rfl
    | 1, _ => rfl
    | 2, _ => rfl
    | 3, _ => rfl
  have Hb := Lib.hid hb
  have Hrow := Lib.hid hrow
  clear hb hrow
  go_upto_region 2 with (go_at_call 10; refine (make_ok (zs := [7, 2, 7, 3]) 4 Hrow.out (fun h => by cases h)).mono ?_; rintro e w1 ⟨v, rfl, ho, hb1⟩; rw [make_w] at ho; have Ho := Lib.hid ho; have Hb1 := Lib.hid (Hb.out.trans (hb1.mono Hb.out.size)); clear ho hb1)
  rcases own_cases Ho.out rfl with ⟨_, h0⟩ | ⟨g, c, rfl, hown, hgb, hc⟩
  · cases h0
  have hg1 : g < w1.heap.size := own_lt hown
  have q0 := hown.cellAt 0 (by simp)
  have q1 := hown.cellAt 1 (by simp)
  have q2 := hown.cellAt 2 (by simp)
  simp only [List.map_cons, List.map_nil, List.getElem?_cons_zero, List.getElem?_cons_succ] at q0 q1 q2
  have hb2 : Below w1.heap.size w1 ((w1.alloc (.cells #[.int .i64 2, .int .i64 4] 3)).alloc (.cells #[.int .i8 0, .int .i8 2] 26)) := ((Below.refl _ w1).alloc (Nat.le_refl _) _).alloc (by simp) _
  have hr1 : Row .i64 ((w1.alloc (.cells #[.int .i64 2, .int .i64 4] 3)).alloc (.cells #[.int .i8 0, .int .i8 2] 26)) (some ⟨w1.heap.size, 0, none⟩) [2, 4] := by
    refine ⟨by simp, .inr ⟨w1.heap.size, 0, rfl, by simp; omega, fun i hi => ?_⟩⟩
    have h1 := ((Blk.new w1 3 #[.int .i64 2, .int .i64 4]).alloc (.cells #[.int .i8 0, .int .i8 2] 26)).cell i
    rw [Nat.zero_add, h1]
    match i, hi with
    | 0, _ => rfl
    | 1, _ => rfl
  have hr2 : Row .i8 ((w1.alloc (.cells #[.int .i64 2, .int .i64 4] 3)).alloc (.cells #[.int .i8 0, .int .i8 2] 26)) (some ⟨w1.heap.size + 1, 0, none⟩) [0, 2] := by
    refine ⟨by simp, .inr ⟨w1.heap.size + 1, 0, rfl, by simp, fun i hi => ?_⟩⟩
    have h1 := (Blk.new_at (w := w1.alloc (.cells #[.int .i64 2, .int .i64 4] 3)) (n := w1.heap.size + 1) (by simp) 26 #[.int .i8 0, .int .i8 2]).cell i
    rw [Nat.zero_add, h1]
    match i, hi with
    | 0, _ => rfl
    | 1, _ => rfl
  have hr3 : Row .i64 ((w1.alloc (.cells #[.int .i64 2, .int .i64 4] 3)).alloc (.cells #[.int .i8 0, .int .i8 2] 26)) (some ⟨g, 0, none⟩) [2, 3, 7] := by
    refine ⟨by simp, .inr ⟨g, 0, rfl, Nat.lt_of_lt_of_le hg1 hb2.size, fun i hi => ?_⟩⟩
    rw [Nat.zero_add, hb2.cell (p := ⟨g, i, none⟩) hg1]
    match i, hi with
    | 0, _ => exact q0
    | 1, _ => exact q1
    | 2, _ => exact q2
  have y0 := (hb2.cell (p := ⟨g, 0, none⟩) hg1).trans q0
  have y2 := (hb2.cell (p := ⟨g, 2, none⟩) hg1).trans q2
  have hst : stM [0, 2] [2, 4] 0 (-1) = (2, 4) := by decide
  have hid : ([2, 3, 7] : List Int).any (idleP [2, 3, 7]) = true := by decide
  have HR1 := Lib.hid hr1
  have HR2 := Lib.hid hr2
  have HR3 := Lib.hid hr3
  have HB2 := Lib.hid (Hb1.out.trans (hb2.mono Hb1.out.size))
  have Hst := Lib.hid hst
  have Hid' := Lib.hid hid
  clear hr1 hr2 hr3 hb2 hst hid hown q0 q1 q2
  go_upto_region 3 with (go_at_call 8; refine (state_ok (c := [2, 4]) (vals := [0, 2]) 2 2 HR1.out HR2.out (by decide)).mono ?_; rintro e w2 ⟨rfl, rfl⟩; rw [Hst.out])
  go_wp2_with (go_at_call 9; refine (idle_ok (zs := [2, 3, 7]) c HR3.out (by decide)).mono ?_; rintro e w3 ⟨rfl, hb3⟩; rw [Hid'.out]; have HB3 := Lib.hid (HB2.out.trans (hb3.mono HB2.out.size)); clear hb3)
  go_ret
  exact ⟨rfl, HB3.out⟩
end Go.Proofs.Ytlganicnbcnngaa

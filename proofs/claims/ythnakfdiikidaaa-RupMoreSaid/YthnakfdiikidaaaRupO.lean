/- What all the laws ask last: wakes. -/
import Derived.Test.YthnakfdiikidaaaRupN
namespace Go.Proofs.Ythnakfdiikidaaa
open Go.RowKit Go.Lib

theorem k_a (w : World) {A : Option Addr} {R : List (Option Addr × Nat × List Int)} (h : FourAt w A R) :
    Calls Try.prog 12 #[.slice A 4 4, .slice (some ⟨w.heap.size + 1 + 1, 0, none⟩) 2 2]
      (((w.alloc (.cells #[.int .i64 2] 3)).alloc (.cells #[] 3)).alloc (.cells #[.slice (some ⟨w.heap.size, 0, none⟩) 1 1, .slice (some ⟨w.heap.size + 1, 0, none⟩) 0 0] 28)) fun e w' => e = .returned (.bool true) ∧ Below w.heap.size w w' := by
  have hb : Below w.heap.size w (((w.alloc (.cells #[.int .i64 2] 3)).alloc (.cells #[] 3)).alloc (.cells #[.slice (some ⟨w.heap.size, 0, none⟩) 1 1, .slice (some ⟨w.heap.size + 1, 0, none⟩) 0 0] 28)) :=
    (((Below.refl _ w).alloc (Nat.le_refl _) _).alloc (by simp) _).alloc (by simp; omega) _
  have hs : Grid (((w.alloc (.cells #[.int .i64 2] 3)).alloc (.cells #[] 3)).alloc (.cells #[.slice (some ⟨w.heap.size, 0, none⟩) 1 1, .slice (some ⟨w.heap.size + 1, 0, none⟩) 0 0] 28)) (some ⟨w.heap.size + 1 + 1, 0, none⟩) [(some ⟨w.heap.size, 0, none⟩, 1, [2]), (some ⟨w.heap.size + 1, 0, none⟩, 0, [])] := by
    refine blk_grid (Blk.new_at (by simp) _ _) (by simp) ?_
    intro r hr
    rcases List.mem_cons.1 hr with rfl | hr
    · exact ⟨blk_row (((Blk.new w 3 #[.int .i64 2]).alloc _).alloc _) (by simp), fun h => by cases h⟩
    rcases List.mem_cons.1 hr with rfl | hr
    · exact ⟨⟨by simp, .inl rfl⟩, fun h => by cases h⟩
    cases hr
  have hl := h.2.2
  have K := refutes_ok 4 2 (h.below hb).1 hs (by omega) (by simp) (by simp)
  rw [h.2.1, hl, show rowsOf [(some (⟨w.heap.size, 0, none⟩ : Addr), 1, [2]), (some ⟨w.heap.size + 1, 0, none⟩, 0, [])] = [[2], []] from rfl, wr_a] at K
  refine K.mono ?_
  rintro e w' ⟨rfl, hb2⟩
  exact ⟨rfl, below_then hb (Nat.le_refl _) hb2⟩
theorem k_b (w : World) {A : Option Addr} {R : List (Option Addr × Nat × List Int)} (h : FourAt w A R) :
    Calls Try.prog 12 #[.slice A 4 4, .slice (some ⟨w.heap.size + 1, 0, none⟩) 1 1]
      ((w.alloc (.cells #[] 3)).alloc (.cells #[.slice (some ⟨w.heap.size, 0, none⟩) 0 0] 28)) fun e w' => e = .returned (.bool false) ∧ Below w.heap.size w w' := by
  have hb : Below w.heap.size w ((w.alloc (.cells #[] 3)).alloc (.cells #[.slice (some ⟨w.heap.size, 0, none⟩) 0 0] 28)) :=
    ((Below.refl _ w).alloc (Nat.le_refl _) _).alloc (by simp) _
  have hs : Grid ((w.alloc (.cells #[] 3)).alloc (.cells #[.slice (some ⟨w.heap.size, 0, none⟩) 0 0] 28)) (some ⟨w.heap.size + 1, 0, none⟩) [(some ⟨w.heap.size, 0, none⟩, 0, [])] := by
    refine blk_grid (Blk.new_at (by simp) _ _) (by simp) ?_
    intro r hr
    rcases List.mem_cons.1 hr with rfl | hr
    · exact ⟨⟨by simp, .inl rfl⟩, fun h => by cases h⟩
    cases hr
  have hl := h.2.2
  have K := refutes_ok 4 1 (h.below hb).1 hs (by omega) (by simp) (by simp)
  rw [h.2.1, hl, show rowsOf [(some (⟨w.heap.size, 0, none⟩ : Addr), 0, [])] = [[]] from rfl, wr_b] at K
  refine K.mono ?_
  rintro e w' ⟨rfl, hb2⟩
  exact ⟨rfl, below_then hb (Nat.le_refl _) hb2⟩
theorem k_c (w : World) {A : Option Addr} {R : List (Option Addr × Nat × List Int)} (h : FourAt w A R) :
    Calls Try.prog 13 #[.slice A 4 4, .slice (some ⟨w.heap.size, 0, none⟩) 1 1]
      (w.alloc (.cells #[.int .i64 2] 3)) fun e w' => e = .returned (.bool true) ∧ Below w.heap.size w w' := by
  have hb : Below w.heap.size w (w.alloc (.cells #[.int .i64 2] 3)) := (Below.refl _ w).alloc (Nat.le_refl _) _
  have hl := h.2.2
  have K := follows_ok (c := [2]) 4 1 (h.below hb).1 (blk_row (Blk.new w 3 #[.int .i64 2]) (by simp)) (by decide)
  rw [h.2.1, hl, wf_a] at K
  refine K.mono ?_
  rintro e w' ⟨rfl, hb2⟩
  exact ⟨rfl, below_then hb (Nat.le_refl _) hb2⟩
theorem k_d (w : World) {A : Option Addr} {R : List (Option Addr × Nat × List Int)} (h : FourAt w A R) :
    Calls Try.prog 10 #[.slice A 4 4, .slice (some ⟨w.heap.size + 1 + 1 + 1, 0, none⟩) 3 3]
      ((((w.alloc (.cells #[.int .i64 2] 3)).alloc (.cells #[.int .i64 4, .int .i64 5] 3)).alloc (.cells #[.int .i64 6] 3)).alloc (.cells #[.slice (some ⟨w.heap.size, 0, none⟩) 1 1, .slice (some ⟨w.heap.size + 1, 0, none⟩) 2 2, .slice (some ⟨w.heap.size + 1 + 1, 0, none⟩) 1 1] 28)) fun e w' => e = .returned (.int .i64 (-1)) ∧ Below w.heap.size w w' := by
  have hb : Below w.heap.size w ((((w.alloc (.cells #[.int .i64 2] 3)).alloc (.cells #[.int .i64 4, .int .i64 5] 3)).alloc (.cells #[.int .i64 6] 3)).alloc (.cells #[.slice (some ⟨w.heap.size, 0, none⟩) 1 1, .slice (some ⟨w.heap.size + 1, 0, none⟩) 2 2, .slice (some ⟨w.heap.size + 1 + 1, 0, none⟩) 1 1] 28)) :=
    ((((Below.refl _ w).alloc (Nat.le_refl _) _).alloc (by simp) _).alloc (by simp; omega) _).alloc (by simp; omega) _
  have hs : Grid ((((w.alloc (.cells #[.int .i64 2] 3)).alloc (.cells #[.int .i64 4, .int .i64 5] 3)).alloc (.cells #[.int .i64 6] 3)).alloc (.cells #[.slice (some ⟨w.heap.size, 0, none⟩) 1 1, .slice (some ⟨w.heap.size + 1, 0, none⟩) 2 2, .slice (some ⟨w.heap.size + 1 + 1, 0, none⟩) 1 1] 28)) (some ⟨w.heap.size + 1 + 1 + 1, 0, none⟩) [(some ⟨w.heap.size, 0, none⟩, 1, [2]), (some ⟨w.heap.size + 1, 0, none⟩, 2, [4, 5]), (some ⟨w.heap.size + 1 + 1, 0, none⟩, 1, [6])] := by
    refine blk_grid (Blk.new_at (by simp) _ _) (by simp) ?_
    intro r hr
    rcases List.mem_cons.1 hr with rfl | hr
    · exact ⟨blk_row ((((Blk.new w 3 #[.int .i64 2]).alloc _).alloc _).alloc _) (by simp), fun h => by cases h⟩
    rcases List.mem_cons.1 hr with rfl | hr
    · exact ⟨blk_row (((Blk.new_at (by simp) 3 #[.int .i64 4, .int .i64 5]).alloc _).alloc _) (by simp), fun h => by cases h⟩
    rcases List.mem_cons.1 hr with rfl | hr
    · exact ⟨blk_row ((Blk.new_at (by simp) 3 #[.int .i64 6]).alloc _) (by simp), fun h => by cases h⟩
    cases hr
  have hl := h.2.2
  have K := row_ok 4 3 (h.below hb).1 hs (by omega) (by simp) (by simp)
  rw [h.2.1, hl, show rowsOf [(some (⟨w.heap.size, 0, none⟩ : Addr), 1, [2]), (some ⟨w.heap.size + 1, 0, none⟩, 2, [4, 5]), (some ⟨w.heap.size + 1 + 1, 0, none⟩, 1, [6])] = [[2], [4, 5], [6]] from rfl, wr_c] at K
  refine K.mono ?_
  rintro e w' ⟨rfl, hb2⟩
  exact ⟨rfl, below_then hb (Nat.le_refl _) hb2⟩

set_option maxHeartbeats 1000000 in
theorem wakes_ok (w : World) : Calls Try.prog 8 #[] w fun e w' => e = .returned (.bool true) ∧ Below w.heap.size w w' := by
  have hb0 := Lib.hid (Below.refl w.heap.size w)
  have d1 : decide ((-1 : Int) < 0) = true := by decide
  go_enter Try.func8, Try.ntmps8
  go_wp2_with (first
    | (go_at_call 22; (with_reducible refine (four_ok _).mono ?_); rintro e wf ⟨A, R, rfl, hf, hbf⟩; have HF := Lib.hid hf; have hb0 := Lib.hid (below_then hb0.out (Nat.le_refl _) hbf); clear hf hbf)
    | (go_at_call 12; (with_reducible refine (k_a wf HF.out).mono ?_); rintro e w1 ⟨rfl, hb1⟩; have hb0 := Lib.hid (below_then hb0.out (Nat.le_refl _) hb1); clear hb1)
    | (go_at_call 12; (with_reducible refine (k_b wf HF.out).mono ?_); rintro e w1 ⟨rfl, hb1⟩; have hb0 := Lib.hid (below_then hb0.out (Nat.le_refl _) hb1); clear hb1)
    | (go_at_call 13; (with_reducible refine (k_c wf HF.out).mono ?_); rintro e w1 ⟨rfl, hb1⟩; have hb0 := Lib.hid (below_then hb0.out (Nat.le_refl _) hb1); clear hb1)
    | (go_at_call 10; (with_reducible refine (k_d wf HF.out).mono ?_); rintro e w1 ⟨rfl, hb1⟩; have hb0 := Lib.hid (below_then hb0.out (Nat.le_refl _) hb1); clear hb1))
  go_ret
  exact ⟨rfl, hb0.out⟩
end Go.Proofs.Ythnakfdiikidaaa

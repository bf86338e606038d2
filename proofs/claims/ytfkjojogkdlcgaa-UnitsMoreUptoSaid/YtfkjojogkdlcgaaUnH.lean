/- What all the laws ask last. -/
import Derived.Test.YtfkjojogkdlcgaaUnG
namespace Go.Proofs.Ytfkjojogkdlcgaa
open Go.RowKit Go.Lib

theorem blk_row {w : World} {g : Nat} {zs : List Int} (h : Blk w g 3 (zs.map (Value.int .i64)).toArray) (hl : zs.length ≤ 1000000) : Row .i64 w (some ⟨g, 0, none⟩) zs := by
  refine ⟨hl, .inr ⟨g, 0, rfl, h.lt, fun i hi => ?_⟩⟩
  rw [Nat.zero_add, h.cell i, List.getElem?_toArray, List.getElem?_map, List.getElem?_eq_getElem hi]
  rfl
theorem blk_grid {w : World} {g : Nat} {R : List (Option Addr × Nat × List Int)} (h : Blk w g 23 (R.map encR).toArray) (hl : R.length ≤ 1000000) (he : ∀ r ∈ R, Row .i64 w r.1 r.2.2 ∧ (r.1 = none → r.2.1 = 0)) : Grid w (some ⟨g, 0, none⟩) R := by
  refine ⟨hl, .inr ⟨g, 0, rfl, h.lt, fun i hi => ?_⟩⟩
  refine ⟨?_, he _ (List.getElem_mem hi)⟩
  rw [Nat.zero_add, h.cell i, List.getElem?_toArray, List.getElem?_map, List.getElem?_eq_getElem hi]
  rfl
theorem make_of_ord {l : List Int} (h : Ord l) (h0 : ∀ x ∈ l, 0 ≤ x) : makeM l = l := by
  unfold makeM
  refine ord_ext (made_ord _) h fun x => ?_
  rw [made_mem, List.mem_filter]
  exact ⟨fun h => h.1, fun h => ⟨h, by have := h0 x h; simp; omega⟩⟩
theorem plain_of_ord {l : List Int} (h : Ord l) (h0 : ∀ x ∈ l, 0 ≤ x ∧ x ≤ 1048576) : plainM l = l := by
  unfold plainM
  rw [make_of_ord h fun x hx => (h0 x hx).1]
  exact List.filter_eq_self.2 fun x hx => by rw [(wide_iff x).2 (h0 x hx)]; rfl
theorem ord_two {a b : Int} (h : a < b) : Ord [a, b] := by unfold Ord; simp [h]
theorem ord_one {a : Int} : Ord [a] := by unfold Ord; simp
theorem w_a : runM [[3, 4], [5, 6]] [2] = ([2, 4, 6], -1) := by
  unfold runM
  have e : [[3, 4], [5, 6]].map plainM = [[3, 4], [5, 6]] := by
    simp only [List.map_cons, List.map_nil]
    rw [plain_of_ord (ord_two (by decide)) (by decide), plain_of_ord (ord_two (by decide)) (by decide)]
  rw [e, show givenM [2] [] = ([2], true) by decide]
  simp only [if_true]
  rw [runL, show lookF (valL [2]) [[3, 4], [5, 6]] 0 (-1) 0 = (-1, 0, 4) by decide]
  simp only [show ¬ (0 : Int) ≤ -1 by decide, if_false, show ¬ (0 : Int) = -1 by decide]
  rw [runL, show lookF (valL ([2] ++ [4])) [[3, 4], [5, 6]] 0 (-1) 0 = (-1, 1, 6) by decide]
  simp only [show ¬ (0 : Int) ≤ -1 by decide, if_false, show ¬ (1 : Int) = -1 by decide]
  rw [runL, show lookF (valL ([2] ++ [4] ++ [6])) [[3, 4], [5, 6]] 0 (-1) 0 = (-1, -1, 0) by decide]
  rfl
theorem w_b : runM [[3]] [2] = ([2], 0) := by
  unfold runM
  have e : [[3]].map plainM = [[3]] := by
    simp only [List.map_cons, List.map_nil]
    rw [plain_of_ord ord_one (by decide)]
  rw [e, show givenM [2] [] = ([2], true) by decide]
  simp only [if_true]
  rw [runL, show lookF (valL [2]) [[3]] 0 (-1) 0 = (0, -1, 0) by decide]
  rfl
theorem w_c : runM [] [2, 3] = ([2], -2) := by decide
theorem w_d : runM [[3, 4]] [2] = ([2, 4], -1) := by
  unfold runM
  have e : [[3, 4]].map plainM = [[3, 4]] := by
    simp only [List.map_cons, List.map_nil]
    rw [plain_of_ord (ord_two (by decide)) (by decide)]
  rw [e, show givenM [2] [] = ([2], true) by decide]
  simp only [if_true]
  rw [runL, show lookF (valL [2]) [[3, 4]] 0 (-1) 0 = (-1, 0, 4) by decide]
  simp only [show ¬ (0 : Int) ≤ -1 by decide, if_false, show ¬ (0 : Int) = -1 by decide]
  rw [runL, show lookF (valL ([2] ++ [4])) [[3, 4]] 0 (-1) 0 = (-1, -1, 0) by decide]
  rfl
theorem w_e : implM [[3, 4]] [2] 4 = true := by
  unfold implM
  rw [w_d]
  decide

theorem grid_nil (w : World) : Grid w none [] := ⟨by simp, .inl rfl⟩
theorem wk_a (w : World) : ∃ W : World, W = (((w.alloc (.cells #[.int .i64 3, .int .i64 4] 3)).alloc (.cells #[.int .i64 5, .int .i64 6] 3)).alloc (.cells #[.slice (some ⟨w.heap.size, 0, none⟩) 2 2, .slice (some ⟨w.heap.size + 1, 0, none⟩) 2 2] 23)).alloc (.cells #[.int .i64 2] 3) ∧
    Grid W (some ⟨w.heap.size + 1 + 1, 0, none⟩) [(some ⟨w.heap.size, 0, none⟩, 2, [3, 4]), (some ⟨w.heap.size + 1, 0, none⟩, 2, [5, 6])] ∧ Row .i64 W (some ⟨w.heap.size + 1 + 1 + 1, 0, none⟩) [2] ∧ Below w.heap.size w W := by
  refine ⟨_, rfl, blk_grid ((Blk.new_at (by simp) _ _).alloc _) (by simp) ?_, blk_row (Blk.new_at (by simp) _ _) (by simp), ((((Below.refl _ w).alloc (Nat.le_refl _) _).alloc (by simp) _).alloc (by simp; omega) _).alloc (by simp; omega) _⟩
  intro r hr
  rcases List.mem_cons.1 hr with rfl | hr
  · exact ⟨blk_row ((((Blk.new w 3 #[.int .i64 3, .int .i64 4]).alloc _).alloc _).alloc _) (by simp), fun h => by cases h⟩
  · rcases List.mem_cons.1 hr with rfl | hr
    · exact ⟨blk_row (((Blk.new_at (by simp) 3 #[.int .i64 5, .int .i64 6]).alloc _).alloc _) (by simp), fun h => by cases h⟩
    · cases hr
theorem wk_b (w : World) : ∃ W : World, W = ((w.alloc (.cells #[.int .i64 3] 3)).alloc (.cells #[.slice (some ⟨w.heap.size, 0, none⟩) 1 1] 23)).alloc (.cells #[.int .i64 2] 3) ∧
    Grid W (some ⟨w.heap.size + 1, 0, none⟩) [(some ⟨w.heap.size, 0, none⟩, 1, [3])] ∧ Row .i64 W (some ⟨w.heap.size + 1 + 1, 0, none⟩) [2] ∧ Below w.heap.size w W := by
  refine ⟨_, rfl, blk_grid ((Blk.new_at (by simp) _ _).alloc _) (by simp) ?_, blk_row (Blk.new_at (by simp) _ _) (by simp), (((Below.refl _ w).alloc (Nat.le_refl _) _).alloc (by simp) _).alloc (by simp; omega) _⟩
  intro r hr
  rcases List.mem_cons.1 hr with rfl | hr
  · exact ⟨blk_row (((Blk.new w 3 #[.int .i64 3]).alloc _).alloc _) (by simp), fun h => by cases h⟩
  · cases hr
theorem wk_c (w : World) : ∃ W : World, W = w.alloc (.cells #[.int .i64 2, .int .i64 3] 3) ∧ Row .i64 W (some ⟨w.heap.size, 0, none⟩) [2, 3] ∧ Below w.heap.size w W :=
  ⟨_, rfl, blk_row (Blk.new w 3 #[.int .i64 2, .int .i64 3]) (by simp), (Below.refl _ w).alloc (Nat.le_refl _) _⟩
theorem wk_d (w : World) : ∃ W : World, W = ((w.alloc (.cells #[.int .i64 3, .int .i64 4] 3)).alloc (.cells #[.slice (some ⟨w.heap.size, 0, none⟩) 2 2] 23)).alloc (.cells #[.int .i64 2] 3) ∧
    Grid W (some ⟨w.heap.size + 1, 0, none⟩) [(some ⟨w.heap.size, 0, none⟩, 2, [3, 4])] ∧ Row .i64 W (some ⟨w.heap.size + 1 + 1, 0, none⟩) [2] ∧ Below w.heap.size w W := by
  refine ⟨_, rfl, blk_grid ((Blk.new_at (by simp) _ _).alloc _) (by simp) ?_, blk_row (Blk.new_at (by simp) _ _) (by simp), (((Below.refl _ w).alloc (Nat.le_refl _) _).alloc (by simp) _).alloc (by simp; omega) _⟩
  intro r hr
  rcases List.mem_cons.1 hr with rfl | hr
  · exact ⟨blk_row (((Blk.new w 3 #[.int .i64 3, .int .i64 4]).alloc _).alloc _) (by simp), fun h => by cases h⟩
  · cases hr

def WA (w : World) : World := (((w.alloc (.cells #[.int .i64 3, .int .i64 4] 3)).alloc (.cells #[.int .i64 5, .int .i64 6] 3)).alloc (.cells #[.slice (some ⟨w.heap.size, 0, none⟩) 2 2, .slice (some ⟨w.heap.size + 1, 0, none⟩) 2 2] 23)).alloc (.cells #[.int .i64 2] 3)
theorem k_a (w : World) : Calls Try.prog 12 #[.slice (some ⟨w.heap.size + 1 + 1, 0, none⟩) 2 2, .slice (some ⟨w.heap.size + 1 + 1 + 1, 0, none⟩) 1 1] (WA w)
    fun e w' => ∃ g d, e = .returned (.tuple #[.slice (some ⟨g, 0, none⟩) 3 d, .int .i64 (-1)]) ∧ w'.cell? ⟨g, 0, none⟩ = some (.int .i64 2) ∧ w'.cell? ⟨g, 1, none⟩ = some (.int .i64 4) ∧ w'.cell? ⟨g, 2, none⟩ = some (.int .i64 6) ∧ 3 ≤ d ∧ g < w'.heap.size ∧ Below w.heap.size w w' := by
  obtain ⟨W, rfl, h1, h2, h3⟩ := wk_a w
  refine (run_ok (rows := [(some ⟨w.heap.size, 0, none⟩, 2, [3, 4]), (some ⟨w.heap.size + 1, 0, none⟩, 2, [5, 6])]) (given := [2]) 2 1 h1 h2 (by decide)).mono ?_
  rintro e w' ⟨v, rfl, ho, hb⟩
  rw [show rowsOf [(some (⟨w.heap.size, 0, none⟩ : Addr), 2, [3, 4]), (some ⟨w.heap.size + 1, 0, none⟩, 2, [5, 6])] = [[3, 4], [5, 6]] from rfl, w_a] at ho ⊢
  rcases own_cases ho rfl with ⟨_, h0⟩ | ⟨g, c, rfl, hown, hgb, hc⟩
  · cases h0
  have q0 := hown.cellAt 0 (by simp)
  have q1 := hown.cellAt 1 (by simp)
  have q2 := hown.cellAt 2 (by simp)
  exact ⟨g, c, rfl, q0, q1, q2, hc, own_lt hown, below_then h3 (Nat.le_refl _) hb⟩
theorem k_b (w : World) : Calls Try.prog 12 #[.slice (some ⟨w.heap.size + 1, 0, none⟩) 1 1, .slice (some ⟨w.heap.size + 1 + 1, 0, none⟩) 1 1] (((w.alloc (.cells #[.int .i64 3] 3)).alloc (.cells #[.slice (some ⟨w.heap.size, 0, none⟩) 1 1] 23)).alloc (.cells #[.int .i64 2] 3))
    fun e w' => ∃ v, e = .returned (.tuple #[v, .int .i64 0]) ∧ Below w.heap.size w w' := by
  obtain ⟨W, rfl, h1, h2, h3⟩ := wk_b w
  refine (run_ok (rows := [(some ⟨w.heap.size, 0, none⟩, 1, [3])]) (given := [2]) 1 1 h1 h2 (by decide)).mono ?_
  rintro e w' ⟨v, rfl, ho, hb⟩
  rw [show rowsOf [(some (⟨w.heap.size, 0, none⟩ : Addr), 1, [3])] = [[3]] from rfl, w_b]
  exact ⟨v, rfl, below_then h3 (Nat.le_refl _) hb⟩
theorem k_c (w : World) : Calls Try.prog 12 #[.slice none 0 0, .slice (some ⟨w.heap.size, 0, none⟩) 2 2] (w.alloc (.cells #[.int .i64 2, .int .i64 3] 3))
    fun e w' => ∃ v, e = .returned (.tuple #[v, .int .i64 (-2)]) ∧ Below w.heap.size w w' := by
  obtain ⟨W, rfl, h2, h3⟩ := wk_c w
  refine (run_ok (rows := []) (given := [2, 3]) 0 2 (grid_nil _) h2 (by decide)).mono ?_
  rintro e w' ⟨v, rfl, ho, hb⟩
  rw [show rowsOf [] = [] from rfl, w_c]
  exact ⟨v, rfl, below_then h3 (Nat.le_refl _) hb⟩
theorem k_d (w : World) : Calls Try.prog 21 #[.slice (some ⟨w.heap.size + 1, 0, none⟩) 1 1, .slice (some ⟨w.heap.size + 1 + 1, 0, none⟩) 1 1, .int .i64 4] (((w.alloc (.cells #[.int .i64 3, .int .i64 4] 3)).alloc (.cells #[.slice (some ⟨w.heap.size, 0, none⟩) 2 2] 23)).alloc (.cells #[.int .i64 2] 3))
    fun e w' => e = .returned (.bool true) ∧ Below w.heap.size w w' := by
  obtain ⟨W, rfl, h1, h2, h3⟩ := wk_d w
  refine (implies_ok (rows := [(some ⟨w.heap.size, 0, none⟩, 2, [3, 4])]) (given := [2]) 1 1 h1 h2 (by decide) 4).mono ?_
  rintro e w' ⟨rfl, hb⟩
  rw [show rowsOf [(some (⟨w.heap.size, 0, none⟩ : Addr), 2, [3, 4])] = [[3, 4]] from rfl, w_e]
  exact ⟨rfl, below_then h3 (Nat.le_refl _) hb⟩

set_option maxHeartbeats 1000000 in
theorem wakes_ok (w : World) : Calls Try.prog 11 #[] w fun e w' => e = .returned (.bool true) ∧ Below w.heap.size w w' := by
  have KA := k_a w
  unfold WA at KA
  go_enter Try.func11, Try.ntmps11
  go_upto_region 2 with (go_at_call 12; (with_reducible refine KA.mono ?_); rintro e w1 ⟨g, d, rfl, y0, y1, y2, hd, hg, hb1⟩; have Y := Lib.hid (And.intro y0 (And.intro y1 y2)); have HG := Lib.hid hg; have HB1 := Lib.hid hb1; clear y0 y1 y2 hg hb1)
  have KB := k_b w1
  go_upto_region 3 with (go_at_call 12; (with_reducible refine KB.mono ?_); rintro e w2 ⟨v2, rfl, hb2⟩; have HB2 := Lib.hid hb2; clear hb2)
  have KC := k_c w2
  go_upto_region 4 with (go_at_call 12; (with_reducible refine KC.mono ?_); rintro e w3 ⟨v3, rfl, hb3⟩; have HB3 := Lib.hid hb3; clear hb3)
  have hb13 : Below w1.heap.size w1 w3 := below_then HB2.out (Nat.le_refl _) HB3.out
  have y0 := (hb13.cell (p := ⟨g, 0, none⟩) HG.out).trans Y.out.1
  have y1 := (hb13.cell (p := ⟨g, 1, none⟩) HG.out).trans Y.out.2.1
  have y2 := (hb13.cell (p := ⟨g, 2, none⟩) HG.out).trans Y.out.2.2
  have HB13 := Lib.hid (below_then HB1.out (Nat.le_refl _) hb13)
  have KD := k_d w3
  clear hb13 KA KB KC
  go_wp2_with (go_at_call 21; (with_reducible refine KD.mono ?_); rintro e w4 ⟨rfl, hb4⟩; have HB4 := Lib.hid (below_then HB13.out (Nat.le_refl _) hb4); clear hb4)
  go_ret
  exact ⟨rfl, HB4.out⟩
end Go.Proofs.Ytfkjojogkdlcgaa

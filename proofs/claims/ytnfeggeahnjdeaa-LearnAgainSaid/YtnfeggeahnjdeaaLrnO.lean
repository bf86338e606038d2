/- wakes. -/
import Derived.Test.YtnfeggeahnjdeaaLrnM
namespace Go.Proofs.Ytnfeggeahnjdeaa
open Go.RowKit Go.Lib

theorem makeM_is {l m : List Int} (ho : Ord m) (h : ∀ x, x ∈ m ↔ x ∈ l ∧ 0 ≤ x) : makeM l = m :=
  ord_ext (made_ord _) ho fun x => mem_makeM.trans (h x).symm
/-- The trail of the document's example. -/
def wakeM : Tr := ⟨3, [⟨2, 1, -1⟩, ⟨4, 1, 0⟩], 1⟩
theorem wake_puts : putM (putM (beginM ⟨3, [], 0⟩) 2 (-1)) 4 0 = wakeM := rfl
theorem wake_e1 : beginE ⟨3, [], 0⟩ = 0 := by decide
theorem wake_e2 : putE (beginM ⟨3, [], 0⟩) 2 (-1) = 0 := by decide
theorem wake_e3 : putE (putM (beginM ⟨3, [], 0⟩) 2 (-1)) 4 0 = 0 := by decide
theorem mk35 : makeM [3, 5] = [3, 5] := makeM_is (by simp [Ord]) (by intro x; simp; omega)
theorem mk34 : makeM [3, 4] = [3, 4] := makeM_is (by simp [Ord]) (by intro x; simp; omega)
theorem mk33 : makeM [3, 3] = [3] := makeM_is (by simp [Ord]) (by intro x; simp; omega)
theorem mk3 : makeM [3] = [3] := makeM_is (by simp [Ord]) (by intro x; simp; omega)
theorem wake_level : levelM wakeM [3, 5] = some 1 := by
  unfold levelM isC
  rw [mk35]
  decide
theorem wake_level3 : levelM wakeM [3] = some 1 := by
  unfold levelM isC
  rw [mk3]
  decide
theorem wake_res : resolvesM wakeM [[3, 4]] 1 4 [3, 5] = some ([3], 0) := by
  have h1 : isC [3, 4] = true := by unfold isC; rw [mk34]; decide
  have h2 : resM [3, 4] [3, 5] 4 = [3] := by
    unfold resM
    rw [show woM 4 [3, 4] ++ woM (negM 4) [3, 5] = [3, 3] by decide]
    exact mk33
  have h3 : mayRes wakeM 1 4 [3, 4] = true := by decide
  have h4 : reasonOf wakeM.L (4 / 2) = 0 := by decide
  unfold resolvesM
  rw [h4]
  simp [h1, h2, h3]
theorem wake_learn : learnM wakeM [[3, 4]] [3, 5] = some ([3], 0, [0]) := by
  have h1 : cntM wakeM [3, 5] 1 ≠ 1 := by decide
  have h2 : cntM wakeM [3] 1 = 1 := by decide
  have h3 : (litsM wakeM)[1]? = some 4 := by decide
  have h4 : (decide (negM 4 ∈ [3, 5]) && (levOf wakeM 4 == 1)) = true := by decide
  have h5 : backN wakeM [3] 1 = 0 := by decide
  have hg : goM wakeM [[3, 4]] 1 2 [3, 5] [] = some ([3], [0]) := by
    rw [goM, if_neg h1, h3]
    simp only
    rw [if_pos h4, wake_res]
    simp only
    rw [goM, if_pos h2]
    rfl
  unfold learnM
  rw [wake_level]
  simp only
  rw [if_neg (by decide), show wakeM.L.length = 2 from rfl, hg]
  simp only
  rw [h5]
theorem wake_asserts : assertsM wakeM [3] = .tuple #[.int .i64 3, .int .i64 0, .bool true] := by
  have h2 : cntM wakeM [3] 1 = 1 := by decide
  unfold assertsM
  rw [wake_level3]
  simp only
  rw [if_neg (by decide), if_pos h2]
  rfl
theorem row_two {w : World} {g : Nat} {x y : Int} (h : Blk w g 3 #[.int .i64 x, .int .i64 y]) : Row .i64 w (some ⟨g, 0, none⟩) [x, y] := by
  refine ⟨by simp, .inr ⟨g, 0, rfl, h.lt, fun i hi => ?_⟩⟩
  match i, hi with
  | 0, _ => exact h.cell 0
  | 1, _ => exact h.cell 1

set_option maxHeartbeats 1000000 in
theorem wakes_ok (w : World) : Calls Try.prog 6 #[] w fun e w' => e = .returned (.bool true) ∧ Below w.heap.size w w' := by
  go_enter Try.func6, Try.ntmps6
  go_wp2_with fail
  refine (new_ok 3 (by omega) _ w.heap.size (Nat.le_refl _)).mono ?_
  rintro e w1 ⟨bt, ba, rfl, t1, _, _, hb1⟩
  have T1 : TT w1 w.heap.size bt ba ⟨3, [], 0⟩ := ⟨_, t1⟩
  clear t1
  have K2 := begin_T T1
  rw [wake_e1] at K2
  go_wp2_with fail
  refine K2.mono ?_
  rintro e w2 ⟨rfl, T2, s2⟩
  have HB2 := Lib.hid (hb1.trans s2.below)
  clear T1 K2 hb1 s2
  have K3 := put_T T2 2 (-1)
  rw [wake_e2] at K3
  go_wp2_with fail
  refine K3.mono ?_
  rintro e w3 ⟨rfl, T3, s3⟩
  have HB3 := Lib.hid (HB2.out.trans s3.below)
  clear T2 K3 s3 HB2
  have K4 := put_T T3 4 0
  rw [wake_e3, wake_puts] at K4
  go_wp2_with fail
  refine K4.mono ?_
  rintro e w4 ⟨rfl, T4, s4⟩
  have HB4 := Lib.hid (HB3.out.trans s4.below)
  have HT4 := Lib.hid T4
  clear T3 K4 s4 HB3 T4
  go_wp2_with fail
  have hal : Below w4.heap.size w4 (((w4.alloc (.cells #[.int .i64 3, .int .i64 4] 3)).alloc (.cells #[.slice (some ⟨w4.heap.size, 0, none⟩) 2 2] 23)).alloc (.cells #[.int .i64 3, .int .i64 5] 3)) := (((Below.refl _ w4).alloc (Nat.le_refl _) _).alloc (by simp) _).alloc (by simp; omega) _
  have r1 := row_two (((Blk.new w4 3 #[.int .i64 3, .int .i64 4]).alloc (.cells #[.slice (some ⟨w4.heap.size, 0, none⟩) 2 2] 23)).alloc (.cells #[.int .i64 3, .int .i64 5] 3))
  have g1 := (Blk.new_at (w := w4.alloc (.cells #[.int .i64 3, .int .i64 4] 3)) (n := w4.heap.size + 1) (by simp) 23 #[.slice (some ⟨w4.heap.size, 0, none⟩) 2 2]).alloc (.cells #[.int .i64 3, .int .i64 5] 3)
  have r2 := row_two (Blk.new_at (w := (w4.alloc (.cells #[.int .i64 3, .int .i64 4] 3)).alloc (.cells #[.slice (some ⟨w4.heap.size, 0, none⟩) 2 2] 23)) (n := w4.heap.size + 1 + 1) (by simp) 3 #[.int .i64 3, .int .i64 5])
  generalize ((w4.alloc (.cells #[.int .i64 3, .int .i64 4] 3)).alloc (.cells #[.slice (some ⟨w4.heap.size, 0, none⟩) 2 2] 23)).alloc (.cells #[.int .i64 3, .int .i64 5] 3) = w5 at *
  have hg : Grid w5 (some ⟨w4.heap.size + 1, 0, none⟩) [(some ⟨w4.heap.size, 0, none⟩, 2, [3, 4])] := by
    refine ⟨by simp, .inr ⟨_, 0, rfl, g1.lt, fun k hk => ?_⟩⟩
    obtain rfl : k = 0 := by simp at hk; omega
    exact ⟨g1.cell 0, r1, fun h => by cases h⟩
  have T5 := HT4.out.below hal
  have HB5 := Lib.hid (HB4.out.trans (hal.mono HB4.out.size))
  have K5 := learn_of (run_fn (cl := 1) (cap := 2) T5 hg r2 (fun h => by cases h) (by simp) (by simp) (by simp))
  rw [show rowsOf [((some ⟨w4.heap.size, 0, none⟩ : Option Addr), 2, [(3 : Int), 4])] = [[3, 4]] from rfl, wake_learn] at K5
  have HT5 := Lib.hid T5
  clear hal r1 g1 r2 hg T5 HT4 HB4
  refine K5.mono ?_
  rintro e w6 ⟨CA, cc, rfl, hrow, hn, hb6⟩
  clear K5
  have K6 := asserts_fn cc (HT5.out.below hb6) hrow hn
  rw [show outC (some (([3] : List Int), (0 : Int), ([0] : List Int))) = [3] from rfl, wake_asserts] at K6
  obtain ⟨b, off, hA, hb, hcell⟩ := hrow.at_.resolve_left (by decide)
  subst hA
  have y0 : w6.cell? ⟨b, off, none⟩ = some (.int .i64 3) := hcell 0 (by decide)
  have HB6 := Lib.hid (HB5.out.trans (hb6.mono HB5.out.size))
  clear hcell hrow hb6 HB5 HT5 hn
  go_wp2_with fail
  refine K6.mono ?_
  rintro e w7 ⟨rfl, hb7⟩
  have y7 := (hb7.cell (p := ⟨b, off, none⟩) hb).trans y0
  have HB7 := Lib.hid (HB6.out.trans (hb7.mono HB6.out.size))
  clear K6 hb7
  go_wp2
  go_ret
  exact ⟨rfl, HB7.out⟩
end Go.Proofs.Ytnfeggeahnjdeaa

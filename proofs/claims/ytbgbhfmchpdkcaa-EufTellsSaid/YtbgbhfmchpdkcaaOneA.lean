/- One: the ways that do not walk. -/
import Derived.Test.YtbgbhfmchpdkcaaWalk
import Derived.WideKeyPair
import Derived.DeepKeys4
import Derived.Deep.DeepCutAuto
namespace Go.Proofs.Ytbgbhfmchpdkcaa
open Go.RowKit
open Go.Maps (Keyed)

theorem laidOut : laidOutB Try.prog = true := by kernel_rfl
theorem pair_key : Keyed Try.prog 97 := Go.Maps.Keyed.of_law (deep_law_laid laidOut (m := 3) (by decide) (of_decide_eq_true (by kernel_rfl)) (by kernel_rfl) (by kernel_rfl))
theorem pair_arr : Go.WideMaps.ArrKey Try.prog 97 3 2 := ⟨Try.underlying97, by kernel_rfl, by kernel_rfl, by kernel_rfl⟩
theorem int_wf {x : Int} (h0 : -9223372036854775808 ≤ x) (h1 : x ≤ 9223372036854775807) : (Lit.int .i64 x).wf = true := by
  simp [Lit.wf, IntKind.min, IntKind.max, IntKind.bits, IntKind.signed]; omega
theorem types_size : ∃ m, Try.prog.types.size = m + 1 := ⟨Try.prog.types.size - 1, by kernel_rfl⟩
theorem pair_key_of {x y : Int} (h0 : 0 ≤ x) (h1 : x ≤ 4096) (g0 : 0 ≤ y) (g1 : y ≤ 4096) : ∃ kl, keyOf Try.prog 97 (pairKey x y) = some kl :=
  ⟨_, Go.WideMaps.keyOf_pair pair_arr Try.underlying3 types_size (int_wf (by omega) (by omega)) (int_wf (by omega) (by omega))⟩

section
variable {w w' : World} {B bf bn bp m : Nat} {lj : Value} {N : Int → Value} {n : Int} {J : List Jn}
theorem one_out (h : FR w B bf bn bp lj N n J m) (x y : Int) (hxy : ¬ ((0 ≤ x ∧ x < n) ∧ (0 ≤ y ∧ y < n))) :
    Calls Try.prog 53 #[.pointer (some ⟨bf, 0, none⟩), .int .i64 x, .int .i64 y] w fun e w' => e = .returned (.bool false) ∧ Below w.heap.size w w' := by
  have hb3 : Below w.heap.size w (((w.alloc (.cells #[.pointer (some ⟨bf, 0, none⟩)] 42)).alloc (.cells #[.int .i64 y] 3)).alloc (.cells #[.bool false] 4)) :=
    (((Below.refl _ w).alloc (Nat.le_refl _) _).alloc (by simp) _).alloc (by simp; omega) _
  have h3 := h.below hb3
  have H3 := Lib.hid h3
  have HB3 := Lib.hid hb3
  clear h hb3 h3
  by_cases hx : 0 ≤ x ∧ x < n
  · have hy : ¬ (0 ≤ y ∧ y < n) := fun hy => hxy ⟨hx, hy⟩
    have d1 : decide (0 ≤ x ∧ x < n) = true := decide_eq_true hx
    have d2 : decide (0 ≤ y ∧ y < n) = false := decide_eq_false hy
    clear hx hy hxy
    go_enter Try.func53, Try.ntmps53
    go_wp2_with fail
    refine (is_ok H3.out _).mono ?_
    rintro e w1 ⟨rfl, rfl⟩
    rw [d1]
    go_wp2_with fail
    refine (is_ok H3.out _).mono ?_
    rintro e w1 ⟨rfl, rfl⟩
    rw [d2]
    go_wp2_with fail
    exact bodyPost_ret (v := .bool false) (by simp [results, Try.results53, go_sem]) rfl ⟨rfl, HB3.out⟩
  · have d1 : decide (0 ≤ x ∧ x < n) = false := decide_eq_false hx
    clear hx hxy
    go_enter Try.func53, Try.ntmps53
    go_wp2_with fail
    refine (is_ok H3.out _).mono ?_
    rintro e w1 ⟨rfl, rfl⟩
    rw [d1]
    go_wp2_with fail
    exact bodyPost_ret (v := .bool false) (by simp [results, Try.results53, go_sem]) rfl ⟨rfl, HB3.out⟩

/-- The four blocks that One lays ahead of its loop. -/
def oneW (w : World) (bf : Nat) (y lo hi : Int) : World :=
  (((w.alloc (.cells #[.pointer (some ⟨bf, 0, none⟩)] 42)).alloc (.cells #[.int .i64 y] 3)).alloc (.cells #[.bool false] 4)).alloc (.cells #[.int .i64 lo, .int .i64 hi] 97)
theorem one_hit (h : FR w B bf bn bp lj N n J m) (x y : Int) (hx : 0 ≤ x ∧ x < n) (hy : 0 ≤ y ∧ y < n) (f : Value → Option Value) (hf : MapAt Try.prog 97 w bp m f) (hat : f (pairKey (min x y) (max x y)) = some (.bool true)) :
    Calls Try.prog 53 #[.pointer (some ⟨bf, 0, none⟩), .int .i64 x, .int .i64 y] w fun e w' => e = .returned (.bool true) ∧ Below w.heap.size w w' := by
  have hb3 : Below w.heap.size w (((w.alloc (.cells #[.pointer (some ⟨bf, 0, none⟩)] 42)).alloc (.cells #[.int .i64 y] 3)).alloc (.cells #[.bool false] 4)) :=
    (((Below.refl _ w).alloc (Nat.le_refl _) _).alloc (by simp) _).alloc (by simp; omega) _
  have h3 := h.below hb3
  have H3 := Lib.hid h3
  have HB3 := Lib.hid hb3
  have H0 := Lib.hid h
  clear h hb3 h3
  have d1 : decide (0 ≤ x ∧ x < n) = true := decide_eq_true hx
  have d2 : decide (0 ≤ y ∧ y < n) = true := decide_eq_true hy
  go_enter Try.func53, Try.ntmps53
  go_wp2_with fail
  refine (is_ok H3.out _).mono ?_
  rintro e w1 ⟨rfl, rfl⟩
  rw [d1]
  go_wp2_with fail
  refine (is_ok H3.out _).mono ?_
  rintro e w1 ⟨rfl, rfl⟩
  rw [d2]
  go_upto_region 3 with (fail)
  go_cut [7] (fun s7 wc => s7 = .pointer (some ⟨w.heap.size + 1 + 1 + 1, 0, none⟩) ∧ wc = oneW w bf y (min x y) (max x y))
  case first =>
    go_wp2
    all_goals
      go_meet
      refine ⟨rfl, ?_⟩
      unfold oneW
      first
        | (rw [show min x y = x by omega, show max x y = y by omega]; done)
        | (rw [show min x y = y by omega, show max x y = x by omega]; done)
        | (rw [show min x y = x by omega, show max x y = x by omega]; done)
  case rest =>
    obtain ⟨rfl, rfl⟩ := hcut
    have hsz4 : (oneW w bf y (min x y) (max x y)).heap.size = w.heap.size + 4 := by simp [oneW]
    have hb4 : Below w.heap.size w (oneW w bf y (min x y) (max x y)) := HB3.out.alloc (by simp; omega) _
    have h4 := H0.out.below hb4
    have hf4 := hf.below hb4 hf.lt
    have a0 : Blk (oneW w bf y (min x y) (max x y)) w.heap.size 42 #[.pointer (some ⟨bf, 0, none⟩)] := (((Blk.new w _ _).alloc _).alloc _).alloc _
    have a1 : Blk (oneW w bf y (min x y) (max x y)) (w.heap.size + 1 + 1) 4 #[.bool false] := (Blk.new_at (by simp) _ _).alloc _
    have a2 : Blk (oneW w bf y (min x y) (max x y)) (w.heap.size + 1 + 1 + 1) 97 #[.int .i64 (min x y), .int .i64 (max x y)] := Blk.new_at (by simp) _ _
    generalize oneW w bf y (min x y) (max x y) = W at *
    obtain ⟨kl, hkl⟩ := pair_key_of (x := min x y) (y := max x y) (by omega) (by have := H0.out.hn; omega) (by omega) (by have := H0.out.hn; omega)
    have hlook : ∀ d, (Instr.lookup 83 (.map (some bp)) (.agg #[.int .i64 (min x y), .int .i64 (max x y)]) false).run Try.prog (W.drewN d) = .ok (.bool true) (W.drewN d) := fun d => by
      have := (hf4.drewN d).look pair_key Try.underlying83 (zero_bool _) hkl false
      rw [hat] at this
      exact this
    have c0 := a0.cell 0
    have c1 := h4.blk.cell 3
    have c2 := a2.cell 0
    have c3 := a2.cell 1
    have c4 := a1.frozen 0
    have c5 := a1.cell 0
    simp only [List.getElem?_toArray, List.getElem?_cons_zero, List.getElem?_cons_succ] at c0 c1 c2 c3 c5
    have HB4 := Lib.hid hb4
    have A1 := Lib.hid a1
    clear h4 hf4 a0 a1 a2 hb4 hf hat
    generalize min x y = lo at *
    generalize max x y = hi at *
    go_wp2
    go_quiet (fail)
    go_wp2
    have z0 := ((A1.out.drewN nq).set_ 0 (.bool true)).cell 0
    simp at z0
    exact bodyPost_ret (v := .bool true) (by simp [results, Try.results53, go_sem, z0]) rfl ⟨rfl, (below_drewN HB4.out nq).setCell (p := ⟨w.heap.size + 1 + 1, 0, none⟩) (by simp; omega) _⟩
end
end Go.Proofs.Ytbgbhfmchpdkcaa

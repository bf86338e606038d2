/- Whether a node may stand at a place: the number of its arguments. -/
import Derived.Test.YtbgbhfmchpdkcaaPaths
import Derived.Test.YtbgbhfmchpdkcaaEuP
import Derived.Test.YtbgbhfmchpdkcaaProg
import Derived.Deep.LoopGhost
import Derived.OwnWalk
namespace Go.Proofs.Ytbgbhfmchpdkcaa
open Go.RowKit

def ArIs (op : Int) (w : World) (e : Ending) (w' : World) : Prop := Below w.heap.size w w' ∧ match arityM op with
  | some (lo, hi) => e = .returned (.tuple #[.int .i8 lo, .int .i8 hi, .bool true])
  | none => e = .returned (.tuple #[.int .i8 0, .int .i8 0, .bool false])
theorem arity_far {op : Int} (h : op < 0 ∨ 13 < op) : arityM op = none := by
  unfold arityM
  repeat' split
  all_goals first | rfl | (exfalso; omega)
set_option maxHeartbeats 2000000 in
theorem arity_ok (op : Int) (hr : -128 ≤ op ∧ op ≤ 127) (w : World) : Calls Try.prog 73 #[.int .i8 op] w (ArIs op w) := by
  have hb : ∀ c t, Below w.heap.size w (w.alloc (.cells c t)) := fun c t => (Below.refl _ w).alloc (Nat.le_refl _) _
  have HB := Lib.hid hb
  clear hb
  by_cases h0 : op < 0
  · have d0 : decide (op < 0) = true := decide_eq_true h0
    have d1 : (op == 13) = false := beq_eq_false_iff_ne.2 (by omega)
    have HA := Lib.hid (arity_far (.inl h0))
    clear h0 hr
    go_enter Try.func73, Try.ntmps73
    go_wp2
    go_ret3
    unfold ArIs
    rw [HA.out]
    exact ⟨HB.out _ _, rfl⟩
  by_cases h1 : 13 < op
  · have d0 : decide (op < 0) = false := decide_eq_false h0
    have d1 : (op == 13) = false := beq_eq_false_iff_ne.2 (by omega)
    have d2 : decide (13 ≤ op) = true := decide_eq_true (by omega)
    have HA := Lib.hid (arity_far (.inr h1))
    have h2 := hr.2
    clear h0 hr
    go_enter Try.func73, Try.ntmps73
    go_wp2
    go_ret3
    unfold ArIs
    rw [HA.out]
    exact ⟨HB.out _ _, rfl⟩
  have hc : op = 13 ∨ op = 0 ∨ op = 1 ∨ op = 2 ∨ op = 3 ∨ op = 4 ∨ op = 5 ∨ op = 6 ∨ op = 7 ∨ op = 8 ∨ op = 9 ∨ op = 10 ∨ op = 11 ∨ op = 12 := by omega
  clear h0 h1 hr
  rcases hc with rfl | hc
  · go_enter Try.func73, Try.ntmps73
    go_wp2
    go_ret3
    exact ⟨Below.refl _ _, rfl⟩
  rcases hc with rfl | rfl | rfl | rfl | rfl | rfl | rfl | rfl | rfl | rfl | rfl | rfl | rfl
  all_goals
    go_enter Try.func73, Try.ntmps73
    go_wp2
    go_quiet (fail)
    go_wp2
    go_ret3
    exact ⟨below_drewN (HB.out _ _) _, rfl⟩
/-- The reference's number of arguments. -/
def arity05 (op : Int) : Int := if op = 0 ∨ op = 10 then 0 else if op = 1 ∨ op = 11 then 1 else if op = 7 then 3 else if op = 13 then -1 else if 2 ≤ op ∧ op ≤ 12 then 2 else -2
theorem arity5_far {op : Int} (h : op < 0 ∨ 13 < op) : arity05 op = -2 := by
  unfold arity05
  repeat' split
  all_goals first | rfl | (exfalso; omega)
set_option maxHeartbeats 2000000 in
theorem arity5_ok (op : Int) (w : World) : Calls Try.prog 71 #[.int .i8 op] w fun e w' => e = .returned (.int .i64 (arity05 op)) ∧ w = w' := by
  by_cases h0 : op < 0 ∨ 13 < op
  · have b : ∀ k : Int, 0 ≤ k → k ≤ 13 → (op == k) = false := fun k h1 h2 => beq_eq_false_iff_ne.2 (by omega)
    have b0 := b 0 (by omega) (by omega)
    have b1 := b 1 (by omega) (by omega)
    have b2 := b 2 (by omega) (by omega)
    have b3 := b 3 (by omega) (by omega)
    have b4 := b 4 (by omega) (by omega)
    have b5 := b 5 (by omega) (by omega)
    have b6 := b 6 (by omega) (by omega)
    have b7 := b 7 (by omega) (by omega)
    have b8 := b 8 (by omega) (by omega)
    have b9 := b 9 (by omega) (by omega)
    have b10 := b 10 (by omega) (by omega)
    have b11 := b 11 (by omega) (by omega)
    have b12 := b 12 (by omega) (by omega)
    have b13 := b 13 (by omega) (by omega)
    rw [arity5_far h0]
    clear b h0
    go_enter Try.func71, Try.ntmps71
    go_wp2
    go_ret
    exact ⟨rfl, rfl⟩
  have hc : op = 0 ∨ op = 1 ∨ op = 2 ∨ op = 3 ∨ op = 4 ∨ op = 5 ∨ op = 6 ∨ op = 7 ∨ op = 8 ∨ op = 9 ∨ op = 10 ∨ op = 11 ∨ op = 12 ∨ op = 13 := by omega
  clear h0
  rcases hc with rfl | rfl | rfl | rfl | rfl | rfl | rfl | rfl | rfl | rfl | rfl | rfl | rfl | rfl
  all_goals
    go_enter Try.func71, Try.ntmps71
    go_wp2
    go_ret
    exact ⟨rfl, rfl⟩
/-- A number that may be. -/
def numB (n : Int) : Bool := decide (-4611686018427387904 ≤ n) && decide (n ≤ 4611686018427387904)
theorem num5_ok (n : Int) (w : World) : Calls Try.prog 72 #[.int .i64 n] w fun e w' => e = .returned (.bool (numB n)) ∧ w = w' := by
  by_cases h0 : -4611686018427387904 ≤ n
  · have d0 : decide (-4611686018427387904 ≤ n) = true := decide_eq_true h0
    unfold numB
    rw [d0, Bool.true_and]
    clear h0
    generalize hq : decide (n ≤ 4611686018427387904) = q
    go_enter Try.func72, Try.ntmps72
    go_wp2
    go_ret
    exact ⟨rfl, rfl⟩
  · have d0 : decide (-4611686018427387904 ≤ n) = false := decide_eq_false h0
    unfold numB
    rw [d0, Bool.false_and]
    clear h0
    go_enter Try.func72, Try.ntmps72
    go_wp2
    go_ret
    exact ⟨rfl, rfl⟩
theorem numB_a {n : Int} (h : n / 4611686018427387904 = 0 ∨ n / 4611686018427387904 = -1) : numB n = true := by
  unfold numB
  rw [decide_eq_true (by omega : -4611686018427387904 ≤ n), decide_eq_true (by omega : n ≤ 4611686018427387904)]
  rfl
theorem numB_b {n : Int} : (n / 4611686018427387904 == 0 || n / 4611686018427387904 == -1 || n == 4611686018427387904) = numB n := by
  unfold numB
  by_cases h0 : n / 4611686018427387904 = 0
  · exact (by rw [h0]; rfl : _ = true).trans (numB_a (.inl h0)).symm
  by_cases h1 : n / 4611686018427387904 = -1
  · exact (by rw [h1]; rfl : _ = true).trans (numB_a (.inr h1)).symm
  rw [beq_eq_false_iff_ne.2 h0, beq_eq_false_iff_ne.2 h1]
  by_cases h2 : n = 4611686018427387904
  · subst h2
    rfl
  · rw [beq_eq_false_iff_ne.2 h2]
    by_cases h3 : -4611686018427387904 ≤ n
    · rw [decide_eq_true h3, decide_eq_false (by omega)]
      rfl
    · rw [decide_eq_false h3]
      rfl
theorem num_ok (n : Int) (w : World) : Calls Try.prog 74 #[.int .i64 n] w fun e w' => e = .returned (.bool (numB n)) ∧ w = w' := by
  go_enter Try.func74, Try.ntmps74
  go_wp2
  · rename_i h
    go_ret
    exact ⟨by rw [numB_a (.inl h)]; rfl, rfl⟩
  · rename_i h
    go_ret
    exact ⟨by rw [numB_a (.inr h)]; rfl, rfl⟩
  · go_ret
    exact ⟨by rw [numB_b]; rfl, rfl⟩
end Go.Proofs.Ytbgbhfmchpdkcaa

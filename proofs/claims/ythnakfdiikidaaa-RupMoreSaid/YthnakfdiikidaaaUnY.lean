/- The reference's Closes, Implies. -/
import Derived.Test.YthnakfdiikidaaaUnX
namespace Go.Proofs.Ythnakfdiikidaaa
open Go.RowKit Go.Lib

theorem run16_row {w : World} {A : Option Addr} {rows : List (Option Addr × Nat × List Int)} {GA : Option Addr} {given : List Int} (cap capg : Nat) (h : Grid w A rows) (hr : rows.length ≤ 1000) (he : ∀ r ∈ rows, r.2.2.length ≤ 1000) (hmr : ∀ r ∈ rows, ∀ x ∈ r.2.2, x ≤ 9223372036854775807) (k : Row .i64 w GA given) (hm : ∀ x ∈ given, x ≤ 9223372036854775807) :
    Calls Try.prog 32 #[.slice A rows.length cap, .slice GA given.length capg] w fun e w' => ∃ B d, e = .returned (.tuple #[.slice B (runM (rowsOf rows) given).1.length d, .int .i64 (runM (rowsOf rows) given).2]) ∧ Row .i64 w' B (runM (rowsOf rows) given).1 ∧ (B = none → d = 0) ∧ Below w.heap.size w w' := by
  refine (run16_ok cap capg h hr he hmr k hm).mono ?_
  rintro e w' ⟨v, rfl, ho, hb⟩
  obtain ⟨B, d, rfl, h1, h2⟩ := own_row ho rfl (by have := (run_lits (rowsOf rows) given).len; omega)
  exact ⟨B, d, rfl, h1, h2, hb⟩

theorem closes16_ok {w : World} {A : Option Addr} {rows : List (Option Addr × Nat × List Int)} {GA : Option Addr} {given : List Int} (cap capg : Nat) (h : Grid w A rows) (hr : rows.length ≤ 1000) (he : ∀ r ∈ rows, r.2.2.length ≤ 1000) (hmr : ∀ r ∈ rows, ∀ x ∈ r.2.2, x ≤ 9223372036854775807) (k : Row .i64 w GA given) (hm : ∀ x ∈ given, x ≤ 9223372036854775807) :
    Calls Try.prog 20 #[.slice A rows.length cap, .slice GA given.length capg] w fun e w' => e = .returned (.bool ((runM (rowsOf rows) given).2 != -1)) ∧ Below w.heap.size w w' := by
  have K1 := run16_row cap capg h hr he hmr k hm
  generalize runM (rowsOf rows) given = r at K1 ⊢
  obtain ⟨r1, r2⟩ := r
  simp only at K1 ⊢
  generalize hq : (r2 != -1) = q
  clear h k hm hr he hmr
  go_enter Try.func20, Try.ntmps20
  go_wp2_with (go_at_call 32; (with_reducible refine K1.mono ?_); rintro e w1 ⟨B, d, rfl, hr1, hn1, hb1⟩; have Hb1 := Lib.hid hb1; clear hr1 hn1 hb1)
  go_ret
  exact ⟨rfl, Hb1.out⟩

end Go.Proofs.Ythnakfdiikidaaa

/- The reference's Closes, Implies. -/
import Derived.Test.YtfkjojogkdlcgaaUnX
namespace Go.Proofs.Ytfkjojogkdlcgaa
open Go.RowKit Go.Lib

theorem run16_row {w : World} {A : Option Addr} {rows : List (Option Addr × Nat × List Int)} {GA : Option Addr} {given : List Int} (cap capg : Nat) (h : Grid w A rows) (hr : rows.length ≤ 1000) (he : ∀ r ∈ rows, r.2.2.length ≤ 1000) (hmr : ∀ r ∈ rows, ∀ x ∈ r.2.2, x ≤ 9223372036854775807) (k : Row .i64 w GA given) (hm : ∀ x ∈ given, x ≤ 9223372036854775807) :
    Calls Try.prog 23 #[.slice A rows.length cap, .slice GA given.length capg] w fun e w' => ∃ B d, e = .returned (.tuple #[.slice B (runM (rowsOf rows) given).1.length d, .int .i64 (runM (rowsOf rows) given).2]) ∧ Row .i64 w' B (runM (rowsOf rows) given).1 ∧ (B = none → d = 0) ∧ Below w.heap.size w w' := by
  refine (run16_ok cap capg h hr he hmr k hm).mono ?_
  rintro e w' ⟨v, rfl, ho, hb⟩
  obtain ⟨B, d, rfl, h1, h2⟩ := own_row ho rfl (by have := (run_lits (rowsOf rows) given).len; omega)
  exact ⟨B, d, rfl, h1, h2, hb⟩

theorem closes16_ok {w : World} {A : Option Addr} {rows : List (Option Addr × Nat × List Int)} {GA : Option Addr} {given : List Int} (cap capg : Nat) (h : Grid w A rows) (hr : rows.length ≤ 1000) (he : ∀ r ∈ rows, r.2.2.length ≤ 1000) (hmr : ∀ r ∈ rows, ∀ x ∈ r.2.2, x ≤ 9223372036854775807) (k : Row .i64 w GA given) (hm : ∀ x ∈ given, x ≤ 9223372036854775807) :
    Calls Try.prog 20 #[.slice A rows.length cap, .slice GA given.length capg] w fun e w' => e = .returned (.bool ((runM (rowsOf rows) given).2 != -1)) ∧ Below w.heap.size w w' := by
  have K1 := run16_row cap capg h hr he hmr k hm
  generalize runM (rowsOf rows) given = r at K1 ⊢
  obtain ⟨r1, r2⟩ := r
  simp only at K1 ⊢
  generalize hq : (r2 != -1) = q
  clear h k hm hr he hmr
  go_enter Try.func20, Try.ntmps20
  go_wp2_with (go_at_call 23; (with_reducible refine K1.mono ?_); rintro e w1 ⟨B, d, rfl, hr1, hn1, hb1⟩; have Hb1 := Lib.hid hb1; clear hr1 hn1 hb1)
  go_ret
  exact ⟨rfl, Hb1.out⟩

set_option maxHeartbeats 1000000 in
theorem implies16_ok {w : World} {A : Option Addr} {rows : List (Option Addr × Nat × List Int)} {GA : Option Addr} {given : List Int} (cap capg : Nat) (h : Grid w A rows) (hr : rows.length ≤ 1000) (he : ∀ r ∈ rows, r.2.2.length ≤ 1000) (hmr : ∀ r ∈ rows, ∀ x ∈ r.2.2, x ≤ 9223372036854775807) (k : Row .i64 w GA given) (hm : ∀ x ∈ given, x ≤ 9223372036854775807) (lit : Int) :
    Calls Try.prog 22 #[.slice A rows.length cap, .slice GA given.length capg, .int .i64 lit] w fun e w' => e = .returned (.bool (implM (rowsOf rows) given lit)) ∧ Below w.heap.size w w' := by
  have K1 := run16_row cap capg h hr he hmr k hm
  have hml := (run_lits (rowsOf rows) given).len
  have hrg := (run_lits (rowsOf rows) given).rng
  unfold implM
  generalize runM (rowsOf rows) given = r at K1 hml hrg ⊢
  obtain ⟨r1, r2⟩ := r
  simp only at K1 hml hrg ⊢
  have Hrg := Lib.hid hrg
  clear h k hm hr he hmr hrg
  by_cases h2 : r2 = -1
  · subst h2
    go_enter Try.func22, Try.ntmps22
    go_wp2_with (go_at_call 23; (with_reducible refine K1.mono ?_); rintro e w1 ⟨B, d, rfl, hr1, hn1, hb1⟩; have Hr1 := Lib.hid hr1; have Hb1 := Lib.hid hb1; clear hr1 hn1 hb1)
    go_loopg [9] r1.length (fun g v wx => w1 = wx ∧ ∃ i : Nat, i + g = r1.length ∧ v = .int .i64 i ∧ (lit ∈ r1 ↔ lit ∈ r1.drop i))
    case atStart => exact ⟨rfl, 0, by omega, rfl, Iff.rfl⟩
    case round =>
      obtain ⟨rfl, i, hig, rfl, hinv⟩ := hrel
      have HI := Lib.hid hinv
      clear hinv
      cases gk with
      | zero =>
        have d1 : decide ((i : Int) < r1.length) = false := by simp; omega
        have HN := Lib.hid (show decide (lit ∈ r1) = false from decide_eq_false (fun hx => by have := HI.out.1 hx; rw [List.drop_eq_nil_of_le (by omega)] at this; cases this))
        go_wp2
        go_ret
        rw [HN.out]
        exact ⟨rfl, Hb1.out⟩
      | succ k =>
        have hin : i < r1.length := by omega
        have d1 : decide ((i : Int) < r1.length) = true := by simp; omega
        obtain ⟨b, off, hA, hb, hcell⟩ := Hr1.out.at_.resolve_left (by omega)
        subst hA
        have c0 := hcell i hin
        have Hdr := Lib.hid (mem_drop_cons hin lit)
        have t1 : (0 : Int) ≤ (i : Int) := by omega
        have t2 : (i : Int) < (r1.length : Int) := by omega
        clear hcell
        generalize r1[i] = y at *
        by_cases hp : y = lit
        · subst hp
          have hyr := HI.out.2 (Hdr.out.2 (.inl rfl))
          have HN := Lib.hid (show decide (y ∈ r1) = true from decide_eq_true hyr)
          have Kf := fits_ok y w1
          rw [(wide_iff y).2 (Hrg.out y hyr)] at Kf
          clear hyr
          go_wp2_with (go_at_call 34; (with_reducible refine Kf.mono ?_); rintro e w2 ⟨rfl, rfl⟩)
          go_ret
          rw [HN.out]
          exact ⟨rfl, Hb1.out⟩
        · have b1 : (y == lit) = false := beq_eq_false_iff_ne.2 hp
          have Hp := Lib.hid hp
          clear hp
          go_wp2
          go_roundg k
          case measure => omega
          case rel => exact ⟨rfl, i + 1, by omega, by go_num, HI.out.trans (Hdr.out.trans ⟨fun h => h.resolve_left Hp.out, .inr⟩)⟩
  · have b2 : (r2 != -1) = true := by simpa using h2
    rw [b2, Bool.true_or]
    clear h2
    go_enter Try.func22, Try.ntmps22
    go_wp2_with (go_at_call 23; (with_reducible refine K1.mono ?_); rintro e w1 ⟨B, d, rfl, hr1, hn1, hb1⟩; have Hb1 := Lib.hid hb1; clear hr1 hn1 hb1)
    go_ret
    exact ⟨rfl, Hb1.out⟩
theorem Tame.each2 {w : World} {A0 : Option Addr} {R : List (Option Addr × Nat × List Int)} {A1 : Option Addr} {c1 : Nat} {zs : List Int} (h : Tame w A0 R A1 c1 zs) : (∀ r ∈ R, r.2.2.length ≤ 1000) ∧ ∀ r ∈ R, ∀ x ∈ r.2.2, x ≤ 9223372036854775807 :=
  ⟨fun r hr => by have := (h.each r hr).1; omega, fun r hr x hx => by have := (h.each r hr).2 x hx; omega⟩
end Go.Proofs.Ytfkjojogkdlcgaa

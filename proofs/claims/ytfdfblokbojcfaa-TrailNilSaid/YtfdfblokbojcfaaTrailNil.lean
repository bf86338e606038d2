/- TrailNil's walk. -/
import Derived.Test.YtfdfblokbojcfaaTrailH
namespace Go.Proofs.Ytfdfblokbojcfaa
open Go.RowKit

set_option maxHeartbeats 1000000 in
theorem trailNil_walk (a b : Int) (w : World) (_ : (Lit.int .i64 a).wf = true) (_ : (Lit.int .i64 b).wf = true) : Calls Try.prog 6 #[.int .i64 a, .int .i64 b] w fun e w' => e = .returned (.bool true) ∧ Below w.heap.size w w' := by
  go_enter Try.func6, Try.ntmps6
  go_wp2_with fail
  refine (back_nil a).mono ?_
  rintro e w1 ⟨rfl, b1⟩
  go_wp2_with fail
  refine (put_nil a b).mono ?_
  rintro e w2 ⟨rfl, rfl⟩
  go_wp2_with fail
  refine begin_nil.mono ?_
  rintro e w2 ⟨rfl, rfl⟩
  go_wp2_with fail
  refine (val_nil a).mono ?_
  rintro e w2 ⟨rfl, b2⟩
  go_wp2_with fail
  refine (level_nil a).mono ?_
  rintro e w3 ⟨rfl, b3⟩
  go_wp2_with fail
  refine (reason_nil a).mono ?_
  rintro e w4 ⟨rfl, b4⟩
  go_wp2_with fail
  refine levels_nil.mono ?_
  rintro e w5 ⟨rfl, rfl⟩
  go_wp2_with fail
  refine (all_nil _).mono ?_
  rintro e w5 ⟨v5, rfl, o5, b5⟩
  obtain ⟨A5, c5, rfl⟩ := own_slice o5
  go_wp2_with fail
  refine (behind_nil b _).mono ?_
  rintro e w6 ⟨v6, rfl, o6, b6⟩
  obtain ⟨A6, c6, rfl⟩ := own_slice o6
  go_wp2_with fail
  refine (values_nil _).mono ?_
  rintro e w7 ⟨rfl, rfl⟩
  go_wp2_with fail
  refine (wakes_ok _).mono ?_
  rintro e w7 ⟨rfl, b7⟩
  go_wp2_with fail
  go_ret
  have s1 := b1.size
  have s2 := b2.size
  have s3 := b3.size
  have s4 := b4.size
  have s5 := b5.size
  have s6 := b6.size
  exact ⟨rfl, (((((b1.trans (b2.mono s1)).trans (b3.mono (by omega))).trans (b4.mono (by omega))).trans (b5.mono (by omega))).trans (b6.mono (by omega))).trans (b7.mono (by omega))⟩
end Go.Proofs.Ytfdfblokbojcfaa

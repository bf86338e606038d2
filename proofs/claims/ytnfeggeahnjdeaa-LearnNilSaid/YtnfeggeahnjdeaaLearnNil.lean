/- LearnNil's walk. -/
import Derived.Test.YtnfeggeahnjdeaaLrnN
import Derived.Test.YtnfeggeahnjdeaaLrnO
namespace Go.Proofs.Ytnfeggeahnjdeaa
open Go.RowKit Go.Lib

set_option maxRecDepth 100000 in
set_option maxHeartbeats 2000000 in
theorem learnNil_walk (A0 : Option Addr) (l0 c0 : Nat) (A : Nat → Option Addr) (L C : Nat → Nat) (Z : Nat → List Int) (A1 : Option Addr) (l1 c1 : Nat) (z1 : List Int) (w : World) (w0 : IsGrid w A0 l0 c0 A L C Z) (_w1 : IsRow .i64 w A1 l1 c1 z1) :
    Calls Try.prog 3 #[.slice A0 l0 c0, .slice A1 l1 c1] w fun e w' => e = .returned (.bool true) ∧ Below w.heap.size w w' := by
  have W0 := Lib.hid w0
  clear w0
  go_enter Try.func3, Try.ntmps3
  go_upto_region 3 with (first
    | (go_at_call 5; (with_reducible refine (great15_ok W0.out).mono ?_); rintro e w1 ⟨bb, rfl, rfl, hbb⟩; clear hbb; cases bb)
    | (go_at_call 6; refine (wakes_ok _).mono ?_; rintro e w9 ⟨rfl, hb9⟩; have HB9 := Lib.hid hb9; clear hb9))
  all_goals first
    | (go_ret; exact ⟨rfl, HB9.out⟩)
    | skip
  clear W0
  go_wp2_with (first
    | (go_at_call 7; refine (level_nil_ok A1 l1 c1 w).mono ?_; rintro e w2 ⟨rfl, rfl⟩)
    | (go_at_call 8; refine (learn_of run_nil).mono ?_; rintro e w3 ⟨CA, cc, rfl, _, _, hb3⟩; have HB3 := Lib.hid hb3; clear hb3)
    | (go_at_call 9; refine (chain_of run_nil).mono ?_; rintro e w4 ⟨CB, cd, rfl, hb4⟩; have HB4 := Lib.hid (below_then HB3.out (Nat.le_refl _) hb4); clear hb4)
    | (go_at_call 10; refine (asserts_nil A1 l1 c1 _).mono ?_; rintro e w5 ⟨rfl, rfl⟩)
    | (go_at_call 6; refine (wakes_ok _).mono ?_; rintro e w9 ⟨rfl, hb9⟩; have HB9 := Lib.hid (below_then HB4.out (Nat.le_refl _) hb9); clear hb9))
  go_ret
  exact ⟨rfl, HB9.out⟩
end Go.Proofs.Ytnfeggeahnjdeaa

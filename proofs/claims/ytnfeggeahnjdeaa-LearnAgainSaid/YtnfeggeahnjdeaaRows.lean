/-
  No cell of these rows narrows 'for every input' (looked for: loops, veiled, ifaces, maps, wideKeys, modest, calm, conditions, laid).
  DERIVED. THE GIVEN ROWS OF THIS SEAT. 2 by the template 'for every input the law returns true; each argument reads behind the call as it read before'; 0 by the template 'total and deterministic' (their statements: YtnfeggeahnjdeaaTotals.lean).
  GIVEN WITH THE SEED: the statements are not yours to turn. If you find one false, say at which input.
  Laid BY PROGRAM, IN A SANDBOX (cutbox-rows.mjs): the forced cells as the released guide's own fill.sh prints them over the translation d2feba9c3ea3e521… (all of the seat's roots in one cut). By AI agents, Wed Nov 11 2026. No macro, syntax, notation, axiom, sorry.
-/
import Derived.Test.YtnfeggeahnjdeaaChecked
import GoSem.Claim
import GoSem.ClaimJoined
import GoSem.ClaimMapViews
import Derived.JoinedTies
import Derived.KernelRfl
namespace Go.Proofs.Ytnfeggeahnjdeaa
/- THE CELL 'sum', in the pinned program and in every row, IS THE sha256 OF THE DUMP (.gsa) THAT YtnfeggeahnjdeaaProg.lean LOADS. Nothing in Lean hashes anything: it is a label: what it is worth is what the hold of that sum in a sandbox is worth. -/
noncomputable def Try.pinned : Pinned := { name := "ytnfeggeahnjdeaa", sum := "d2feba9c3ea3e521669335087e31aadf7bf2bfdeeedb71a1d3755812e3863cb7", checked := Try.checked }
namespace Rows
def none {H : Type} : Left H := { results := [], args := [] }

/-- 'gantrylaw20.LearnNil': WHATEVER THE INPUT: true; the input reads as it did. -/
def learnNilSpec : ChangeSpec := { name := "learnNil", fn := fun _ => fun
  | [d1, d2] => { results := [.lit (.bool true)], args := [d1, d2] }
  | _ => none }
def learnNilRow : OpenClaim := { program := "ytnfeggeahnjdeaa", sum := "d2feba9c3ea3e521669335087e31aadf7bf2bfdeeedb71a1d3755812e3863cb7", func := "gantry/gantrylaw20.LearnNil", spec := "learnNil", unfollowed := true, recurses := true, apart := false }
def LearnNilSaid : Prop := learnNilRow.holds Try.pinned (OpenSpec.ofChange learnNilSpec)

/-- ITS FALSE NEIGHBOUR: 'it returns false'. Refute it at one input. -/
def learnNilWrong : ChangeSpec := { name := "learnNil", fn := fun _ => fun
  | [d1, d2] => { results := [.lit (.bool false)], args := [d1, d2] }
  | _ => none }
def LearnNilWrongFalsely : Prop := learnNilRow.holds Try.pinned (OpenSpec.ofChange learnNilWrong)

/-- 'gantrylaw20.LearnAgain': WHATEVER THE INPUT: true; the input reads as it did. -/
def learnAgainSpec : ChangeSpec := { name := "learnAgain", fn := fun _ => fun
  | [d1, d2, d3, d4] => { results := [.lit (.bool true)], args := [d1, d2, d3, d4] }
  | _ => none }
def learnAgainRow : OpenClaim := { program := "ytnfeggeahnjdeaa", sum := "d2feba9c3ea3e521669335087e31aadf7bf2bfdeeedb71a1d3755812e3863cb7", func := "gantry/gantrylaw20.LearnAgain", spec := "learnAgain", unfollowed := true, recurses := true, apart := false }
def LearnAgainSaid : Prop := learnAgainRow.holds Try.pinned (OpenSpec.ofChange learnAgainSpec)

/-- ITS FALSE NEIGHBOUR: 'it returns false'. Refute it at one input. -/
def learnAgainWrong : ChangeSpec := { name := "learnAgain", fn := fun _ => fun
  | [d1, d2, d3, d4] => { results := [.lit (.bool false)], args := [d1, d2, d3, d4] }
  | _ => none }
def LearnAgainWrongFalsely : Prop := learnAgainRow.holds Try.pinned (OpenSpec.ofChange learnAgainWrong)

/- THE SECOND FORM. 'bulk': how many values and letters a reading holds, each counted each time it is reached (what is shared counts as often as it is met; a slice's spare places count too). A statement '..UptoSaid' is the law's where the arguments, and the package variables that the reading takes, are together of bulk at most 1048576: NARROWER than '..Said'. Prove '..Said' where nothing that the law and all that it calls make is longer than what came in: it says more and counts as full. Else prove '..UptoSaid'. A law counts once. -/
mutual
def uptoBulk {H : Type} : DataW H → Nat
  | .lit (.string bytes) => bytes.length + 1
  | .lit _ => 1
  | .nil => 1
  | .ptr d => uptoBulk d + 1
  | .slice elems spare => uptoBulkAll elems + uptoBulkAll spare + 1
  | .agg parts => uptoBulkAll parts + 1
  | .iface _ d => uptoBulk d + 1
  | .map entries => uptoBulkEntries entries + 1
  | .held _ => 1
def uptoBulkAll {H : Type} : List (DataW H) → Nat
  | [] => 0
  | d :: r => uptoBulk d + uptoBulkAll r
def uptoBulkEntries {H : Type} : List (Lit × DataW H) → Nat
  | [] => 0
  | x :: r => uptoBulkEntry x + uptoBulkEntries r
def uptoBulkEntry {H : Type} : Lit × DataW H → Nat
  | (.string bytes, d) => bytes.length + uptoBulk d + 1
  | (_, d) => uptoBulk d + 1
 end
def uptoSmall : (H : Type) → List (DataW H) → Bool := fun _ ds => decide (uptoBulkAll ds ≤ 1048576)
def OpenSpec.upto (s : _root_.Go.ChangeSpec) : _root_.Go.OpenSpec := { _root_.Go.OpenSpec.ofChange s with cond := some uptoSmall }

/-- 'gantrylaw20.LearnNil', WHERE WHAT IT READS IS OF BULK AT MOST 1048576: true; the input reads as it did. -/
def learnNilUptoRow : OpenClaim := { program := "ytnfeggeahnjdeaa", sum := "d2feba9c3ea3e521669335087e31aadf7bf2bfdeeedb71a1d3755812e3863cb7", func := "gantry/gantrylaw20.LearnNil", spec := "learnNil", unfollowed := true, recurses := true, apart := false, narrowed := true }
def LearnNilUptoSaid : Prop := learnNilUptoRow.holds Try.pinned (OpenSpec.upto learnNilSpec)

/-- 'gantrylaw20.LearnAgain', WHERE WHAT IT READS IS OF BULK AT MOST 1048576: true; the input reads as it did. -/
def learnAgainUptoRow : OpenClaim := { program := "ytnfeggeahnjdeaa", sum := "d2feba9c3ea3e521669335087e31aadf7bf2bfdeeedb71a1d3755812e3863cb7", func := "gantry/gantrylaw20.LearnAgain", spec := "learnAgain", unfollowed := true, recurses := true, apart := false, narrowed := true }
def LearnAgainUptoSaid : Prop := learnAgainUptoRow.holds Try.pinned (OpenSpec.upto learnAgainSpec)

end Rows
end Go.Proofs.Ytnfeggeahnjdeaa

/-
  NARROWER THAN 'FOR EVERY INPUT', by the rows' own cells (each row's printed sentence says how): SexprTells: loops · SexprBack: loops.
  DERIVED. THE GIVEN ROWS OF THIS SEAT. 5 by the template 'for every input the law returns true; each argument reads behind the call as it read before'; 0 by the template 'total and deterministic' (their statements: YtephhendkmhggaaTotals.lean).
  GIVEN WITH THE SEED: the statements are not yours to turn. If you find one false, say at which input.
  Laid BY PROGRAM, IN A SANDBOX (cutbox-rows.mjs): the forced cells as the released guide's own fill.sh prints them over the translation 937d5a56d5aac972… (all of the seat's roots in one cut). By AI agents, Wed Nov 11 2026. No macro, syntax, notation, axiom, sorry.
-/
import Derived.Test.YtephhendkmhggaaChecked
import GoSem.Claim
import GoSem.ClaimJoined
import GoSem.ClaimMapViews
import Derived.JoinedTies
import Derived.KernelRfl
namespace Go.Proofs.Ytephhendkmhggaa
/- THE CELL 'sum', in the pinned program and in every row, IS THE sha256 OF THE DUMP (.gsa) THAT YtephhendkmhggaaProg.lean LOADS. Nothing in Lean hashes anything: it is a label: what it is worth is what the hold of that sum in a sandbox is worth. -/
noncomputable def Try.pinned : Pinned := { name := "ytephhendkmhggaa", sum := "937d5a56d5aac97242e48621e70b4ff4b535d53aa85f750186c54a450f6a7c0a", checked := Try.checked }
namespace Rows
def none {H : Type} : Left H := { results := [], args := [] }

/-- 'gantrylaw03.SexprReads': WHATEVER THE INPUT: true; the input reads as it did. -/
def sexprReadsSpec : ChangeSpec := { name := "sexprReads", fn := fun _ => fun
  | [d1, d2] => { results := [.lit (.bool true)], args := [d1, d2] }
  | _ => none }
def sexprReadsRow : OpenClaim := { program := "ytephhendkmhggaa", sum := "937d5a56d5aac97242e48621e70b4ff4b535d53aa85f750186c54a450f6a7c0a", func := "gantry/gantrylaw03.SexprReads", spec := "sexprReads", inPlace := ["internal/bytealg.IndexByteString", "internal/abi.NoEscape"], unfollowed := true, recurses := true, apart := false }
def SexprReadsSaid : Prop := sexprReadsRow.holds Try.pinned (OpenSpec.ofChange sexprReadsSpec)

/-- ITS FALSE NEIGHBOUR: 'it returns false'. Refute it at one input. -/
def sexprReadsWrong : ChangeSpec := { name := "sexprReads", fn := fun _ => fun
  | [d1, d2] => { results := [.lit (.bool false)], args := [d1, d2] }
  | _ => none }
def SexprReadsWrongFalsely : Prop := sexprReadsRow.holds Try.pinned (OpenSpec.ofChange sexprReadsWrong)

/-- 'gantrylaw03.SexprTells': WHATEVER THE INPUT: true; the input reads as it did. -/
def sexprTellsSpec : ChangeSpec := { name := "sexprTells", fn := fun _ => fun
  | [d1, d2] => { results := [.lit (.bool true)], args := [d1, d2] }
  | _ => none }
def sexprTellsRow : OpenClaim := { program := "ytephhendkmhggaa", sum := "937d5a56d5aac97242e48621e70b4ff4b535d53aa85f750186c54a450f6a7c0a", func := "gantry/gantrylaw03.SexprTells", spec := "sexprTells", inPlace := ["internal/bytealg.IndexByteString", "internal/abi.NoEscape"], unfollowed := true, recurses := true, loops := true, apart := false }
def SexprTellsSaid : Prop := sexprTellsRow.holds Try.pinned (OpenSpec.ofChange sexprTellsSpec)

/-- ITS FALSE NEIGHBOUR: 'it returns false'. Refute it at one input. -/
def sexprTellsWrong : ChangeSpec := { name := "sexprTells", fn := fun _ => fun
  | [d1, d2] => { results := [.lit (.bool false)], args := [d1, d2] }
  | _ => none }
def SexprTellsWrongFalsely : Prop := sexprTellsRow.holds Try.pinned (OpenSpec.ofChange sexprTellsWrong)

/-- 'gantrylaw03.SexprSpaces': WHATEVER THE INPUT: true; the input reads as it did. -/
def sexprSpacesSpec : ChangeSpec := { name := "sexprSpaces", fn := fun _ => fun
  | [d1, d2] => { results := [.lit (.bool true)], args := [d1, d2] }
  | _ => none }
def sexprSpacesRow : OpenClaim := { program := "ytephhendkmhggaa", sum := "937d5a56d5aac97242e48621e70b4ff4b535d53aa85f750186c54a450f6a7c0a", func := "gantry/gantrylaw03.SexprSpaces", spec := "sexprSpaces", inPlace := ["internal/bytealg.IndexByteString", "internal/abi.NoEscape"], unfollowed := true, recurses := true, apart := false }
def SexprSpacesSaid : Prop := sexprSpacesRow.holds Try.pinned (OpenSpec.ofChange sexprSpacesSpec)

/-- ITS FALSE NEIGHBOUR: 'it returns false'. Refute it at one input. -/
def sexprSpacesWrong : ChangeSpec := { name := "sexprSpaces", fn := fun _ => fun
  | [d1, d2] => { results := [.lit (.bool false)], args := [d1, d2] }
  | _ => none }
def SexprSpacesWrongFalsely : Prop := sexprSpacesRow.holds Try.pinned (OpenSpec.ofChange sexprSpacesWrong)

/-- 'gantrylaw03.SexprBack': WHATEVER THE INPUT: true; the input reads as it did. -/
def sexprBackSpec : ChangeSpec := { name := "sexprBack", fn := fun _ => fun
  | [d1, d2, d3] => { results := [.lit (.bool true)], args := [d1, d2, d3] }
  | _ => none }
def sexprBackRow : OpenClaim := { program := "ytephhendkmhggaa", sum := "937d5a56d5aac97242e48621e70b4ff4b535d53aa85f750186c54a450f6a7c0a", func := "gantry/gantrylaw03.SexprBack", spec := "sexprBack", inPlace := ["internal/bytealg.IndexByteString", "internal/abi.NoEscape"], unfollowed := true, recurses := true, loops := true, apart := false }
def SexprBackSaid : Prop := sexprBackRow.holds Try.pinned (OpenSpec.ofChange sexprBackSpec)

/-- ITS FALSE NEIGHBOUR: 'it returns false'. Refute it at one input. -/
def sexprBackWrong : ChangeSpec := { name := "sexprBack", fn := fun _ => fun
  | [d1, d2, d3] => { results := [.lit (.bool false)], args := [d1, d2, d3] }
  | _ => none }
def SexprBackWrongFalsely : Prop := sexprBackRow.holds Try.pinned (OpenSpec.ofChange sexprBackWrong)

/-- 'gantrylaw03.SexprJoined': WHATEVER THE INPUT: true; the input reads as it did. -/
def sexprJoinedSpec : ChangeSpec := { name := "sexprJoined", fn := fun _ => fun
  | [d1, d2] => { results := [.lit (.bool true)], args := [d1, d2] }
  | _ => none }
def sexprJoinedRow : OpenClaim := { program := "ytephhendkmhggaa", sum := "937d5a56d5aac97242e48621e70b4ff4b535d53aa85f750186c54a450f6a7c0a", func := "gantry/gantrylaw03.SexprJoined", spec := "sexprJoined", inPlace := ["internal/bytealg.IndexByteString", "internal/abi.NoEscape"], unfollowed := true, recurses := true, apart := false }
def SexprJoinedSaid : Prop := sexprJoinedRow.holds Try.pinned (OpenSpec.ofChange sexprJoinedSpec)

/-- ITS FALSE NEIGHBOUR: 'it returns false'. Refute it at one input. -/
def sexprJoinedWrong : ChangeSpec := { name := "sexprJoined", fn := fun _ => fun
  | [d1, d2] => { results := [.lit (.bool false)], args := [d1, d2] }
  | _ => none }
def SexprJoinedWrongFalsely : Prop := sexprJoinedRow.holds Try.pinned (OpenSpec.ofChange sexprJoinedWrong)

/- THE SECOND FORM. 'bulk': how many values and letters a reading holds, each counted each time it is reached (what is shared counts as often as it is met; a slice's spare places count too). A statement '..UptoSaid' is the law's where the arguments, and the package variables that the reading takes, are together of bulk at most 1048576: NARROWER than '..Said'. Prove '..Said' where nothing that the law and all that it calls make is longer than what came in: it says more and counts as full. Else prove '..UptoSaid'. A law counts once. -/
mutual
def uptoBulk {H : Type} : DataW H → Nat
  | .lit (.string bytes) => bytes.length + 1
  | .lit _ => 1
  | .nil => 1
  | .ptr d => uptoBulk d + 1
  | .slice elems spare => uptoBulkAll elems + uptoBulkAll spare + 1
  | .agg parts => uptoBulkAll parts + 1
  | .iface _ d => uptoBulk d + 1
  | .map entries => uptoBulkEntries entries + 1
  | .held _ => 1
def uptoBulkAll {H : Type} : List (DataW H) → Nat
  | [] => 0
  | d :: r => uptoBulk d + uptoBulkAll r
def uptoBulkEntries {H : Type} : List (Lit × DataW H) → Nat
  | [] => 0
  | x :: r => uptoBulkEntry x + uptoBulkEntries r
def uptoBulkEntry {H : Type} : Lit × DataW H → Nat
  | (.string bytes, d) => bytes.length + uptoBulk d + 1
  | (_, d) => uptoBulk d + 1
 end
def uptoSmall : (H : Type) → List (DataW H) → Bool := fun _ ds => decide (uptoBulkAll ds ≤ 1048576)
def OpenSpec.upto (s : _root_.Go.ChangeSpec) : _root_.Go.OpenSpec := { _root_.Go.OpenSpec.ofChange s with cond := some uptoSmall }

/-- 'gantrylaw03.SexprReads', WHERE WHAT IT READS IS OF BULK AT MOST 1048576: true; the input reads as it did. -/
def sexprReadsUptoRow : OpenClaim := { program := "ytephhendkmhggaa", sum := "937d5a56d5aac97242e48621e70b4ff4b535d53aa85f750186c54a450f6a7c0a", func := "gantry/gantrylaw03.SexprReads", spec := "sexprReads", inPlace := ["internal/bytealg.IndexByteString", "internal/abi.NoEscape"], unfollowed := true, recurses := true, apart := false, narrowed := true }
def SexprReadsUptoSaid : Prop := sexprReadsUptoRow.holds Try.pinned (OpenSpec.upto sexprReadsSpec)

/-- 'gantrylaw03.SexprTells', WHERE WHAT IT READS IS OF BULK AT MOST 1048576: true; the input reads as it did. -/
def sexprTellsUptoRow : OpenClaim := { program := "ytephhendkmhggaa", sum := "937d5a56d5aac97242e48621e70b4ff4b535d53aa85f750186c54a450f6a7c0a", func := "gantry/gantrylaw03.SexprTells", spec := "sexprTells", inPlace := ["internal/bytealg.IndexByteString", "internal/abi.NoEscape"], unfollowed := true, recurses := true, loops := true, apart := false, narrowed := true }
def SexprTellsUptoSaid : Prop := sexprTellsUptoRow.holds Try.pinned (OpenSpec.upto sexprTellsSpec)

/-- 'gantrylaw03.SexprSpaces', WHERE WHAT IT READS IS OF BULK AT MOST 1048576: true; the input reads as it did. -/
def sexprSpacesUptoRow : OpenClaim := { program := "ytephhendkmhggaa", sum := "937d5a56d5aac97242e48621e70b4ff4b535d53aa85f750186c54a450f6a7c0a", func := "gantry/gantrylaw03.SexprSpaces", spec := "sexprSpaces", inPlace := ["internal/bytealg.IndexByteString", "internal/abi.NoEscape"], unfollowed := true, recurses := true, apart := false, narrowed := true }
def SexprSpacesUptoSaid : Prop := sexprSpacesUptoRow.holds Try.pinned (OpenSpec.upto sexprSpacesSpec)

/-- 'gantrylaw03.SexprBack', WHERE WHAT IT READS IS OF BULK AT MOST 1048576: true; the input reads as it did. -/
def sexprBackUptoRow : OpenClaim := { program := "ytephhendkmhggaa", sum := "937d5a56d5aac97242e48621e70b4ff4b535d53aa85f750186c54a450f6a7c0a", func := "gantry/gantrylaw03.SexprBack", spec := "sexprBack", inPlace := ["internal/bytealg.IndexByteString", "internal/abi.NoEscape"], unfollowed := true, recurses := true, loops := true, apart := false, narrowed := true }
def SexprBackUptoSaid : Prop := sexprBackUptoRow.holds Try.pinned (OpenSpec.upto sexprBackSpec)

/-- 'gantrylaw03.SexprJoined', WHERE WHAT IT READS IS OF BULK AT MOST 1048576: true; the input reads as it did. -/
def sexprJoinedUptoRow : OpenClaim := { program := "ytephhendkmhggaa", sum := "937d5a56d5aac97242e48621e70b4ff4b535d53aa85f750186c54a450f6a7c0a", func := "gantry/gantrylaw03.SexprJoined", spec := "sexprJoined", inPlace := ["internal/bytealg.IndexByteString", "internal/abi.NoEscape"], unfollowed := true, recurses := true, apart := false, narrowed := true }
def SexprJoinedUptoSaid : Prop := sexprJoinedUptoRow.holds Try.pinned (OpenSpec.upto sexprJoinedSpec)

end Rows
end Go.Proofs.Ytephhendkmhggaa

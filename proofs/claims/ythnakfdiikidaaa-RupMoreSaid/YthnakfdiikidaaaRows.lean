/-
  No cell of these rows narrows 'for every input' (looked for: loops, veiled, ifaces, maps, wideKeys, modest, calm, conditions, laid).
  DERIVED. THE GIVEN ROWS OF THIS SEAT. 4 by the template 'for every input the law returns true; each argument reads behind the call as it read before'; 0 by the template 'total and deterministic' (their statements: YthnakfdiikidaaaTotals.lean).
  GIVEN WITH THE SEED: the statements are not yours to turn. If you find one false, say at which input.
  Laid BY PROGRAM, IN A SANDBOX (cutbox-rows.mjs): the forced cells as the released guide's own fill.sh prints them over the translation ffe3180574839500… (all of the seat's roots in one cut). By AI agents, Wed Nov 11 2026. No macro, syntax, notation, axiom, sorry.
-/
import Derived.Test.YthnakfdiikidaaaChecked
import GoSem.Claim
import GoSem.ClaimJoined
import GoSem.ClaimMapViews
import Derived.JoinedTies
import Derived.KernelRfl
namespace Go.Proofs.Ythnakfdiikidaaa
/- THE CELL 'sum', in the pinned program and in every row, IS THE sha256 OF THE DUMP (.gsa) THAT YthnakfdiikidaaaProg.lean LOADS. Nothing in Lean hashes anything: it is a label: what it is worth is what the hold of that sum in a sandbox is worth. -/
noncomputable def Try.pinned : Pinned := { name := "ythnakfdiikidaaa", sum := "ffe31805748395008e43e93cc9edfb0e78c9faba07ecb73e3254f3ca20fd4403", checked := Try.checked }
namespace Rows
def none {H : Type} : Left H := { results := [], args := [] }

/-- 'gantrylaw17.RupHolds': WHATEVER THE INPUT: true; the input reads as it did. -/
def rupHoldsSpec : ChangeSpec := { name := "rupHolds", fn := fun _ => fun
  | [d1, d2, d3] => { results := [.lit (.bool true)], args := [d1, d2, d3] }
  | _ => none }
def rupHoldsRow : OpenClaim := { program := "ythnakfdiikidaaa", sum := "ffe31805748395008e43e93cc9edfb0e78c9faba07ecb73e3254f3ca20fd4403", func := "gantry/gantrylaw17.RupHolds", spec := "rupHolds", unfollowed := true, recurses := true, apart := false }
def RupHoldsSaid : Prop := rupHoldsRow.holds Try.pinned (OpenSpec.ofChange rupHoldsSpec)

/-- ITS FALSE NEIGHBOUR: 'it returns false'. Refute it at one input. -/
def rupHoldsWrong : ChangeSpec := { name := "rupHolds", fn := fun _ => fun
  | [d1, d2, d3] => { results := [.lit (.bool false)], args := [d1, d2, d3] }
  | _ => none }
def RupHoldsWrongFalsely : Prop := rupHoldsRow.holds Try.pinned (OpenSpec.ofChange rupHoldsWrong)

/-- 'gantrylaw17.RupParts': WHATEVER THE INPUT: true; the input reads as it did. -/
def rupPartsSpec : ChangeSpec := { name := "rupParts", fn := fun _ => fun
  | [d1, d2, d3] => { results := [.lit (.bool true)], args := [d1, d2, d3] }
  | _ => none }
def rupPartsRow : OpenClaim := { program := "ythnakfdiikidaaa", sum := "ffe31805748395008e43e93cc9edfb0e78c9faba07ecb73e3254f3ca20fd4403", func := "gantry/gantrylaw17.RupParts", spec := "rupParts", unfollowed := true, recurses := true, apart := false }
def RupPartsSaid : Prop := rupPartsRow.holds Try.pinned (OpenSpec.ofChange rupPartsSpec)

/-- ITS FALSE NEIGHBOUR: 'it returns false'. Refute it at one input. -/
def rupPartsWrong : ChangeSpec := { name := "rupParts", fn := fun _ => fun
  | [d1, d2, d3] => { results := [.lit (.bool false)], args := [d1, d2, d3] }
  | _ => none }
def RupPartsWrongFalsely : Prop := rupPartsRow.holds Try.pinned (OpenSpec.ofChange rupPartsWrong)

/-- 'gantrylaw17.RupTells': WHATEVER THE INPUT: true; the input reads as it did. -/
def rupTellsSpec : ChangeSpec := { name := "rupTells", fn := fun _ => fun
  | [d1, d2, d3] => { results := [.lit (.bool true)], args := [d1, d2, d3] }
  | _ => none }
def rupTellsRow : OpenClaim := { program := "ythnakfdiikidaaa", sum := "ffe31805748395008e43e93cc9edfb0e78c9faba07ecb73e3254f3ca20fd4403", func := "gantry/gantrylaw17.RupTells", spec := "rupTells", unfollowed := true, recurses := true, apart := false }
def RupTellsSaid : Prop := rupTellsRow.holds Try.pinned (OpenSpec.ofChange rupTellsSpec)

/-- ITS FALSE NEIGHBOUR: 'it returns false'. Refute it at one input. -/
def rupTellsWrong : ChangeSpec := { name := "rupTells", fn := fun _ => fun
  | [d1, d2, d3] => { results := [.lit (.bool false)], args := [d1, d2, d3] }
  | _ => none }
def RupTellsWrongFalsely : Prop := rupTellsRow.holds Try.pinned (OpenSpec.ofChange rupTellsWrong)

/-- 'gantrylaw17.RupMore': WHATEVER THE INPUT: true; the input reads as it did. -/
def rupMoreSpec : ChangeSpec := { name := "rupMore", fn := fun _ => fun
  | [d1, d2, d3] => { results := [.lit (.bool true)], args := [d1, d2, d3] }
  | _ => none }
def rupMoreRow : OpenClaim := { program := "ythnakfdiikidaaa", sum := "ffe31805748395008e43e93cc9edfb0e78c9faba07ecb73e3254f3ca20fd4403", func := "gantry/gantrylaw17.RupMore", spec := "rupMore", unfollowed := true, recurses := true, apart := false }
def RupMoreSaid : Prop := rupMoreRow.holds Try.pinned (OpenSpec.ofChange rupMoreSpec)

/-- ITS FALSE NEIGHBOUR: 'it returns false'. Refute it at one input. -/
def rupMoreWrong : ChangeSpec := { name := "rupMore", fn := fun _ => fun
  | [d1, d2, d3] => { results := [.lit (.bool false)], args := [d1, d2, d3] }
  | _ => none }
def RupMoreWrongFalsely : Prop := rupMoreRow.holds Try.pinned (OpenSpec.ofChange rupMoreWrong)

/- THE SECOND FORM. 'bulk': how many values and letters a reading holds, each counted each time it is reached (what is shared counts as often as it is met; a slice's spare places count too). A statement '..UptoSaid' is the law's where the arguments, and the package variables that the reading takes, are together of bulk at most 1048576: NARROWER than '..Said'. Prove '..Said' where nothing that the law and all that it calls make is longer than what came in: it says more and counts as full. Else prove '..UptoSaid'. A law counts once. -/
mutual
def uptoBulk {H : Type} : DataW H → Nat
  | .lit (.string bytes) => bytes.length + 1
  | .lit _ => 1
  | .nil => 1
  | .ptr d => uptoBulk d + 1
  | .slice elems spare => uptoBulkAll elems + uptoBulkAll spare + 1
  | .agg parts => uptoBulkAll parts + 1
  | .iface _ d => uptoBulk d + 1
  | .map entries => uptoBulkEntries entries + 1
  | .held _ => 1
def uptoBulkAll {H : Type} : List (DataW H) → Nat
  | [] => 0
  | d :: r => uptoBulk d + uptoBulkAll r
def uptoBulkEntries {H : Type} : List (Lit × DataW H) → Nat
  | [] => 0
  | x :: r => uptoBulkEntry x + uptoBulkEntries r
def uptoBulkEntry {H : Type} : Lit × DataW H → Nat
  | (.string bytes, d) => bytes.length + uptoBulk d + 1
  | (_, d) => uptoBulk d + 1
 end
def uptoSmall : (H : Type) → List (DataW H) → Bool := fun _ ds => decide (uptoBulkAll ds ≤ 1048576)
def OpenSpec.upto (s : _root_.Go.ChangeSpec) : _root_.Go.OpenSpec := { _root_.Go.OpenSpec.ofChange s with cond := some uptoSmall }

/-- 'gantrylaw17.RupHolds', WHERE WHAT IT READS IS OF BULK AT MOST 1048576: true; the input reads as it did. -/
def rupHoldsUptoRow : OpenClaim := { program := "ythnakfdiikidaaa", sum := "ffe31805748395008e43e93cc9edfb0e78c9faba07ecb73e3254f3ca20fd4403", func := "gantry/gantrylaw17.RupHolds", spec := "rupHolds", unfollowed := true, recurses := true, apart := false, narrowed := true }
def RupHoldsUptoSaid : Prop := rupHoldsUptoRow.holds Try.pinned (OpenSpec.upto rupHoldsSpec)

/-- 'gantrylaw17.RupParts', WHERE WHAT IT READS IS OF BULK AT MOST 1048576: true; the input reads as it did. -/
def rupPartsUptoRow : OpenClaim := { program := "ythnakfdiikidaaa", sum := "ffe31805748395008e43e93cc9edfb0e78c9faba07ecb73e3254f3ca20fd4403", func := "gantry/gantrylaw17.RupParts", spec := "rupParts", unfollowed := true, recurses := true, apart := false, narrowed := true }
def RupPartsUptoSaid : Prop := rupPartsUptoRow.holds Try.pinned (OpenSpec.upto rupPartsSpec)

/-- 'gantrylaw17.RupTells', WHERE WHAT IT READS IS OF BULK AT MOST 1048576: true; the input reads as it did. -/
def rupTellsUptoRow : OpenClaim := { program := "ythnakfdiikidaaa", sum := "ffe31805748395008e43e93cc9edfb0e78c9faba07ecb73e3254f3ca20fd4403", func := "gantry/gantrylaw17.RupTells", spec := "rupTells", unfollowed := true, recurses := true, apart := false, narrowed := true }
def RupTellsUptoSaid : Prop := rupTellsUptoRow.holds Try.pinned (OpenSpec.upto rupTellsSpec)

/-- 'gantrylaw17.RupMore', WHERE WHAT IT READS IS OF BULK AT MOST 1048576: true; the input reads as it did. -/
def rupMoreUptoRow : OpenClaim := { program := "ythnakfdiikidaaa", sum := "ffe31805748395008e43e93cc9edfb0e78c9faba07ecb73e3254f3ca20fd4403", func := "gantry/gantrylaw17.RupMore", spec := "rupMore", unfollowed := true, recurses := true, apart := false, narrowed := true }
def RupMoreUptoSaid : Prop := rupMoreUptoRow.holds Try.pinned (OpenSpec.upto rupMoreSpec)

end Rows
end Go.Proofs.Ythnakfdiikidaaa

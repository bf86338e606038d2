/-
  No cell of these rows narrows 'for every input' (looked for: loops, veiled, ifaces, maps, wideKeys, modest, calm, conditions, laid).
  DERIVED. THE GIVEN ROWS OF THIS SEAT. 4 by the template 'for every input the law returns true; each argument reads behind the call as it read before'; 0 by the template 'total and deterministic' (their statements: YtmbekchnfbmhbaaGreatTotals.lean).
  GIVEN WITH THE SEED: the statements are not yours to turn. If you find one false, say at which input.
  Laid BY PROGRAM, IN A SANDBOX (cutbox-rows.mjs): the forced cells as the released guide's own fill.sh prints them over the translation af2f9271e5f8cab7… (all of the seat's roots in one cut). By AI agents, Wed Nov 11 2026. No macro, syntax, notation, axiom, sorry.
-/
import Derived.Test.YtmbekchnfbmhbaaGreatChecked
import GoSem.Claim
import GoSem.ClaimJoined
import GoSem.ClaimMapViews
import Derived.JoinedTies
import Derived.KernelRfl
namespace Go.Proofs.YtmbekchnfbmhbaaGreat
/- THE CELL 'sum', in the pinned program and in every row, IS THE sha256 OF THE DUMP (.gsa) THAT YtmbekchnfbmhbaaGreatProg.lean LOADS. Nothing in Lean hashes anything: it is a label: what it is worth is what the hold of that sum in a sandbox is worth. -/
noncomputable def Tryz.pinned : Pinned := { name := "ytmbekchnfbmhbaagreat", sum := "af2f9271e5f8cab7db12ac7b55f3e47721faef0a390aa71173ffbce5d1cf1328", checked := Tryz.checked }
namespace Rows
def none {H : Type} : Left H := { results := [], args := [] }

/-- 'gantrylaw21.SatRight': WHATEVER THE INPUT: true; the input reads as it did. -/
def satRightSpec : ChangeSpec := { name := "satRight", fn := fun _ => fun
  | [d1, d2, d3, d4] => { results := [.lit (.bool true)], args := [d1, d2, d3, d4] }
  | _ => none }
def satRightRow : OpenClaim := { program := "ytmbekchnfbmhbaagreat", sum := "af2f9271e5f8cab7db12ac7b55f3e47721faef0a390aa71173ffbce5d1cf1328", func := "gantry/gantrylaw21.SatRight", spec := "satRight", unfollowed := true, recurses := true, apart := false }
def SatRightSaid : Prop := satRightRow.holds Tryz.pinned (OpenSpec.ofChange satRightSpec)

/-- ITS FALSE NEIGHBOUR: 'it returns false'. Refute it at one input. -/
def satRightWrong : ChangeSpec := { name := "satRight", fn := fun _ => fun
  | [d1, d2, d3, d4] => { results := [.lit (.bool false)], args := [d1, d2, d3, d4] }
  | _ => none }
def SatRightWrongFalsely : Prop := satRightRow.holds Tryz.pinned (OpenSpec.ofChange satRightWrong)

/-- 'gantrylaw21.SatEnds': WHATEVER THE INPUT: true; the input reads as it did. -/
def satEndsSpec : ChangeSpec := { name := "satEnds", fn := fun _ => fun
  | [d1, d2, d3] => { results := [.lit (.bool true)], args := [d1, d2, d3] }
  | _ => none }
def satEndsRow : OpenClaim := { program := "ytmbekchnfbmhbaagreat", sum := "af2f9271e5f8cab7db12ac7b55f3e47721faef0a390aa71173ffbce5d1cf1328", func := "gantry/gantrylaw21.SatEnds", spec := "satEnds", unfollowed := true, recurses := true, apart := false }
def SatEndsSaid : Prop := satEndsRow.holds Tryz.pinned (OpenSpec.ofChange satEndsSpec)

/-- ITS FALSE NEIGHBOUR: 'it returns false'. Refute it at one input. -/
def satEndsWrong : ChangeSpec := { name := "satEnds", fn := fun _ => fun
  | [d1, d2, d3] => { results := [.lit (.bool false)], args := [d1, d2, d3] }
  | _ => none }
def SatEndsWrongFalsely : Prop := satEndsRow.holds Tryz.pinned (OpenSpec.ofChange satEndsWrong)

/-- 'gantrylaw21.SatSteps': WHATEVER THE INPUT: true; the input reads as it did. -/
def satStepsSpec : ChangeSpec := { name := "satSteps", fn := fun _ => fun
  | [d1, d2, d3, d4] => { results := [.lit (.bool true)], args := [d1, d2, d3, d4] }
  | _ => none }
def satStepsRow : OpenClaim := { program := "ytmbekchnfbmhbaagreat", sum := "af2f9271e5f8cab7db12ac7b55f3e47721faef0a390aa71173ffbce5d1cf1328", func := "gantry/gantrylaw21.SatSteps", spec := "satSteps", unfollowed := true, recurses := true, apart := false }
def SatStepsSaid : Prop := satStepsRow.holds Tryz.pinned (OpenSpec.ofChange satStepsSpec)

/-- ITS FALSE NEIGHBOUR: 'it returns false'. Refute it at one input. -/
def satStepsWrong : ChangeSpec := { name := "satSteps", fn := fun _ => fun
  | [d1, d2, d3, d4] => { results := [.lit (.bool false)], args := [d1, d2, d3, d4] }
  | _ => none }
def SatStepsWrongFalsely : Prop := satStepsRow.holds Tryz.pinned (OpenSpec.ofChange satStepsWrong)

/-- 'gantrylaw21.SatModels': WHATEVER THE INPUT: true; the input reads as it did. -/
def satModelsSpec : ChangeSpec := { name := "satModels", fn := fun _ => fun
  | [d1, d2, d3] => { results := [.lit (.bool true)], args := [d1, d2, d3] }
  | _ => none }
def satModelsRow : OpenClaim := { program := "ytmbekchnfbmhbaagreat", sum := "af2f9271e5f8cab7db12ac7b55f3e47721faef0a390aa71173ffbce5d1cf1328", func := "gantry/gantrylaw21.SatModels", spec := "satModels", unfollowed := true, recurses := true, apart := false }
def SatModelsSaid : Prop := satModelsRow.holds Tryz.pinned (OpenSpec.ofChange satModelsSpec)

/-- ITS FALSE NEIGHBOUR: 'it returns false'. Refute it at one input. -/
def satModelsWrong : ChangeSpec := { name := "satModels", fn := fun _ => fun
  | [d1, d2, d3] => { results := [.lit (.bool false)], args := [d1, d2, d3] }
  | _ => none }
def SatModelsWrongFalsely : Prop := satModelsRow.holds Tryz.pinned (OpenSpec.ofChange satModelsWrong)

/- THE SECOND FORM. 'bulk': how many values and letters a reading holds, each counted each time it is reached (what is shared counts as often as it is met; a slice's spare places count too). A statement '..UptoSaid' is the law's where the arguments, and the package variables that the reading takes, are together of bulk at most 1048576: NARROWER than '..Said'. Prove '..Said' where nothing that the law and all that it calls make is longer than what came in: it says more and counts as full. Else prove '..UptoSaid'. A law counts once. -/
mutual
def uptoBulk {H : Type} : DataW H → Nat
  | .lit (.string bytes) => bytes.length + 1
  | .lit _ => 1
  | .nil => 1
  | .ptr d => uptoBulk d + 1
  | .slice elems spare => uptoBulkAll elems + uptoBulkAll spare + 1
  | .agg parts => uptoBulkAll parts + 1
  | .iface _ d => uptoBulk d + 1
  | .map entries => uptoBulkEntries entries + 1
  | .held _ => 1
def uptoBulkAll {H : Type} : List (DataW H) → Nat
  | [] => 0
  | d :: r => uptoBulk d + uptoBulkAll r
def uptoBulkEntries {H : Type} : List (Lit × DataW H) → Nat
  | [] => 0
  | x :: r => uptoBulkEntry x + uptoBulkEntries r
def uptoBulkEntry {H : Type} : Lit × DataW H → Nat
  | (.string bytes, d) => bytes.length + uptoBulk d + 1
  | (_, d) => uptoBulk d + 1
 end
def uptoSmall : (H : Type) → List (DataW H) → Bool := fun _ ds => decide (uptoBulkAll ds ≤ 1048576)
def OpenSpec.upto (s : _root_.Go.ChangeSpec) : _root_.Go.OpenSpec := { _root_.Go.OpenSpec.ofChange s with cond := some uptoSmall }

/-- 'gantrylaw21.SatRight', WHERE WHAT IT READS IS OF BULK AT MOST 1048576: true; the input reads as it did. -/
def satRightUptoRow : OpenClaim := { program := "ytmbekchnfbmhbaagreat", sum := "af2f9271e5f8cab7db12ac7b55f3e47721faef0a390aa71173ffbce5d1cf1328", func := "gantry/gantrylaw21.SatRight", spec := "satRight", unfollowed := true, recurses := true, apart := false, narrowed := true }
def SatRightUptoSaid : Prop := satRightUptoRow.holds Tryz.pinned (OpenSpec.upto satRightSpec)

/-- 'gantrylaw21.SatEnds', WHERE WHAT IT READS IS OF BULK AT MOST 1048576: true; the input reads as it did. -/
def satEndsUptoRow : OpenClaim := { program := "ytmbekchnfbmhbaagreat", sum := "af2f9271e5f8cab7db12ac7b55f3e47721faef0a390aa71173ffbce5d1cf1328", func := "gantry/gantrylaw21.SatEnds", spec := "satEnds", unfollowed := true, recurses := true, apart := false, narrowed := true }
def SatEndsUptoSaid : Prop := satEndsUptoRow.holds Tryz.pinned (OpenSpec.upto satEndsSpec)

/-- 'gantrylaw21.SatSteps', WHERE WHAT IT READS IS OF BULK AT MOST 1048576: true; the input reads as it did. -/
def satStepsUptoRow : OpenClaim := { program := "ytmbekchnfbmhbaagreat", sum := "af2f9271e5f8cab7db12ac7b55f3e47721faef0a390aa71173ffbce5d1cf1328", func := "gantry/gantrylaw21.SatSteps", spec := "satSteps", unfollowed := true, recurses := true, apart := false, narrowed := true }
def SatStepsUptoSaid : Prop := satStepsUptoRow.holds Tryz.pinned (OpenSpec.upto satStepsSpec)

/-- 'gantrylaw21.SatModels', WHERE WHAT IT READS IS OF BULK AT MOST 1048576: true; the input reads as it did. -/
def satModelsUptoRow : OpenClaim := { program := "ytmbekchnfbmhbaagreat", sum := "af2f9271e5f8cab7db12ac7b55f3e47721faef0a390aa71173ffbce5d1cf1328", func := "gantry/gantrylaw21.SatModels", spec := "satModels", unfollowed := true, recurses := true, apart := false, narrowed := true }
def SatModelsUptoSaid : Prop := satModelsUptoRow.holds Tryz.pinned (OpenSpec.upto satModelsSpec)

end Rows
end Go.Proofs.YtmbekchnfbmhbaaGreat

/-
  No cell of these rows narrows 'for every input' (looked for: loops, veiled, ifaces, maps, wideKeys, modest, calm, conditions, laid).
  DERIVED. THE GIVEN ROWS OF THIS SEAT. 4 by the template 'for every input the law returns true; each argument reads behind the call as it read before'; 0 by the template 'total and deterministic' (their statements: YtfdfblokbojcfaaTotals.lean).
  GIVEN WITH THE SEED: the statements are not yours to turn. If you find one false, say at which input.
  Laid BY PROGRAM, IN A SANDBOX (cutbox-rows.mjs): the forced cells as the released guide's own fill.sh prints them over the translation db4425bc16bccfc8… (all of the seat's roots in one cut). By AI agents, Wed Nov 11 2026. No macro, syntax, notation, axiom, sorry.
-/
import Derived.Test.YtfdfblokbojcfaaChecked
import GoSem.Claim
import GoSem.ClaimJoined
import GoSem.ClaimMapViews
import Derived.JoinedTies
import Derived.KernelRfl
namespace Go.Proofs.Ytfdfblokbojcfaa
/- THE CELL 'sum', in the pinned program and in every row, IS THE sha256 OF THE DUMP (.gsa) THAT YtfdfblokbojcfaaProg.lean LOADS. Nothing in Lean hashes anything: it is a label: what it is worth is what the hold of that sum in a sandbox is worth. -/
noncomputable def Try.pinned : Pinned := { name := "ytfdfblokbojcfaa", sum := "db4425bc16bccfc8a7282abe24c141131b2e10bf10db3220e6e5c1b2bc663b57", checked := Try.checked }
namespace Rows
def none {H : Type} : Left H := { results := [], args := [] }

/-- 'gantrylaw19.TrailVals': WHATEVER THE INPUT: true; the input reads as it did. -/
def trailValsSpec : ChangeSpec := { name := "trailVals", fn := fun _ => fun
  | [d1, d2] => { results := [.lit (.bool true)], args := [d1, d2] }
  | _ => none }
def trailValsRow : OpenClaim := { program := "ytfdfblokbojcfaa", sum := "db4425bc16bccfc8a7282abe24c141131b2e10bf10db3220e6e5c1b2bc663b57", func := "gantry/gantrylaw19.TrailVals", spec := "trailVals", unfollowed := true, recurses := true, apart := false }
def TrailValsSaid : Prop := trailValsRow.holds Try.pinned (OpenSpec.ofChange trailValsSpec)

/-- ITS FALSE NEIGHBOUR: 'it returns false'. Refute it at one input. -/
def trailValsWrong : ChangeSpec := { name := "trailVals", fn := fun _ => fun
  | [d1, d2] => { results := [.lit (.bool false)], args := [d1, d2] }
  | _ => none }
def TrailValsWrongFalsely : Prop := trailValsRow.holds Try.pinned (OpenSpec.ofChange trailValsWrong)

/-- 'gantrylaw19.TrailPlays': WHATEVER THE INPUT: true; the input reads as it did. -/
def trailPlaysSpec : ChangeSpec := { name := "trailPlays", fn := fun _ => fun
  | [d1, d2] => { results := [.lit (.bool true)], args := [d1, d2] }
  | _ => none }
def trailPlaysRow : OpenClaim := { program := "ytfdfblokbojcfaa", sum := "db4425bc16bccfc8a7282abe24c141131b2e10bf10db3220e6e5c1b2bc663b57", func := "gantry/gantrylaw19.TrailPlays", spec := "trailPlays", unfollowed := true, recurses := true, apart := false }
def TrailPlaysSaid : Prop := trailPlaysRow.holds Try.pinned (OpenSpec.ofChange trailPlaysSpec)

/-- ITS FALSE NEIGHBOUR: 'it returns false'. Refute it at one input. -/
def trailPlaysWrong : ChangeSpec := { name := "trailPlays", fn := fun _ => fun
  | [d1, d2] => { results := [.lit (.bool false)], args := [d1, d2] }
  | _ => none }
def TrailPlaysWrongFalsely : Prop := trailPlaysRow.holds Try.pinned (OpenSpec.ofChange trailPlaysWrong)

/-- 'gantrylaw19.TrailBack': WHATEVER THE INPUT: true; the input reads as it did. -/
def trailBackSpec : ChangeSpec := { name := "trailBack", fn := fun _ => fun
  | [d1, d2] => { results := [.lit (.bool true)], args := [d1, d2] }
  | _ => none }
def trailBackRow : OpenClaim := { program := "ytfdfblokbojcfaa", sum := "db4425bc16bccfc8a7282abe24c141131b2e10bf10db3220e6e5c1b2bc663b57", func := "gantry/gantrylaw19.TrailBack", spec := "trailBack", unfollowed := true, recurses := true, apart := false }
def TrailBackSaid : Prop := trailBackRow.holds Try.pinned (OpenSpec.ofChange trailBackSpec)

/-- ITS FALSE NEIGHBOUR: 'it returns false'. Refute it at one input. -/
def trailBackWrong : ChangeSpec := { name := "trailBack", fn := fun _ => fun
  | [d1, d2] => { results := [.lit (.bool false)], args := [d1, d2] }
  | _ => none }
def TrailBackWrongFalsely : Prop := trailBackRow.holds Try.pinned (OpenSpec.ofChange trailBackWrong)

/-- 'gantrylaw19.TrailNil': WHATEVER THE INPUT: true; the input reads as it did. -/
def trailNilSpec : ChangeSpec := { name := "trailNil", fn := fun _ => fun
  | [d1, d2] => { results := [.lit (.bool true)], args := [d1, d2] }
  | _ => none }
def trailNilRow : OpenClaim := { program := "ytfdfblokbojcfaa", sum := "db4425bc16bccfc8a7282abe24c141131b2e10bf10db3220e6e5c1b2bc663b57", func := "gantry/gantrylaw19.TrailNil", spec := "trailNil", unfollowed := true, recurses := true, apart := false }
def TrailNilSaid : Prop := trailNilRow.holds Try.pinned (OpenSpec.ofChange trailNilSpec)

/-- ITS FALSE NEIGHBOUR: 'it returns false'. Refute it at one input. -/
def trailNilWrong : ChangeSpec := { name := "trailNil", fn := fun _ => fun
  | [d1, d2] => { results := [.lit (.bool false)], args := [d1, d2] }
  | _ => none }
def TrailNilWrongFalsely : Prop := trailNilRow.holds Try.pinned (OpenSpec.ofChange trailNilWrong)

/- THE SECOND FORM. 'bulk': how many values and letters a reading holds, each counted each time it is reached (what is shared counts as often as it is met; a slice's spare places count too). A statement '..UptoSaid' is the law's where the arguments, and the package variables that the reading takes, are together of bulk at most 1048576: NARROWER than '..Said'. Prove '..Said' where nothing that the law and all that it calls make is longer than what came in: it says more and counts as full. Else prove '..UptoSaid'. A law counts once. -/
mutual
def uptoBulk {H : Type} : DataW H → Nat
  | .lit (.string bytes) => bytes.length + 1
  | .lit _ => 1
  | .nil => 1
  | .ptr d => uptoBulk d + 1
  | .slice elems spare => uptoBulkAll elems + uptoBulkAll spare + 1
  | .agg parts => uptoBulkAll parts + 1
  | .iface _ d => uptoBulk d + 1
  | .map entries => uptoBulkEntries entries + 1
  | .held _ => 1
def uptoBulkAll {H : Type} : List (DataW H) → Nat
  | [] => 0
  | d :: r => uptoBulk d + uptoBulkAll r
def uptoBulkEntries {H : Type} : List (Lit × DataW H) → Nat
  | [] => 0
  | x :: r => uptoBulkEntry x + uptoBulkEntries r
def uptoBulkEntry {H : Type} : Lit × DataW H → Nat
  | (.string bytes, d) => bytes.length + uptoBulk d + 1
  | (_, d) => uptoBulk d + 1
 end
def uptoSmall : (H : Type) → List (DataW H) → Bool := fun _ ds => decide (uptoBulkAll ds ≤ 1048576)
def OpenSpec.upto (s : _root_.Go.ChangeSpec) : _root_.Go.OpenSpec := { _root_.Go.OpenSpec.ofChange s with cond := some uptoSmall }

/-- 'gantrylaw19.TrailVals', WHERE WHAT IT READS IS OF BULK AT MOST 1048576: true; the input reads as it did. -/
def trailValsUptoRow : OpenClaim := { program := "ytfdfblokbojcfaa", sum := "db4425bc16bccfc8a7282abe24c141131b2e10bf10db3220e6e5c1b2bc663b57", func := "gantry/gantrylaw19.TrailVals", spec := "trailVals", unfollowed := true, recurses := true, apart := false, narrowed := true }
def TrailValsUptoSaid : Prop := trailValsUptoRow.holds Try.pinned (OpenSpec.upto trailValsSpec)

/-- 'gantrylaw19.TrailPlays', WHERE WHAT IT READS IS OF BULK AT MOST 1048576: true; the input reads as it did. -/
def trailPlaysUptoRow : OpenClaim := { program := "ytfdfblokbojcfaa", sum := "db4425bc16bccfc8a7282abe24c141131b2e10bf10db3220e6e5c1b2bc663b57", func := "gantry/gantrylaw19.TrailPlays", spec := "trailPlays", unfollowed := true, recurses := true, apart := false, narrowed := true }
def TrailPlaysUptoSaid : Prop := trailPlaysUptoRow.holds Try.pinned (OpenSpec.upto trailPlaysSpec)

/-- 'gantrylaw19.TrailBack', WHERE WHAT IT READS IS OF BULK AT MOST 1048576: true; the input reads as it did. -/
def trailBackUptoRow : OpenClaim := { program := "ytfdfblokbojcfaa", sum := "db4425bc16bccfc8a7282abe24c141131b2e10bf10db3220e6e5c1b2bc663b57", func := "gantry/gantrylaw19.TrailBack", spec := "trailBack", unfollowed := true, recurses := true, apart := false, narrowed := true }
def TrailBackUptoSaid : Prop := trailBackUptoRow.holds Try.pinned (OpenSpec.upto trailBackSpec)

/-- 'gantrylaw19.TrailNil', WHERE WHAT IT READS IS OF BULK AT MOST 1048576: true; the input reads as it did. -/
def trailNilUptoRow : OpenClaim := { program := "ytfdfblokbojcfaa", sum := "db4425bc16bccfc8a7282abe24c141131b2e10bf10db3220e6e5c1b2bc663b57", func := "gantry/gantrylaw19.TrailNil", spec := "trailNil", unfollowed := true, recurses := true, apart := false, narrowed := true }
def TrailNilUptoSaid : Prop := trailNilUptoRow.holds Try.pinned (OpenSpec.upto trailNilSpec)

end Rows
end Go.Proofs.Ytfdfblokbojcfaa

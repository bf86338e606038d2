/-
  No cell of these rows narrows 'for every input' (looked for: loops, veiled, ifaces, maps, wideKeys, modest, calm, conditions, laid).
  DERIVED. THE GIVEN ROWS OF THIS SEAT. 4 by the template 'for every input the law returns true; each argument reads behind the call as it read before'; 0 by the template 'total and deterministic' (their statements: YthhnlkbnphiaoaaTotals.lean).
  GIVEN WITH THE SEED: the statements are not yours to turn. If you find one false, say at which input.
  Laid BY PROGRAM, IN A SANDBOX (cutbox-rows.mjs): the forced cells as the released guide's own fill.sh prints them over the translation 4111f0bf9a68ffdc… (all of the seat's roots in one cut). By AI agents, Wed Nov 11 2026. No macro, syntax, notation, axiom, sorry.
-/
import Derived.Test.YthhnlkbnphiaoaaChecked
import GoSem.Claim
import GoSem.ClaimJoined
import GoSem.ClaimMapViews
import Derived.JoinedTies
import Derived.KernelRfl
namespace Go.Proofs.Ythhnlkbnphiaoaa
/- THE CELL 'sum', in the pinned program and in every row, IS THE sha256 OF THE DUMP (.gsa) THAT YthhnlkbnphiaoaaProg.lean LOADS. Nothing in Lean hashes anything: it is a label: what it is worth is what the hold of that sum in a sandbox is worth. -/
noncomputable def Try.pinned : Pinned := { name := "ythhnlkbnphiaoaa", sum := "4111f0bf9a68ffdcdcab1c7522a722189ab6fb15aa8376046a712e180cb7a7a8", checked := Try.checked }
namespace Rows
def none {H : Type} : Left H := { results := [], args := [] }

/-- 'gantrylaw22.ForestBack': WHATEVER THE INPUT: true; the input reads as it did. -/
def forestBackSpec : ChangeSpec := { name := "forestBack", fn := fun _ => fun
  | [d1, d2, d3, d4, d5] => { results := [.lit (.bool true)], args := [d1, d2, d3, d4, d5] }
  | _ => none }
def forestBackRow : OpenClaim := { program := "ythhnlkbnphiaoaa", sum := "4111f0bf9a68ffdcdcab1c7522a722189ab6fb15aa8376046a712e180cb7a7a8", func := "gantry/gantrylaw22.ForestBack", spec := "forestBack", unfollowed := true, recurses := true, plainKeys := false, apart := false }
def ForestBackSaid : Prop := forestBackRow.holds Try.pinned (OpenSpec.ofChange forestBackSpec)

/-- ITS FALSE NEIGHBOUR: 'it returns false'. Refute it at one input. -/
def forestBackWrong : ChangeSpec := { name := "forestBack", fn := fun _ => fun
  | [d1, d2, d3, d4, d5] => { results := [.lit (.bool false)], args := [d1, d2, d3, d4, d5] }
  | _ => none }
def ForestBackWrongFalsely : Prop := forestBackRow.holds Try.pinned (OpenSpec.ofChange forestBackWrong)

/-- 'gantrylaw22.ForestFirst': WHATEVER THE INPUT: true; the input reads as it did. -/
def forestFirstSpec : ChangeSpec := { name := "forestFirst", fn := fun _ => fun
  | [d1, d2, d3, d4, d5, d6] => { results := [.lit (.bool true)], args := [d1, d2, d3, d4, d5, d6] }
  | _ => none }
def forestFirstRow : OpenClaim := { program := "ythhnlkbnphiaoaa", sum := "4111f0bf9a68ffdcdcab1c7522a722189ab6fb15aa8376046a712e180cb7a7a8", func := "gantry/gantrylaw22.ForestFirst", spec := "forestFirst", unfollowed := true, recurses := true, plainKeys := false, apart := false }
def ForestFirstSaid : Prop := forestFirstRow.holds Try.pinned (OpenSpec.ofChange forestFirstSpec)

/-- ITS FALSE NEIGHBOUR: 'it returns false'. Refute it at one input. -/
def forestFirstWrong : ChangeSpec := { name := "forestFirst", fn := fun _ => fun
  | [d1, d2, d3, d4, d5, d6] => { results := [.lit (.bool false)], args := [d1, d2, d3, d4, d5, d6] }
  | _ => none }
def ForestFirstWrongFalsely : Prop := forestFirstRow.holds Try.pinned (OpenSpec.ofChange forestFirstWrong)

/-- 'gantrylaw22.ForestWays': WHATEVER THE INPUT: true; the input reads as it did. -/
def forestWaysSpec : ChangeSpec := { name := "forestWays", fn := fun _ => fun
  | [d1, d2, d3, d4, d5] => { results := [.lit (.bool true)], args := [d1, d2, d3, d4, d5] }
  | _ => none }
def forestWaysRow : OpenClaim := { program := "ythhnlkbnphiaoaa", sum := "4111f0bf9a68ffdcdcab1c7522a722189ab6fb15aa8376046a712e180cb7a7a8", func := "gantry/gantrylaw22.ForestWays", spec := "forestWays", unfollowed := true, recurses := true, plainKeys := false, apart := false }
def ForestWaysSaid : Prop := forestWaysRow.holds Try.pinned (OpenSpec.ofChange forestWaysSpec)

/-- ITS FALSE NEIGHBOUR: 'it returns false'. Refute it at one input. -/
def forestWaysWrong : ChangeSpec := { name := "forestWays", fn := fun _ => fun
  | [d1, d2, d3, d4, d5] => { results := [.lit (.bool false)], args := [d1, d2, d3, d4, d5] }
  | _ => none }
def ForestWaysWrongFalsely : Prop := forestWaysRow.holds Try.pinned (OpenSpec.ofChange forestWaysWrong)

/-- 'gantrylaw22.ForestCounts': WHATEVER THE INPUT: true; the input reads as it did. -/
def forestCountsSpec : ChangeSpec := { name := "forestCounts", fn := fun _ => fun
  | [d1, d2] => { results := [.lit (.bool true)], args := [d1, d2] }
  | _ => none }
def forestCountsRow : OpenClaim := { program := "ythhnlkbnphiaoaa", sum := "4111f0bf9a68ffdcdcab1c7522a722189ab6fb15aa8376046a712e180cb7a7a8", func := "gantry/gantrylaw22.ForestCounts", spec := "forestCounts", unfollowed := true, recurses := true, plainKeys := false, apart := false }
def ForestCountsSaid : Prop := forestCountsRow.holds Try.pinned (OpenSpec.ofChange forestCountsSpec)

/-- ITS FALSE NEIGHBOUR: 'it returns false'. Refute it at one input. -/
def forestCountsWrong : ChangeSpec := { name := "forestCounts", fn := fun _ => fun
  | [d1, d2] => { results := [.lit (.bool false)], args := [d1, d2] }
  | _ => none }
def ForestCountsWrongFalsely : Prop := forestCountsRow.holds Try.pinned (OpenSpec.ofChange forestCountsWrong)

/- THE SECOND FORM. 'bulk': how many values and letters a reading holds, each counted each time it is reached (what is shared counts as often as it is met; a slice's spare places count too). A statement '..UptoSaid' is the law's where the arguments, and the package variables that the reading takes, are together of bulk at most 1048576: NARROWER than '..Said'. Prove '..Said' where nothing that the law and all that it calls make is longer than what came in: it says more and counts as full. Else prove '..UptoSaid'. A law counts once. -/
mutual
def uptoBulk {H : Type} : DataW H → Nat
  | .lit (.string bytes) => bytes.length + 1
  | .lit _ => 1
  | .nil => 1
  | .ptr d => uptoBulk d + 1
  | .slice elems spare => uptoBulkAll elems + uptoBulkAll spare + 1
  | .agg parts => uptoBulkAll parts + 1
  | .iface _ d => uptoBulk d + 1
  | .map entries => uptoBulkEntries entries + 1
  | .held _ => 1
def uptoBulkAll {H : Type} : List (DataW H) → Nat
  | [] => 0
  | d :: r => uptoBulk d + uptoBulkAll r
def uptoBulkEntries {H : Type} : List (Lit × DataW H) → Nat
  | [] => 0
  | x :: r => uptoBulkEntry x + uptoBulkEntries r
def uptoBulkEntry {H : Type} : Lit × DataW H → Nat
  | (.string bytes, d) => bytes.length + uptoBulk d + 1
  | (_, d) => uptoBulk d + 1
 end
def uptoSmall : (H : Type) → List (DataW H) → Bool := fun _ ds => decide (uptoBulkAll ds ≤ 1048576)
def OpenSpec.upto (s : _root_.Go.ChangeSpec) : _root_.Go.OpenSpec := { _root_.Go.OpenSpec.ofChange s with cond := some uptoSmall }

/-- 'gantrylaw22.ForestBack', WHERE WHAT IT READS IS OF BULK AT MOST 1048576: true; the input reads as it did. -/
def forestBackUptoRow : OpenClaim := { program := "ythhnlkbnphiaoaa", sum := "4111f0bf9a68ffdcdcab1c7522a722189ab6fb15aa8376046a712e180cb7a7a8", func := "gantry/gantrylaw22.ForestBack", spec := "forestBack", unfollowed := true, recurses := true, plainKeys := false, apart := false, narrowed := true }
def ForestBackUptoSaid : Prop := forestBackUptoRow.holds Try.pinned (OpenSpec.upto forestBackSpec)

/-- 'gantrylaw22.ForestFirst', WHERE WHAT IT READS IS OF BULK AT MOST 1048576: true; the input reads as it did. -/
def forestFirstUptoRow : OpenClaim := { program := "ythhnlkbnphiaoaa", sum := "4111f0bf9a68ffdcdcab1c7522a722189ab6fb15aa8376046a712e180cb7a7a8", func := "gantry/gantrylaw22.ForestFirst", spec := "forestFirst", unfollowed := true, recurses := true, plainKeys := false, apart := false, narrowed := true }
def ForestFirstUptoSaid : Prop := forestFirstUptoRow.holds Try.pinned (OpenSpec.upto forestFirstSpec)

/-- 'gantrylaw22.ForestWays', WHERE WHAT IT READS IS OF BULK AT MOST 1048576: true; the input reads as it did. -/
def forestWaysUptoRow : OpenClaim := { program := "ythhnlkbnphiaoaa", sum := "4111f0bf9a68ffdcdcab1c7522a722189ab6fb15aa8376046a712e180cb7a7a8", func := "gantry/gantrylaw22.ForestWays", spec := "forestWays", unfollowed := true, recurses := true, plainKeys := false, apart := false, narrowed := true }
def ForestWaysUptoSaid : Prop := forestWaysUptoRow.holds Try.pinned (OpenSpec.upto forestWaysSpec)

/-- 'gantrylaw22.ForestCounts', WHERE WHAT IT READS IS OF BULK AT MOST 1048576: true; the input reads as it did. -/
def forestCountsUptoRow : OpenClaim := { program := "ythhnlkbnphiaoaa", sum := "4111f0bf9a68ffdcdcab1c7522a722189ab6fb15aa8376046a712e180cb7a7a8", func := "gantry/gantrylaw22.ForestCounts", spec := "forestCounts", unfollowed := true, recurses := true, plainKeys := false, apart := false, narrowed := true }
def ForestCountsUptoSaid : Prop := forestCountsUptoRow.holds Try.pinned (OpenSpec.upto forestCountsSpec)

end Rows
end Go.Proofs.Ythhnlkbnphiaoaa

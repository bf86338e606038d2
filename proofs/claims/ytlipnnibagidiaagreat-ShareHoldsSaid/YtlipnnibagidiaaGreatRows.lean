/-
  NARROWER THAN 'FOR EVERY INPUT', by the rows' own cells (each row's printed sentence says how): ShapeTight: loops · ShapeHolds: loops · ShareHolds: loops.
  DERIVED. THE GIVEN ROWS OF THIS SEAT. 7 by the template 'for every input the law returns true; each argument reads behind the call as it read before'; 0 by the template 'total and deterministic' (their statements: YtlipnnibagidiaaGreatTotals.lean).
  GIVEN WITH THE SEED: the statements are not yours to turn. If you find one false, say at which input.
  Laid BY PROGRAM, IN A SANDBOX (cutbox-rows.mjs): the forced cells as the released guide's own fill.sh prints them over the translation a18124d0c55291d1… (all of the seat's roots in one cut). By AI agents, Wed Nov 11 2026. No macro, syntax, notation, axiom, sorry.
-/
import Derived.Test.YtlipnnibagidiaaGreatChecked
import GoSem.Claim
import GoSem.ClaimJoined
import GoSem.ClaimMapViews
import Derived.JoinedTies
import Derived.KernelRfl
namespace Go.Proofs.YtlipnnibagidiaaGreat
/- THE CELL 'sum', in the pinned program and in every row, IS THE sha256 OF THE DUMP (.gsa) THAT YtlipnnibagidiaaGreatProg.lean LOADS. Nothing in Lean hashes anything: it is a label: what it is worth is what the hold of that sum in a sandbox is worth. -/
noncomputable def Tryz.pinned : Pinned := { name := "ytlipnnibagidiaagreat", sum := "a18124d0c55291d1c77ebc6d073fa0d7ebcce298c1b63768aea17233d07f6a94", checked := Tryz.checked }
namespace Rows
def none {H : Type} : Left H := { results := [], args := [] }

/-- 'gantrylaw14.ShapeTight': WHATEVER THE INPUT: true; the input reads as it did. -/
def shapeTightSpec : ChangeSpec := { name := "shapeTight", fn := fun _ => fun
  | [d1, d2, d3, d4, d5] => { results := [.lit (.bool true)], args := [d1, d2, d3, d4, d5] }
  | _ => none }
def shapeTightRow : OpenClaim := { program := "ytlipnnibagidiaagreat", sum := "a18124d0c55291d1c77ebc6d073fa0d7ebcce298c1b63768aea17233d07f6a94", func := "gantry/gantrylaw14.ShapeTight", spec := "shapeTight", unfollowed := true, recurses := true, loops := true, plainKeys := false, apart := false }
def ShapeTightSaid : Prop := shapeTightRow.holds Tryz.pinned (OpenSpec.ofChange shapeTightSpec)

/-- ITS FALSE NEIGHBOUR: 'it returns false'. Refute it at one input. -/
def shapeTightWrong : ChangeSpec := { name := "shapeTight", fn := fun _ => fun
  | [d1, d2, d3, d4, d5] => { results := [.lit (.bool false)], args := [d1, d2, d3, d4, d5] }
  | _ => none }
def ShapeTightWrongFalsely : Prop := shapeTightRow.holds Tryz.pinned (OpenSpec.ofChange shapeTightWrong)

/-- 'gantrylaw14.ShapeHolds': WHATEVER THE INPUT: true; the input reads as it did. -/
def shapeHoldsSpec : ChangeSpec := { name := "shapeHolds", fn := fun _ => fun
  | [d1, d2, d3, d4] => { results := [.lit (.bool true)], args := [d1, d2, d3, d4] }
  | _ => none }
def shapeHoldsRow : OpenClaim := { program := "ytlipnnibagidiaagreat", sum := "a18124d0c55291d1c77ebc6d073fa0d7ebcce298c1b63768aea17233d07f6a94", func := "gantry/gantrylaw14.ShapeHolds", spec := "shapeHolds", unfollowed := true, recurses := true, loops := true, plainKeys := false, apart := false }
def ShapeHoldsSaid : Prop := shapeHoldsRow.holds Tryz.pinned (OpenSpec.ofChange shapeHoldsSpec)

/-- ITS FALSE NEIGHBOUR: 'it returns false'. Refute it at one input. -/
def shapeHoldsWrong : ChangeSpec := { name := "shapeHolds", fn := fun _ => fun
  | [d1, d2, d3, d4] => { results := [.lit (.bool false)], args := [d1, d2, d3, d4] }
  | _ => none }
def ShapeHoldsWrongFalsely : Prop := shapeHoldsRow.holds Tryz.pinned (OpenSpec.ofChange shapeHoldsWrong)

/-- 'gantrylaw14.ShapeNames': WHATEVER THE INPUT: true; the input reads as it did. -/
def shapeNamesSpec : ChangeSpec := { name := "shapeNames", fn := fun _ => fun
  | [d1, d2] => { results := [.lit (.bool true)], args := [d1, d2] }
  | _ => none }
def shapeNamesRow : OpenClaim := { program := "ytlipnnibagidiaagreat", sum := "a18124d0c55291d1c77ebc6d073fa0d7ebcce298c1b63768aea17233d07f6a94", func := "gantry/gantrylaw14.ShapeNames", spec := "shapeNames", unfollowed := true, recurses := true, plainKeys := false, apart := false }
def ShapeNamesSaid : Prop := shapeNamesRow.holds Tryz.pinned (OpenSpec.ofChange shapeNamesSpec)

/-- ITS FALSE NEIGHBOUR: 'it returns false'. Refute it at one input. -/
def shapeNamesWrong : ChangeSpec := { name := "shapeNames", fn := fun _ => fun
  | [d1, d2] => { results := [.lit (.bool false)], args := [d1, d2] }
  | _ => none }
def ShapeNamesWrongFalsely : Prop := shapeNamesRow.holds Tryz.pinned (OpenSpec.ofChange shapeNamesWrong)

/-- 'gantrylaw26.ShareTwice': WHATEVER THE INPUT: true; the input reads as it did. -/
def shareTwiceSpec : ChangeSpec := { name := "shareTwice", fn := fun _ => fun
  | [d1, d2] => { results := [.lit (.bool true)], args := [d1, d2] }
  | _ => none }
def shareTwiceRow : OpenClaim := { program := "ytlipnnibagidiaagreat", sum := "a18124d0c55291d1c77ebc6d073fa0d7ebcce298c1b63768aea17233d07f6a94", func := "gantry/gantrylaw26.ShareTwice", spec := "shareTwice", unfollowed := true, recurses := true, plainKeys := false, apart := false }
def ShareTwiceSaid : Prop := shareTwiceRow.holds Tryz.pinned (OpenSpec.ofChange shareTwiceSpec)

/-- ITS FALSE NEIGHBOUR: 'it returns false'. Refute it at one input. -/
def shareTwiceWrong : ChangeSpec := { name := "shareTwice", fn := fun _ => fun
  | [d1, d2] => { results := [.lit (.bool false)], args := [d1, d2] }
  | _ => none }
def ShareTwiceWrongFalsely : Prop := shareTwiceRow.holds Tryz.pinned (OpenSpec.ofChange shareTwiceWrong)

/-- 'gantrylaw26.ShareHolds': WHATEVER THE INPUT: true; the input reads as it did. -/
def shareHoldsSpec : ChangeSpec := { name := "shareHolds", fn := fun _ => fun
  | [d1, d2, d3, d4] => { results := [.lit (.bool true)], args := [d1, d2, d3, d4] }
  | _ => none }
def shareHoldsRow : OpenClaim := { program := "ytlipnnibagidiaagreat", sum := "a18124d0c55291d1c77ebc6d073fa0d7ebcce298c1b63768aea17233d07f6a94", func := "gantry/gantrylaw26.ShareHolds", spec := "shareHolds", unfollowed := true, recurses := true, loops := true, plainKeys := false, apart := false }
def ShareHoldsSaid : Prop := shareHoldsRow.holds Tryz.pinned (OpenSpec.ofChange shareHoldsSpec)

/-- ITS FALSE NEIGHBOUR: 'it returns false'. Refute it at one input. -/
def shareHoldsWrong : ChangeSpec := { name := "shareHolds", fn := fun _ => fun
  | [d1, d2, d3, d4] => { results := [.lit (.bool false)], args := [d1, d2, d3, d4] }
  | _ => none }
def ShareHoldsWrongFalsely : Prop := shareHoldsRow.holds Tryz.pinned (OpenSpec.ofChange shareHoldsWrong)

/-- 'gantrylaw26.ShareNumbers': WHATEVER THE INPUT: true; the input reads as it did. -/
def shareNumbersSpec : ChangeSpec := { name := "shareNumbers", fn := fun _ => fun
  | [d1, d2, d3] => { results := [.lit (.bool true)], args := [d1, d2, d3] }
  | _ => none }
def shareNumbersRow : OpenClaim := { program := "ytlipnnibagidiaagreat", sum := "a18124d0c55291d1c77ebc6d073fa0d7ebcce298c1b63768aea17233d07f6a94", func := "gantry/gantrylaw26.ShareNumbers", spec := "shareNumbers", unfollowed := true, recurses := true, plainKeys := false, apart := false }
def ShareNumbersSaid : Prop := shareNumbersRow.holds Tryz.pinned (OpenSpec.ofChange shareNumbersSpec)

/-- ITS FALSE NEIGHBOUR: 'it returns false'. Refute it at one input. -/
def shareNumbersWrong : ChangeSpec := { name := "shareNumbers", fn := fun _ => fun
  | [d1, d2, d3] => { results := [.lit (.bool false)], args := [d1, d2, d3] }
  | _ => none }
def ShareNumbersWrongFalsely : Prop := shareNumbersRow.holds Tryz.pinned (OpenSpec.ofChange shareNumbersWrong)

/-- 'gantrylaw26.ShareCounts': WHATEVER THE INPUT: true; the input reads as it did. -/
def shareCountsSpec : ChangeSpec := { name := "shareCounts", fn := fun _ => fun
  | [d1, d2] => { results := [.lit (.bool true)], args := [d1, d2] }
  | _ => none }
def shareCountsRow : OpenClaim := { program := "ytlipnnibagidiaagreat", sum := "a18124d0c55291d1c77ebc6d073fa0d7ebcce298c1b63768aea17233d07f6a94", func := "gantry/gantrylaw26.ShareCounts", spec := "shareCounts", unfollowed := true, recurses := true, plainKeys := false, apart := false }
def ShareCountsSaid : Prop := shareCountsRow.holds Tryz.pinned (OpenSpec.ofChange shareCountsSpec)

/-- ITS FALSE NEIGHBOUR: 'it returns false'. Refute it at one input. -/
def shareCountsWrong : ChangeSpec := { name := "shareCounts", fn := fun _ => fun
  | [d1, d2] => { results := [.lit (.bool false)], args := [d1, d2] }
  | _ => none }
def ShareCountsWrongFalsely : Prop := shareCountsRow.holds Tryz.pinned (OpenSpec.ofChange shareCountsWrong)

/- THE SECOND FORM. 'bulk': how many values and letters a reading holds, each counted each time it is reached (what is shared counts as often as it is met; a slice's spare places count too). A statement '..UptoSaid' is the law's where the arguments, and the package variables that the reading takes, are together of bulk at most 1048576: NARROWER than '..Said'. Prove '..Said' where nothing that the law and all that it calls make is longer than what came in: it says more and counts as full. Else prove '..UptoSaid'. A law counts once. -/
mutual
def uptoBulk {H : Type} : DataW H → Nat
  | .lit (.string bytes) => bytes.length + 1
  | .lit _ => 1
  | .nil => 1
  | .ptr d => uptoBulk d + 1
  | .slice elems spare => uptoBulkAll elems + uptoBulkAll spare + 1
  | .agg parts => uptoBulkAll parts + 1
  | .iface _ d => uptoBulk d + 1
  | .map entries => uptoBulkEntries entries + 1
  | .held _ => 1
def uptoBulkAll {H : Type} : List (DataW H) → Nat
  | [] => 0
  | d :: r => uptoBulk d + uptoBulkAll r
def uptoBulkEntries {H : Type} : List (Lit × DataW H) → Nat
  | [] => 0
  | x :: r => uptoBulkEntry x + uptoBulkEntries r
def uptoBulkEntry {H : Type} : Lit × DataW H → Nat
  | (.string bytes, d) => bytes.length + uptoBulk d + 1
  | (_, d) => uptoBulk d + 1
 end
def uptoSmall : (H : Type) → List (DataW H) → Bool := fun _ ds => decide (uptoBulkAll ds ≤ 1048576)
def OpenSpec.upto (s : _root_.Go.ChangeSpec) : _root_.Go.OpenSpec := { _root_.Go.OpenSpec.ofChange s with cond := some uptoSmall }

/-- 'gantrylaw14.ShapeTight', WHERE WHAT IT READS IS OF BULK AT MOST 1048576: true; the input reads as it did. -/
def shapeTightUptoRow : OpenClaim := { program := "ytlipnnibagidiaagreat", sum := "a18124d0c55291d1c77ebc6d073fa0d7ebcce298c1b63768aea17233d07f6a94", func := "gantry/gantrylaw14.ShapeTight", spec := "shapeTight", unfollowed := true, recurses := true, loops := true, plainKeys := false, apart := false, narrowed := true }
def ShapeTightUptoSaid : Prop := shapeTightUptoRow.holds Tryz.pinned (OpenSpec.upto shapeTightSpec)

/-- 'gantrylaw14.ShapeHolds', WHERE WHAT IT READS IS OF BULK AT MOST 1048576: true; the input reads as it did. -/
def shapeHoldsUptoRow : OpenClaim := { program := "ytlipnnibagidiaagreat", sum := "a18124d0c55291d1c77ebc6d073fa0d7ebcce298c1b63768aea17233d07f6a94", func := "gantry/gantrylaw14.ShapeHolds", spec := "shapeHolds", unfollowed := true, recurses := true, loops := true, plainKeys := false, apart := false, narrowed := true }
def ShapeHoldsUptoSaid : Prop := shapeHoldsUptoRow.holds Tryz.pinned (OpenSpec.upto shapeHoldsSpec)

/-- 'gantrylaw14.ShapeNames', WHERE WHAT IT READS IS OF BULK AT MOST 1048576: true; the input reads as it did. -/
def shapeNamesUptoRow : OpenClaim := { program := "ytlipnnibagidiaagreat", sum := "a18124d0c55291d1c77ebc6d073fa0d7ebcce298c1b63768aea17233d07f6a94", func := "gantry/gantrylaw14.ShapeNames", spec := "shapeNames", unfollowed := true, recurses := true, plainKeys := false, apart := false, narrowed := true }
def ShapeNamesUptoSaid : Prop := shapeNamesUptoRow.holds Tryz.pinned (OpenSpec.upto shapeNamesSpec)

/-- 'gantrylaw26.ShareTwice', WHERE WHAT IT READS IS OF BULK AT MOST 1048576: true; the input reads as it did. -/
def shareTwiceUptoRow : OpenClaim := { program := "ytlipnnibagidiaagreat", sum := "a18124d0c55291d1c77ebc6d073fa0d7ebcce298c1b63768aea17233d07f6a94", func := "gantry/gantrylaw26.ShareTwice", spec := "shareTwice", unfollowed := true, recurses := true, plainKeys := false, apart := false, narrowed := true }
def ShareTwiceUptoSaid : Prop := shareTwiceUptoRow.holds Tryz.pinned (OpenSpec.upto shareTwiceSpec)

/-- 'gantrylaw26.ShareHolds', WHERE WHAT IT READS IS OF BULK AT MOST 1048576: true; the input reads as it did. -/
def shareHoldsUptoRow : OpenClaim := { program := "ytlipnnibagidiaagreat", sum := "a18124d0c55291d1c77ebc6d073fa0d7ebcce298c1b63768aea17233d07f6a94", func := "gantry/gantrylaw26.ShareHolds", spec := "shareHolds", unfollowed := true, recurses := true, loops := true, plainKeys := false, apart := false, narrowed := true }
def ShareHoldsUptoSaid : Prop := shareHoldsUptoRow.holds Tryz.pinned (OpenSpec.upto shareHoldsSpec)

/-- 'gantrylaw26.ShareNumbers', WHERE WHAT IT READS IS OF BULK AT MOST 1048576: true; the input reads as it did. -/
def shareNumbersUptoRow : OpenClaim := { program := "ytlipnnibagidiaagreat", sum := "a18124d0c55291d1c77ebc6d073fa0d7ebcce298c1b63768aea17233d07f6a94", func := "gantry/gantrylaw26.ShareNumbers", spec := "shareNumbers", unfollowed := true, recurses := true, plainKeys := false, apart := false, narrowed := true }
def ShareNumbersUptoSaid : Prop := shareNumbersUptoRow.holds Tryz.pinned (OpenSpec.upto shareNumbersSpec)

/-- 'gantrylaw26.ShareCounts', WHERE WHAT IT READS IS OF BULK AT MOST 1048576: true; the input reads as it did. -/
def shareCountsUptoRow : OpenClaim := { program := "ytlipnnibagidiaagreat", sum := "a18124d0c55291d1c77ebc6d073fa0d7ebcce298c1b63768aea17233d07f6a94", func := "gantry/gantrylaw26.ShareCounts", spec := "shareCounts", unfollowed := true, recurses := true, plainKeys := false, apart := false, narrowed := true }
def ShareCountsUptoSaid : Prop := shareCountsUptoRow.holds Tryz.pinned (OpenSpec.upto shareCountsSpec)

end Rows
end Go.Proofs.YtlipnnibagidiaaGreat

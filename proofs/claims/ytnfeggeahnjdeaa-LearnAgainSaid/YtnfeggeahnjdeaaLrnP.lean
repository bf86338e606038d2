/- What is learnt, on lists. -/
import Derived.Test.YtnfeggeahnjdeaaClJ
import Derived.Test.YtnfeggeahnjdeaaTrailL
namespace Go.Proofs.Ytnfeggeahnjdeaa

/-- The level of a literal's node. -/
def levOf (M : Tr) (x : Int) : Int := levelOf M.L (x / 2)
def isC (c : List Int) : Bool := c == makeM c
/-- The greatest level of literals that are all false. -/
def levelGo (M : Tr) : List Int → Int → Option Int
  | [], n => some n
  | x :: r, n => if valOf M.L x = 2 then levelGo M r (max n (levOf M x)) else none
def levelM (M : Tr) (c : List Int) : Option Int := if isC c = true then levelGo M c 0 else none
def cntM (M : Tr) (c : List Int) (lv : Int) : Nat := c.countP fun x => levOf M x == lv
def backGo (M : Tr) (lv : Int) : List Int → Int → Int
  | [], n => n
  | x :: r, n => backGo M lv r (if levOf M x < lv then max n (levOf M x) else n)
def backN (M : Tr) (c : List Int) (lv : Int) : Int := backGo M lv c 0
def litsM (M : Tr) : List Int := M.L.map Pt.lit
/-- Where a literal stands. -/
def posOf (ls : List Int) (x : Int) : Option Nat := ls.findIdx? fun y => y == x
def ahead (M : Tr) (kp : Nat) (x : Int) : Bool := match posOf (litsM M) (negM x) with
  | some k => decide (k < kp)
  | none => false
def mayRes (M : Tr) (kp : Nat) (put : Int) (cl : List Int) : Bool := (cl.all fun x => x == put || ahead M kp x) && decide (put ∈ cl)
def resolvesM (M : Tr) (ls : List (List Int)) (kp : Nat) (put : Int) (c : List Int) : Option (List Int × Int) :=
  if reasonOf M.L (put / 2) < 0 then none
  else match ls[(reasonOf M.L (put / 2)).toNat]? with
    | none => none
    | some cl => if isC cl = true then (if mayRes M kp put cl = true then some (resM cl c put, reasonOf M.L (put / 2)) else none) else none
def goM (M : Tr) (ls : List (List Int)) (lv : Int) : Nat → List Int → List Int → Option (List Int × List Int)
  | 0, c, ch => some (c, ch)
  | k + 1, c, ch =>
    if cntM M c lv = 1 then some (c, ch)
    else match (litsM M)[k]? with
      | none => some (c, ch)
      | some put =>
        if decide (negM put ∈ c) && (levOf M put == lv) then
          (match resolvesM M ls k put c with
           | none => none
           | some r => goM M ls lv k r.1 (ch ++ [r.2]))
        else goM M ls lv k c ch
def learnM (M : Tr) (ls : List (List Int)) (c : List Int) : Option (List Int × Int × List Int) :=
  match levelM M c with
  | none => none
  | some lv => if lv = 0 then some ([], 0, []) else match goM M ls lv M.L.length c [] with
    | none => none
    | some r => some (r.1, backN M r.1 lv, r.2)
end Go.Proofs.Ytnfeggeahnjdeaa

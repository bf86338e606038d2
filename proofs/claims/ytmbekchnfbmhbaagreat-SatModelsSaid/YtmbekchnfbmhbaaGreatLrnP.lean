/- A map by what it holds at each key. -/
import Derived.Test.YtmbekchnfbmhbaaGreatModel
import Derived.Maps.Own
import Derived.Maps.OwnOps
import Derived.Maps.OwnSet
import Derived.Maps.Views
import Derived.Lib.SlicesCompact
import Derived.Test.YtmbekchnfbmhbaaGreatClJ
import Derived.Test.YtmbekchnfbmhbaaGreatTrailL
namespace Go.Proofs.YtmbekchnfbmhbaaGreat
open Go.ChangeMaps Go.RowKit
open Go.Maps (Keyed)

def heldV (v : Value) : Option (DataW Value × List MemPlace) := some (.held v, [])
/-- Block b is a map of at most n entries; at each key it holds what f says. -/
def MapAt (P : Program) (k : TypeId) (w : World) (b n : Nat) (f : Value → Option Value) : Prop :=
  ∃ D, w.ownsMap P k heldV b n D ∧ ∀ key kl, keyOf P k key = some kl → ∀ zd, D.atKey kl zd = match f key with | some v => .held v | none => zd

section
variable {P : Program} {k : TypeId} {w w' : World} {b n : Nat} {f : Value → Option Value}
theorem MapAt.lt (h : MapAt P k w b n f) : b < w.heap.size := by
  obtain ⟨D, h, _⟩ := h
  exact h.lt
theorem MapAt.obj (h : MapAt P k w b n f) : ∃ es clock, w.heap[b]? = some (.map es clock) := by
  obtain ⟨D, ⟨es, clock, hb, _⟩, _⟩ := h
  exact ⟨es, clock, hb⟩
theorem MapAt.same (h : MapAt P k w b n f) (hb : w'.heap[b]? = w.heap[b]?) : MapAt P k w' b n f := by
  obtain ⟨D, ⟨es, clock, h1, h2⟩, h3⟩ := h
  exact ⟨D, ⟨es, clock, hb.trans h1, h2⟩, h3⟩
theorem MapAt.kept {S : Nat → Prop} (h : MapAt P k w b n f) (hk : Kept S w w') (hn : ¬ S b) : MapAt P k w' b n f := h.same (hk.block b h.lt hn)
theorem MapAt.alloc (h : MapAt P k w b n f) (o : Obj) : MapAt P k (w.alloc o) b n f := h.same (Below.heap_alloc w o b h.lt)
theorem MapAt.drew (h : MapAt P k w b n f) : MapAt P k w.drew b n f := h
theorem MapAt.drewN (h : MapAt P k w b n f) (i : Nat) : MapAt P k (w.drewN i) b n f := h
theorem MapAt.far (h : MapAt P k w b n f) {p : Addr} (hp : b ≠ p.block) (u : Value) : MapAt P k (w.setCell p u) b n f := h.same (Below.heap_setCell w p u b hp)
theorem MapAt.grown {row : Option Nat} (h : MapAt P k w b n f) (hg : w.grownBy w' row) (hn : some b ≠ row) : MapAt P k w' b n f := h.same (hg.block b h.lt hn)
theorem MapAt.below {B : Nat} (h : MapAt P k w b n f) (hb : Below B w w') (hl : b < B) : MapAt P k w' b n f := h.same (hb.block b hl)
theorem MapAt.made (P : Program) (k : TypeId) (w : World) : MapAt P k (w.alloc (.map #[] 0)) w.heap.size 0 (fun _ => none) :=
  ⟨_, World.ownsMap_made w P k heldV, fun _ _ _ _ => rfl⟩
theorem MapAt.mono (h : MapAt P k w b n f) {m : Nat} (hm : n ≤ m) : MapAt P k w b m f := by
  obtain ⟨D, h1, h2⟩ := h
  exact ⟨D, h1.mono hm, h2⟩
theorem MapAt.congr (h : MapAt P k w b n f) {g : Value → Option Value} (hg : ∀ key kl, keyOf P k key = some kl → g key = f key) : MapAt P k w b n g := by
  obtain ⟨D, h1, h2⟩ := h
  exact ⟨D, h1, fun key kl hkey zd => by rw [hg key kl hkey]; exact h2 key kl hkey zd⟩

/-- A look-up, as an equation. -/
theorem MapAt.look {t e : TypeId} (h : MapAt P k w b n f) (K : Keyed P k) (ht : P.underlying t = some (.map k e)) {z : Value} (hz : (zeroValue e).run P w = .ok z w) {key : Value} {kl : Lit} (hkey : keyOf P k key = some kl) (c : Bool) :
    (Instr.lookup t (.map (some b)) key c).run P w = .ok (match f key with | some v => (if c then .tuple #[v, .bool true] else v) | none => (if c then .tuple #[z, .bool false] else z)) w := by
  obtain ⟨D, ⟨es, clock, hb, F, _, rfl⟩, hf⟩ := h
  have hf0 := hf key kl hkey .nil
  rcases Go.Maps.fit_look c K ht hz hb F hkey with ⟨hrun, _, hat⟩ | ⟨e0, y, _, _, hrun, hRv, hat, _⟩
  · rw [hat] at hf0
    cases hfk : f key with
    | none => exact hrun
    | some v => rw [hfk] at hf0; cases hf0
  · rw [hat] at hf0
    injection hRv with hRv
    subst hRv
    cases hfk : f key with
    | none => rw [hfk] at hf0; cases hf0
    | some v =>
      rw [hfk] at hf0
      injection hf0 with hf0
      subst hf0
      exact hrun
/-- A store. -/
theorem MapAt.store {t e : TypeId} (h : MapAt P k w b n f) (K : Keyed P k) (ht : P.underlying t = some (.map k e)) (hn : n < maxLen) {key : Value} {kl : Lit} (hkey : keyOf P k key = some kl) (val : Value) {g : Value → Option Value}
    (hg : g key = some val) (hg' : ∀ x, x ≠ key → g x = f x) :
    ∃ w', (Instr.mapUpdate t (.map (some b)) key val).run P w = .ok () w' ∧ MapAt P k w' b (n + 1) g ∧ w.grownBy w' (some b) := by
  obtain ⟨D, h1, hf⟩ := h
  obtain ⟨w', hrun, h2, hgr⟩ := h1.update K ht hn hkey (d := .held val) (ps := []) rfl
  refine ⟨w', hrun, ⟨_, h2, fun x xl hx zd => ?_⟩, hgr⟩
  by_cases hxk : x = key
  · subst hxk
    rw [hkey] at hx
    injection hx with hx
    subst hx
    rw [hg, Go.Maps.atKey_put_same h1.isMap (K.key hkey)]
  · have hne : xl ≠ kl := by
      rintro rfl
      exact hxk (K.inj hx hkey)
    rw [hg' x hxk, Go.Maps.atKey_put_other hne, hf x xl hx]
/-- All is struck. -/
theorem MapAt.cleared {t e : TypeId} (h : MapAt P k w b n f) (ht : P.underlying t = some (.map k e)) (ty : TypeId) :
    ∃ w', (Builtin.clear_ #[t] ty #[.map (some b)]).run P w = .ok (.tuple #[]) w' ∧ MapAt P k w' b 0 (fun _ => none) ∧ w.grownBy w' (some b) := by
  obtain ⟨D, ⟨es, clock, hb, F, _, rfl⟩, hf⟩ := h
  refine ⟨setBlock w b (.map #[] clock), by simp [Builtin.clear_, run_underlying ht, MapKept.run_getObj_map hb, MapKept.run_setObj_map _ hb, Result.andThen]; rfl, ?_, ⟨rfl, rfl, rfl, by simp [setBlock], fun i _ hi => heap_setBlock_other hb _ (fun e => hi (by rw [e]))⟩⟩
  exact ⟨_, ⟨#[], clock, heap_setBlock_same hb _, ⟨by simp, MapKept.stamped_empty _, by simp⟩, Nat.le_refl _, rfl⟩, fun _ _ _ _ => rfl⟩
end
end Go.Proofs.YtmbekchnfbmhbaaGreat

/- What is made of literals: in order, each once, just those that are not below 0. -/
namespace Go.Proofs.YtmbekchnfbmhbaaGreat
open Go.Lib

theorem keeps_iff (d : Array Int) (j : Nat) : keeps d j = true ↔ j = 0 ∨ d[j]! ≠ d[j - 1]! := by
  unfold keeps
  simp

theorem get_le {zs : List Int} (h : zs.Pairwise (· ≤ ·)) {i j : Nat} (hij : i ≤ j) (hj : j < zs.length) : zs[i]'(by omega) ≤ zs[j] := by
  rcases Nat.lt_or_ge i j with h1 | h1
  · exact List.pairwise_iff_getElem.1 h i j (by omega) hj h1
  · obtain rfl : i = j := by omega
    exact Int.le_refl _

theorem compact_lt {zs : List Int} (h : zs.Pairwise (· ≤ ·)) : (compact zs).Pairwise (· < ·) := by
  unfold compact compactUpTo
  rw [List.pairwise_map, List.pairwise_filter]
  refine List.Pairwise.imp_of_mem ?_ (List.pairwise_lt_range (n := zs.length))
  intro i j hi hj hij _ hk
  have hj' := List.mem_range.1 hj
  have hi' := List.mem_range.1 hi
  rcases (keeps_iff _ _).1 hk with h0 | h0
  · omega
  · have a1 := get_le h (show i ≤ j - 1 by omega) (show j - 1 < zs.length by omega)
    have a2 := get_le h (show j - 1 ≤ j by omega) hj'
    have e1 : zs.toArray[j]! = zs[j] := by simp [getElem!_pos, hj']
    have e2 : zs.toArray[j - 1]! = zs[j - 1] := by simp [getElem!_pos, show j - 1 < zs.length by omega]
    have e3 : zs.toArray[i]! = zs[i] := by simp [getElem!_pos, hi']
    rw [e1, e2] at h0
    show zs.toArray[i]! < zs.toArray[j]!
    rw [e1, e3]
    omega

theorem mem_compact {zs : List Int} (x : Int) : x ∈ compact zs ↔ x ∈ zs := by
  unfold compact compactUpTo
  rw [List.mem_map]
  constructor
  · rintro ⟨j, hj, rfl⟩
    have hj' := List.mem_range.1 (List.mem_filter.1 hj).1
    have e1 : zs.toArray[j]! = zs[j] := by simp [getElem!_pos, hj']
    rw [e1]
    exact List.getElem_mem hj'
  · intro hx
    have key : ∀ i : Nat, ∀ h : i < zs.length, zs[i] = x → ∃ j, j ∈ (List.range zs.length).filter (keeps zs.toArray) ∧ zs.toArray[j]! = x := by
      intro i
      induction i with
      | zero =>
        intro h hx
        refine ⟨0, List.mem_filter.2 ⟨List.mem_range.2 h, (keeps_iff _ _).2 (.inl rfl)⟩, ?_⟩
        rw [show zs.toArray[0]! = zs[0] by simp [getElem!_pos, h], hx]
      | succ i ih =>
        intro h hx
        by_cases he : zs[i] = x
        · exact ih (by omega) he
        · have e1 : zs.toArray[i + 1]! = zs[i + 1] := by simp [getElem!_pos, h]
          have e2 : zs.toArray[i + 1 - 1]! = zs[i] := by simp [getElem!_pos, show i < zs.length by omega]
          refine ⟨i + 1, List.mem_filter.2 ⟨List.mem_range.2 h, (keeps_iff _ _).2 (.inr ?_)⟩, ?_⟩
          · rw [e1, e2, hx]
            exact fun e => he e.symm
          · rw [e1, hx]
    obtain ⟨i, hi, e⟩ := List.mem_iff_getElem.1 hx
    exact key i hi e

/-- In order, each once. -/
def Ord (l : List Int) : Prop := l.Pairwise (· < ·)

theorem ord_ext : ∀ {l m : List Int}, Ord l → Ord m → (∀ x, x ∈ l ↔ x ∈ m) → l = m
  | [], [], _, _, _ => rfl
  | [], y :: m, _, _, h => absurd ((h y).2 List.mem_cons_self) (by simp)
  | x :: l, [], _, _, h => absurd ((h x).1 List.mem_cons_self) (by simp)
  | x :: l, y :: m, hl, hm, h => by
    obtain ⟨a1, a2⟩ := List.pairwise_cons.1 hl
    obtain ⟨b1, b2⟩ := List.pairwise_cons.1 hm
    have e : x = y := by
      rcases List.mem_cons.1 ((h x).1 List.mem_cons_self) with e | e
      · exact e
      · rcases List.mem_cons.1 ((h y).2 List.mem_cons_self) with e' | e'
        · exact e'.symm
        · have := a1 y e'; have := b1 x e; omega
    subst e
    refine congrArg (x :: ·) (ord_ext a2 b2 fun z => ?_)
    constructor
    · intro hz
      rcases List.mem_cons.1 ((h z).1 (List.mem_cons_of_mem _ hz)) with e | e
      · have := a1 z hz; omega
      · exact e
    · intro hz
      rcases List.mem_cons.1 ((h z).2 (List.mem_cons_of_mem _ hz)) with e | e
      · have := b1 z hz; omega
      · exact e

theorem made_ord (l : List Int) : Ord (compact (l.mergeSort fun x y => decide (x ≤ y))) := by
  refine compact_lt ?_
  have h := List.pairwise_mergeSort (le := fun x y : Int => decide (x ≤ y)) (fun a b c h1 h2 => by simp at *; omega) (fun a b => by simp; omega) l
  exact h.imp fun h => by simpa using h
theorem made_mem (l : List Int) (x : Int) : x ∈ compact (l.mergeSort fun x y => decide (x ≤ y)) ↔ x ∈ l := by
  rw [mem_compact, List.mem_mergeSort]
end Go.Proofs.YtmbekchnfbmhbaaGreat

/- What is learnt, on lists. -/
namespace Go.Proofs.YtmbekchnfbmhbaaGreat

/-- The level of a literal's node. -/
def levOf (M : Tr) (x : Int) : Int := levelOf M.L (x / 2)
def isC (c : List Int) : Bool := c == makeM c
/-- The greatest level of literals that are all false. -/
def levelGo (M : Tr) : List Int → Int → Option Int
  | [], n => some n
  | x :: r, n => if valOf M.L x = 2 then levelGo M r (max n (levOf M x)) else none
def levelM (M : Tr) (c : List Int) : Option Int := if isC c = true then levelGo M c 0 else none
def cntM (M : Tr) (c : List Int) (lv : Int) : Nat := c.countP fun x => levOf M x == lv
def backGo (M : Tr) (lv : Int) : List Int → Int → Int
  | [], n => n
  | x :: r, n => backGo M lv r (if levOf M x < lv then max n (levOf M x) else n)
def backN (M : Tr) (c : List Int) (lv : Int) : Int := backGo M lv c 0
def litsM (M : Tr) : List Int := M.L.map Pt.lit
/-- Where a literal stands. -/
def posOf (ls : List Int) (x : Int) : Option Nat := ls.findIdx? fun y => y == x
def ahead (M : Tr) (kp : Nat) (x : Int) : Bool := match posOf (litsM M) (negM x) with
  | some k => decide (k < kp)
  | none => false
def mayRes (M : Tr) (kp : Nat) (put : Int) (cl : List Int) : Bool := (cl.all fun x => x == put || ahead M kp x) && decide (put ∈ cl)
def resolvesM (M : Tr) (ls : List (List Int)) (kp : Nat) (put : Int) (c : List Int) : Option (List Int × Int) :=
  if reasonOf M.L (put / 2) < 0 then none
  else match ls[(reasonOf M.L (put / 2)).toNat]? with
    | none => none
    | some cl => if isC cl = true then (if mayRes M kp put cl = true then some (resM cl c put, reasonOf M.L (put / 2)) else none) else none
def goM (M : Tr) (ls : List (List Int)) (lv : Int) : Nat → List Int → List Int → Option (List Int × List Int)
  | 0, c, ch => some (c, ch)
  | k + 1, c, ch =>
    if cntM M c lv = 1 then some (c, ch)
    else match (litsM M)[k]? with
      | none => some (c, ch)
      | some put =>
        if decide (negM put ∈ c) && (levOf M put == lv) then
          (match resolvesM M ls k put c with
           | none => none
           | some r => goM M ls lv k r.1 (ch ++ [r.2]))
        else goM M ls lv k c ch
def learnM (M : Tr) (ls : List (List Int)) (c : List Int) : Option (List Int × Int × List Int) :=
  match levelM M c with
  | none => none
  | some lv => if lv = 0 then some ([], 0, []) else match goM M ls lv M.L.length c [] with
    | none => none
    | some r => some (r.1, backN M r.1 lv, r.2)
end Go.Proofs.YtmbekchnfbmhbaaGreat

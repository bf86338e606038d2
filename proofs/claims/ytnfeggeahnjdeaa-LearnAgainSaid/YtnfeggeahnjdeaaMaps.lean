/- A map by what it holds at each key. -/
import Derived.Test.YtnfeggeahnjdeaaBase
import Derived.Maps.Own
import Derived.Maps.OwnOps
import Derived.Maps.OwnSet
import Derived.Maps.Views
namespace Go.Proofs.Ytnfeggeahnjdeaa
open Go.ChangeMaps Go.RowKit
open Go.Maps (Keyed)

def heldV (v : Value) : Option (DataW Value × List MemPlace) := some (.held v, [])
/-- Block b is a map of at most n entries; at each key it holds what f says. -/
def MapAt (P : Program) (k : TypeId) (w : World) (b n : Nat) (f : Value → Option Value) : Prop :=
  ∃ D, w.ownsMap P k heldV b n D ∧ ∀ key kl, keyOf P k key = some kl → ∀ zd, D.atKey kl zd = match f key with | some v => .held v | none => zd

section
variable {P : Program} {k : TypeId} {w w' : World} {b n : Nat} {f : Value → Option Value}
theorem MapAt.lt (h : MapAt P k w b n f) : b < w.heap.size := by
  obtain ⟨D, h, _⟩ := h
  exact h.lt
theorem MapAt.obj (h : MapAt P k w b n f) : ∃ es clock, w.heap[b]? = some (.map es clock) := by
  obtain ⟨D, ⟨es, clock, hb, _⟩, _⟩ := h
  exact ⟨es, clock, hb⟩
theorem MapAt.same (h : MapAt P k w b n f) (hb : w'.heap[b]? = w.heap[b]?) : MapAt P k w' b n f := by
  obtain ⟨D, ⟨es, clock, h1, h2⟩, h3⟩ := h
  exact ⟨D, ⟨es, clock, hb.trans h1, h2⟩, h3⟩
theorem MapAt.kept {S : Nat → Prop} (h : MapAt P k w b n f) (hk : Kept S w w') (hn : ¬ S b) : MapAt P k w' b n f := h.same (hk.block b h.lt hn)
theorem MapAt.alloc (h : MapAt P k w b n f) (o : Obj) : MapAt P k (w.alloc o) b n f := h.same (Below.heap_alloc w o b h.lt)
theorem MapAt.drew (h : MapAt P k w b n f) : MapAt P k w.drew b n f := h
theorem MapAt.drewN (h : MapAt P k w b n f) (i : Nat) : MapAt P k (w.drewN i) b n f := h
theorem MapAt.far (h : MapAt P k w b n f) {p : Addr} (hp : b ≠ p.block) (u : Value) : MapAt P k (w.setCell p u) b n f := h.same (Below.heap_setCell w p u b hp)
theorem MapAt.grown {row : Option Nat} (h : MapAt P k w b n f) (hg : w.grownBy w' row) (hn : some b ≠ row) : MapAt P k w' b n f := h.same (hg.block b h.lt hn)
theorem MapAt.below {B : Nat} (h : MapAt P k w b n f) (hb : Below B w w') (hl : b < B) : MapAt P k w' b n f := h.same (hb.block b hl)
theorem MapAt.made (P : Program) (k : TypeId) (w : World) : MapAt P k (w.alloc (.map #[] 0)) w.heap.size 0 (fun _ => none) :=
  ⟨_, World.ownsMap_made w P k heldV, fun _ _ _ _ => rfl⟩
theorem MapAt.mono (h : MapAt P k w b n f) {m : Nat} (hm : n ≤ m) : MapAt P k w b m f := by
  obtain ⟨D, h1, h2⟩ := h
  exact ⟨D, h1.mono hm, h2⟩
theorem MapAt.congr (h : MapAt P k w b n f) {g : Value → Option Value} (hg : ∀ key kl, keyOf P k key = some kl → g key = f key) : MapAt P k w b n g := by
  obtain ⟨D, h1, h2⟩ := h
  exact ⟨D, h1, fun key kl hkey zd => by rw [hg key kl hkey]; exact h2 key kl hkey zd⟩

/-- A look-up, as an equation. -/
theorem MapAt.look {t e : TypeId} (h : MapAt P k w b n f) (K : Keyed P k) (ht : P.underlying t = some (.map k e)) {z : Value} (hz : (zeroValue e).run P w = .ok z w) {key : Value} {kl : Lit} (hkey : keyOf P k key = some kl) (c : Bool) :
    (Instr.lookup t (.map (some b)) key c).run P w = .ok (match f key with | some v => (if c then .tuple #[v, .bool true] else v) | none => (if c then .tuple #[z, .bool false] else z)) w := by
  obtain ⟨D, ⟨es, clock, hb, F, _, rfl⟩, hf⟩ := h
  have hf0 := hf key kl hkey .nil
  rcases Go.Maps.fit_look c K ht hz hb F hkey with ⟨hrun, _, hat⟩ | ⟨e0, y, _, _, hrun, hRv, hat, _⟩
  · rw [hat] at hf0
    cases hfk : f key with
    | none => exact hrun
    | some v => rw [hfk] at hf0; cases hf0
  · rw [hat] at hf0
    injection hRv with hRv
    subst hRv
    cases hfk : f key with
    | none => rw [hfk] at hf0; cases hf0
    | some v =>
      rw [hfk] at hf0
      injection hf0 with hf0
      subst hf0
      exact hrun
/-- A store. -/
theorem MapAt.store {t e : TypeId} (h : MapAt P k w b n f) (K : Keyed P k) (ht : P.underlying t = some (.map k e)) (hn : n < maxLen) {key : Value} {kl : Lit} (hkey : keyOf P k key = some kl) (val : Value) {g : Value → Option Value}
    (hg : g key = some val) (hg' : ∀ x, x ≠ key → g x = f x) :
    ∃ w', (Instr.mapUpdate t (.map (some b)) key val).run P w = .ok () w' ∧ MapAt P k w' b (n + 1) g ∧ w.grownBy w' (some b) := by
  obtain ⟨D, h1, hf⟩ := h
  obtain ⟨w', hrun, h2, hgr⟩ := h1.update K ht hn hkey (d := .held val) (ps := []) rfl
  refine ⟨w', hrun, ⟨_, h2, fun x xl hx zd => ?_⟩, hgr⟩
  by_cases hxk : x = key
  · subst hxk
    rw [hkey] at hx
    injection hx with hx
    subst hx
    rw [hg, Go.Maps.atKey_put_same h1.isMap (K.key hkey)]
  · have hne : xl ≠ kl := by
      rintro rfl
      exact hxk (K.inj hx hkey)
    rw [hg' x hxk, Go.Maps.atKey_put_other hne, hf x xl hx]
/-- All is struck. -/
theorem MapAt.cleared {t e : TypeId} (h : MapAt P k w b n f) (ht : P.underlying t = some (.map k e)) (ty : TypeId) :
    ∃ w', (Builtin.clear_ #[t] ty #[.map (some b)]).run P w = .ok (.tuple #[]) w' ∧ MapAt P k w' b 0 (fun _ => none) ∧ w.grownBy w' (some b) := by
  obtain ⟨D, ⟨es, clock, hb, F, _, rfl⟩, hf⟩ := h
  refine ⟨setBlock w b (.map #[] clock), by simp [Builtin.clear_, run_underlying ht, MapKept.run_getObj_map hb, MapKept.run_setObj_map _ hb, Result.andThen]; rfl, ?_, ⟨rfl, rfl, rfl, by simp [setBlock], fun i _ hi => heap_setBlock_other hb _ (fun e => hi (by rw [e]))⟩⟩
  exact ⟨_, ⟨#[], clock, heap_setBlock_same hb _, ⟨by simp, MapKept.stamped_empty _, by simp⟩, Nat.le_refl _, rfl⟩, fun _ _ _ _ => rfl⟩
end
end Go.Proofs.Ytnfeggeahnjdeaa

/- A map by what it holds at each key. -/
import Derived.Test.YtbgbhfmchpdkcaaPaths
import Derived.Maps.Own
import Derived.Maps.OwnOps
import Derived.Maps.OwnSet
import Derived.Maps.Views
namespace Go.Proofs.Ytbgbhfmchpdkcaa
open Go.ChangeMaps Go.RowKit
open Go.Maps (Keyed)

def heldV (v : Value) : Option (DataW Value × List MemPlace) := some (.held v, [])
/-- Block b is a map of at most n entries; at each key it holds what f says. -/
def MapAt (P : Program) (k : TypeId) (w : World) (b n : Nat) (f : Value → Option Value) : Prop :=
  ∃ D, w.ownsMap P k heldV b n D ∧ ∀ key kl, keyOf P k key = some kl → ∀ zd, D.atKey kl zd = match f key with | some v => .held v | none => zd

section
variable {P : Program} {k : TypeId} {w w' : World} {b n : Nat} {f : Value → Option Value}
theorem MapAt.lt (h : MapAt P k w b n f) : b < w.heap.size := by
  obtain ⟨D, h, _⟩ := h
  exact h.lt
theorem MapAt.obj (h : MapAt P k w b n f) : ∃ es clock, w.heap[b]? = some (.map es clock) := by
  obtain ⟨D, ⟨es, clock, hb, _⟩, _⟩ := h
  exact ⟨es, clock, hb⟩
theorem MapAt.same (h : MapAt P k w b n f) (hb : w'.heap[b]? = w.heap[b]?) : MapAt P k w' b n f := by
  obtain ⟨D, ⟨es, clock, h1, h2⟩, h3⟩ := h
  exact ⟨D, ⟨es, clock, hb.trans h1, h2⟩, h3⟩
theorem MapAt.kept {S : Nat → Prop} (h : MapAt P k w b n f) (hk : Kept S w w') (hn : ¬ S b) : MapAt P k w' b n f := h.same (hk.block b h.lt hn)
theorem MapAt.alloc (h : MapAt P k w b n f) (o : Obj) : MapAt P k (w.alloc o) b n f := h.same (Below.heap_alloc w o b h.lt)
theorem MapAt.drew (h : MapAt P k w b n f) : MapAt P k w.drew b n f := h
theorem MapAt.drewN (h : MapAt P k w b n f) (i : Nat) : MapAt P k (w.drewN i) b n f := h
theorem MapAt.far (h : MapAt P k w b n f) {p : Addr} (hp : b ≠ p.block) (u : Value) : MapAt P k (w.setCell p u) b n f := h.same (Below.heap_setCell w p u b hp)
theorem MapAt.grown {row : Option Nat} (h : MapAt P k w b n f) (hg : w.grownBy w' row) (hn : some b ≠ row) : MapAt P k w' b n f := h.same (hg.block b h.lt hn)
theorem MapAt.below {B : Nat} (h : MapAt P k w b n f) (hb : Below B w w') (hl : b < B) : MapAt P k w' b n f := h.same (hb.block b hl)
theorem MapAt.made (P : Program) (k : TypeId) (w : World) : MapAt P k (w.alloc (.map #[] 0)) w.heap.size 0 (fun _ => none) :=
  ⟨_, World.ownsMap_made w P k heldV, fun _ _ _ _ => rfl⟩
theorem MapAt.mono (h : MapAt P k w b n f) {m : Nat} (hm : n ≤ m) : MapAt P k w b m f := by
  obtain ⟨D, h1, h2⟩ := h
  exact ⟨D, h1.mono hm, h2⟩
theorem MapAt.congr (h : MapAt P k w b n f) {g : Value → Option Value} (hg : ∀ key kl, keyOf P k key = some kl → g key = f key) : MapAt P k w b n g := by
  obtain ⟨D, h1, h2⟩ := h
  exact ⟨D, h1, fun key kl hkey zd => by rw [hg key kl hkey]; exact h2 key kl hkey zd⟩

/-- A look-up, as an equation. -/
theorem MapAt.look {t e : TypeId} (h : MapAt P k w b n f) (K : Keyed P k) (ht : P.underlying t = some (.map k e)) {z : Value} (hz : (zeroValue e).run P w = .ok z w) {key : Value} {kl : Lit} (hkey : keyOf P k key = some kl) (c : Bool) :
    (Instr.lookup t (.map (some b)) key c).run P w = .ok (match f key with | some v => (if c then .tuple #[v, .bool true] else v) | none => (if c then .tuple #[z, .bool false] else z)) w := by
  obtain ⟨D, ⟨es, clock, hb, F, _, rfl⟩, hf⟩ := h
  have hf0 := hf key kl hkey .nil
  rcases Go.Maps.fit_look c K ht hz hb F hkey with ⟨hrun, _, hat⟩ | ⟨e0, y, _, _, hrun, hRv, hat, _⟩
  · rw [hat] at hf0
    cases hfk : f key with
    | none => exact hrun
    | some v => rw [hfk] at hf0; cases hf0
  · rw [hat] at hf0
    injection hRv with hRv
    subst hRv
    cases hfk : f key with
    | none => rw [hfk] at hf0; cases hf0
    | some v =>
      rw [hfk] at hf0
      injection hf0 with hf0
      subst hf0
      exact hrun
/-- A store. -/
theorem MapAt.store {t e : TypeId} (h : MapAt P k w b n f) (K : Keyed P k) (ht : P.underlying t = some (.map k e)) (hn : n < maxLen) {key : Value} {kl : Lit} (hkey : keyOf P k key = some kl) (val : Value) {g : Value → Option Value}
    (hg : g key = some val) (hg' : ∀ x, x ≠ key → g x = f x) :
    ∃ w', (Instr.mapUpdate t (.map (some b)) key val).run P w = .ok () w' ∧ MapAt P k w' b (n + 1) g ∧ w.grownBy w' (some b) := by
  obtain ⟨D, h1, hf⟩ := h
  obtain ⟨w', hrun, h2, hgr⟩ := h1.update K ht hn hkey (d := .held val) (ps := []) rfl
  refine ⟨w', hrun, ⟨_, h2, fun x xl hx zd => ?_⟩, hgr⟩
  by_cases hxk : x = key
  · subst hxk
    rw [hkey] at hx
    injection hx with hx
    subst hx
    rw [hg, Go.Maps.atKey_put_same h1.isMap (K.key hkey)]
  · have hne : xl ≠ kl := by
      rintro rfl
      exact hxk (K.inj hx hkey)
    rw [hg' x hxk, Go.Maps.atKey_put_other hne, hf x xl hx]
/-- All is struck. -/
theorem MapAt.cleared {t e : TypeId} (h : MapAt P k w b n f) (ht : P.underlying t = some (.map k e)) (ty : TypeId) :
    ∃ w', (Builtin.clear_ #[t] ty #[.map (some b)]).run P w = .ok (.tuple #[]) w' ∧ MapAt P k w' b 0 (fun _ => none) ∧ w.grownBy w' (some b) := by
  obtain ⟨D, ⟨es, clock, hb, F, _, rfl⟩, hf⟩ := h
  refine ⟨setBlock w b (.map #[] clock), by simp [Builtin.clear_, run_underlying ht, MapKept.run_getObj_map hb, MapKept.run_setObj_map _ hb, Result.andThen]; rfl, ?_, ⟨rfl, rfl, rfl, by simp [setBlock], fun i _ hi => heap_setBlock_other hb _ (fun e => hi (by rw [e]))⟩⟩
  exact ⟨_, ⟨#[], clock, heap_setBlock_same hb _, ⟨by simp, MapKept.stamped_empty _, by simp⟩, Nat.le_refl _, rfl⟩, fun _ _ _ _ => rfl⟩
end
end Go.Proofs.Ytbgbhfmchpdkcaa

/- The rest of a row that a slice leads to, from some place of it on: 'x = x[1:]', and append behind it. -/
namespace Go.Proofs.Ytbgbhfmchpdkcaa
open Go.RowKit

theorem addr_add2 (g o j : Nat) : (⟨g, o, none⟩ : Addr).add j = ⟨g, o + j, none⟩ := by
  unfold Addr.add
  split
  · rename_i h
    rw [h, Nat.add_zero]
  · rfl
def Tail (w : World) (base : Nat) (e : TypeId) (size g off n cap : Nat) (xs : List Value) : Prop :=
  xs.length = n * size ∧ base ≤ g ∧ n ≤ cap ∧ cap ≤ maxLen ∧ ∃ cur, Blk w g e cur ∧ cur.size = off + cap * size ∧ (cur.toList.drop off).take (n * size) = xs

section
variable {w w' : World} {base : Nat} {e : TypeId} {size g off n cap : Nat} {xs : List Value}
theorem Tail.lt (h : Tail w base e size g off n cap xs) : g < w.heap.size := by
  obtain ⟨_, _, _, _, cur, hb, _⟩ := h
  exact hb.lt
theorem Tail.blk (h : Tail w base e size g off n cap xs) : ∃ cur, Blk w g e cur := by
  obtain ⟨_, _, _, _, cur, hb, _⟩ := h
  exact ⟨cur, hb⟩
theorem Tail.same (h : Tail w base e size g off n cap xs) (hb : w'.heap[g]? = w.heap[g]?) : Tail w' base e size g off n cap xs := by
  obtain ⟨h1, h2, h3, h4, cur, h5, h6⟩ := h
  exact ⟨h1, h2, h3, h4, cur, hb.trans h5, h6⟩
theorem Tail.kept {S : Nat → Prop} (h : Tail w base e size g off n cap xs) (hk : Kept S w w') (hn : ¬ S g) : Tail w' base e size g off n cap xs := h.same (hk.block g h.lt hn)
theorem Tail.alloc (h : Tail w base e size g off n cap xs) (o : Obj) : Tail (w.alloc o) base e size g off n cap xs := h.same (Below.heap_alloc w o g h.lt)
theorem Tail.cell (h : Tail w base e size g off n cap xs) {j : Nat} (hj : j < n * size) : w.cell? ⟨g, off + j, none⟩ = xs[j]? := by
  obtain ⟨h1, h2, h3, h4, cur, h5, h6, h7⟩ := h
  rw [h5.cell, ← h7, List.getElem?_take, if_pos hj, List.getElem?_drop, Array.getElem?_toList]
theorem Tail.shift (h : Tail w base e size g off (n + 1) (cap + 1) xs) : Tail w base e size g (off + size) n cap (xs.drop size) := by
  obtain ⟨h1, h2, h3, h4, cur, h5, h6, h7⟩ := h
  refine ⟨by rw [List.length_drop, h1, Nat.add_mul]; omega, h2, by omega, by omega, cur, h5, by rw [h6, Nat.add_mul]; omega, ?_⟩
  rw [← h7, List.drop_take, List.drop_drop, Nat.add_mul]
  congr 1
  omega
theorem Tail.fresh (w : World) (base : Nat) (e : TypeId) (size g : Nat) (cs : Array Value) (hb : Blk w g e cs) (hs : cs.size = size) (hg : base ≤ g) : Tail w base e size g 0 1 1 cs.toList :=
  ⟨by simp [hs], hg, Nat.le_refl _, by unfold maxLen; omega, cs, hb, by simp [hs], by rw [List.drop_zero, List.take_of_length_le (by simp [hs])]⟩

/-- append of one element that lies in a block of its own. -/
theorem Tail.push {P : Program} (h : Tail w base e size g off n cap xs) (t ty : TypeId) (i : TypeInfo) (z : Value) (bytes : Nat) (ht : P.underlying t = some (.slice e)) (hi : P.info? e = some i) (hz : i.zero = some z)
    (hsize : i.size = size) (hby : i.bytes = bytes) (hzs : z.cells.size = size) (g0 : Nat) (cs : Array Value) (hb : Blk w g0 e cs) (hl : cs.toList.length = 1 * size) (h1 : ∀ u ∈ cs.toList, u.oneCell' = true)
    (hbytes : (n + 1) * bytes ≤ 140737488355328) (hn : n + 1 ≤ 1000000000) (hbase : base ≤ w.heap.size) :
    ∃ g' off' cap' w', (Builtin.append_ #[t, t] ty #[.slice (some ⟨g, off, none⟩) n cap, .slice (some ⟨g0, 0, none⟩) 1 1]).run P w = .ok (.slice (some ⟨g', off', none⟩) (n + 1) cap') w' ∧
      Tail w' base e size g' off' (n + 1) cap' (xs ++ cs.toList) ∧ w.grownBy w' (some g) ∧ (g' = g ∨ g' = w.heap.size) := by
  have hnews := World.news_of_block hb
  have hx0 := h
  obtain ⟨k1, k2, k3, k4, cur, k5, k6, k7⟩ := h
  subst hsize
  subst hby
  have hlen : (xs ++ cs.toList).length = (n + 1) * i.size := by rw [List.length_append, k1, hl, Nat.add_mul]
  by_cases hroom : n + 1 ≤ cap
  · have hmul : (n + 1) * i.size ≤ cap * i.size := Nat.mul_le_mul_right _ hroom
    rw [Nat.add_mul] at hmul
    have hfit : off + n * i.size + 0 + cs.toList.length ≤ cur.size := by rw [k6, hl]; omega
    have hf := run_firstCells_some (P := P) w i.size 1 ⟨g0, 0, none⟩ 1 1 cs.toList hl hnews
    have hst := run_storeCells_at P g (off + n * i.size) e cs.toList 0 cur w k5 hfit h1
    simp only [Nat.add_zero] at hst hfit
    refine ⟨g, off, cap, w.setRow g (cur.toList.take (off + n * i.size) ++ cs.toList ++ cur.toList.drop (off + n * i.size + cs.toList.length)).toArray, ?_, ?_, ?_, .inl rfl⟩
    · have hadd : (⟨g, off, none⟩ : Addr).add (n * i.size) = ⟨g, off + n * i.size, none⟩ := addr_add2 _ _ _
      simp [Builtin.append_, run_underlying ht, sizeOf, typeInfo, hi, Builtin.lenOf, hroom, hf, hadd, hst]
    · refine ⟨hlen, k2, hroom, k4, _, setRow_heap w g cur _ e _ k5, ?_, ?_⟩
      · simp only [List.size_toArray, List.length_append, List.length_take, List.length_drop, Array.length_toList]
        rw [Array.length_toList] at hfit
        omega
      · have hpre : cur.toList.take (off + n * i.size) = cur.toList.take off ++ xs := by
          rw [← k7, List.take_add]
        rw [hpre, List.append_assoc, List.append_assoc, List.drop_append_of_le_length (by simp; omega), List.drop_take_self, List.nil_append]
        rw [← List.append_assoc, ← hlen, List.take_left]
    · exact ⟨rfl, rfl, rfl, by simp, fun k _ hk => setRow_other w g k _ (fun e => hk (by rw [e]))⟩
  · have holds : ∀ j v, xs[j]? = some v → w.cell? ((⟨g, off, none⟩ : Addr).add j) = some v := fun j v hj => by
      have hjl : j < n * i.size := by rw [← k1]; exact (List.getElem?_eq_some_iff.1 hj).1
      have hadd : (⟨g, off, none⟩ : Addr).add j = ⟨g, off + j, none⟩ := addr_add2 _ _ _
      rw [hadd, hx0.cell hjl, hj]
    have hr := run_append_grow (P := P) w t ty e i z ht hi hz ⟨g, off, none⟩ n cap xs k1 holds ⟨g0, 0, none⟩ 1 1 cs.toList hl hnews (by omega) (by omega) (growslice_fits (by omega) hbytes)
    have hge := grownCap_ge w (n + 1) cap e
    have hcm : grownCap w (n + 1) cap e ≤ maxLen := grownCap_le_maxLen w (n + 1) cap e (by unfold maxLen; omega)
    refine ⟨w.heap.size, 0, _, _, hr, ⟨hlen, hbase, hge, hcm, _, heap_alloc_new w.drew _, ?_, ?_⟩, ⟨rfl, rfl, rfl, by simp, fun k hk _ => heap_alloc_old w.drew _ hk⟩, .inr rfl⟩
    · simp only [Array.size_append, List.size_toArray, size_zeroCells, hzs, k1, hl, ← Nat.add_mul]
      rw [Nat.zero_add]
      congr 1
      omega
    · simp only [List.drop_zero, Array.toList_append, List.append_assoc]
      rw [← List.append_assoc, ← hlen]
      exact List.take_left
/-- The same at the operation. -/
theorem tail_push {P : Program} {ops : Array Oper} {rest : List Oper} {o : Oper} {a : Act} {Q : Exit → Act → World → Prop} (h : Tail w base e size g off n cap xs) (hgd : o.guard = none) (s x : Operand) (t : TypeId)
    (ho : o.op = .call { callee := .builtin .append, args := #[s, x], argTypes := #[t, t] })
    (i : TypeInfo) (z : Value) (bytes : Nat) (ht : P.underlying t = some (.slice e)) (hi : P.info? e = some i) (hz : i.zero = some z)
    (hsize : i.size = size) (hby : i.bytes = bytes) (hzs : z.cells.size = size) (hs : a.eval s = .slice (some ⟨g, off, none⟩) n cap)
    (g0 : Nat) (cs : Array Value) (hx : a.eval x = .slice (some ⟨g0, 0, none⟩) 1 1) (hb : Blk w g0 e cs) (hl : cs.toList.length = 1 * size) (h1 : ∀ u ∈ cs.toList, u.oneCell' = true)
    (hbytes : (n + 1) * bytes ≤ 140737488355328) (hn : n + 1 ≤ 1000000000) (hbase : base ≤ w.heap.size)
    (hK : ∀ g' off' cap' w', Tail w' base e size g' off' (n + 1) cap' (xs ++ cs.toList) → w.grownBy w' (some g) → (g' = g ∨ g' = w.heap.size) → wpList P ops Q rest (a.put o.dst (.slice (some ⟨g', off', none⟩) (n + 1) cap')) w') :
    wpList P ops Q (o :: rest) a w := by
  refine wpList_plain hgd fun K hK' => ?_
  obtain ⟨g', off', cap', w', hr, h2, h3, h4⟩ := h.push (P := P) t o.type i z bytes ht hi hz hsize hby hzs g0 cs hb hl h1 hbytes hn hbase
  unfold Oper.wp execOp
  simp only [ho, resolve, invoke, builtin, Sem.run_bind, Sem.run_pure, Result.andThen_ok, List.map_toArray, List.map_cons, List.map_nil, hs, hx, hr]
  exact hK' _ _ (hK g' off' cap' w' h2 h3 h4)
end
end Go.Proofs.Ytbgbhfmchpdkcaa

/- A slice at its row's beginning, its capacity not past its block: what 'x[:n:n]' leaves. -/
namespace Go.Proofs.Ytbgbhfmchpdkcaa
open Go.RowKit

def clipRow (w : World) (base : Nat) (e : TypeId) (size : Nat) (v : Value) (n : Nat) (xs : List Value) : Prop :=
  xs.length = n * size ∧ ((v = .slice none 0 0 ∧ n = 0) ∨
   ∃ g cap cur, v = .slice (some ⟨g, 0, none⟩) n cap ∧ base ≤ g ∧ Blk w g e cur ∧ n ≤ cap ∧ cap ≤ maxLen ∧ cap * size ≤ cur.size ∧ cur.toList.take (n * size) = xs)
section
variable {w w' : World} {base : Nat} {e : TypeId} {size n : Nat} {v : Value} {xs : List Value}
theorem clip_of (h : w.ownsRow base e size v n xs) : clipRow w base e size v n xs := by
  refine ⟨h.1, h.2.imp id ?_⟩
  rintro ⟨g, cap, cur, h1, h2, h3, h4, h5, h6, h7⟩
  exact ⟨g, cap, cur, h1, h2, h3, h4, h5, Nat.le_of_eq h6.symm, h7⟩
theorem clip_nil (w : World) (base : Nat) (e : TypeId) (size : Nat) : clipRow w base e size (.slice none 0 0) 0 [] := ⟨by simp, .inl ⟨rfl, rfl⟩⟩
theorem clip_lt (h : clipRow w base e size v n xs) (g : Nat) (hg : v.ownBlock = some g) : base ≤ g ∧ g < w.heap.size := by
  rcases h.2 with ⟨rfl, _⟩ | ⟨g', cap, cur, rfl, hb, hh, _⟩
  · cases hg
  · injection hg with hg
    subst hg
    exact ⟨hb, hh.lt⟩
theorem clip_kept {S : Nat → Prop} (h : clipRow w base e size v n xs) (hk : Kept S w w') (hg : ∀ g, v.ownBlock = some g → ¬ S g) : clipRow w' base e size v n xs := by
  refine ⟨h.1, h.2.imp id ?_⟩
  rintro ⟨g, cap, cur, rfl, hb, hgg, rest⟩
  exact ⟨g, cap, cur, rfl, hb, hgg.kept hk (hg g rfl), rest⟩
theorem clip_heap (h : clipRow w base e size v n xs) {g : Nat} (hg : v.ownBlock = some g) : ∃ cs, Blk w g e cs := by
  rcases h.2 with ⟨rfl, _⟩ | ⟨g', cap, cur, rfl, hb, hh, _⟩
  · cases hg
  · injection hg with hg
    subst hg
    exact ⟨cur, hh⟩
theorem clip_blk_ne {g : Nat} {t : TypeId} {cs : Array Value} (h : clipRow w base e size v n xs) (hg : Blk w g t cs) (hne : e ≠ t) : v.ownBlock ≠ some g := fun hv => by
  obtain ⟨cs', hb⟩ := clip_heap h hv
  exact hb.ne_ hg hne rfl
theorem clip_obj_ne {l : Nat} {o : Obj} (h : clipRow w base e size v n xs) (ho : w.heap[l]? = some o) (hn : ∀ c t f, o ≠ .cells c t f) : v.ownBlock ≠ some l := fun hg => by
  obtain ⟨cs, hb⟩ := clip_heap h hg
  unfold Blk at hb
  rw [ho] at hb
  injection hb with hb
  exact hn _ _ _ hb
theorem clip_clip_ne {base' : Nat} {e' : TypeId} {size' n' g : Nat} {v' : Value} {xs' : List Value} (h : clipRow w base e size v n xs) (h' : clipRow w base' e' size' v' n' xs') (hne : e ≠ e')
    (hg : v.ownBlock = some g) : v'.ownBlock ≠ some g := fun hg' => by
  obtain ⟨cs, hb⟩ := clip_heap h hg
  obtain ⟨cs', hb'⟩ := clip_heap h' hg'
  exact hb.ne_ hb' hne rfl
theorem map_clip_ne {P : Program} {k : TypeId} {b m : Nat} {f : Value → Option Value} (h : MapAt P k w b m f) (ho : clipRow w base e size v n xs) : v.ownBlock ≠ some b := by
  obtain ⟨es, c, hob⟩ := h.obj
  exact clip_obj_ne ho hob (fun _ _ _ h => by cases h)
theorem clip_slice (h : clipRow w base e size v n xs) : ∃ A cap, v = .slice A n cap := by
  rcases h.2 with ⟨rfl, rfl⟩ | ⟨g', cap, cur, rfl, _⟩
  · exact ⟨none, 0, rfl⟩
  · exact ⟨_, cap, rfl⟩
theorem clip_form (h : clipRow w base e size v n xs) (hn : 0 < n) : ∃ g cap, v = .slice (some ⟨g, 0, none⟩) n cap ∧ base ≤ g ∧ g < w.heap.size ∧ n ≤ cap := by
  rcases h.2 with ⟨_, h0⟩ | ⟨g, cap, cur, hv, hb, hg, hc, _⟩
  · omega
  · exact ⟨g, cap, hv, hb, hg.lt, hc⟩
theorem clip_len (h : clipRow w base e size v n xs) : n ≤ 9223372036854775807 := by
  rcases h.2 with ⟨_, h0⟩ | ⟨g, cap, cur, hv, hb, hg, hc, hM, _⟩
  · omega
  · unfold maxLen at hM
    omega
theorem clip_cell {α : Type} {sz cap g : Nat} {L : List α} (enc : α → List Value) (hs : ∀ a, (enc a).length = sz)
    (h : clipRow w base e sz (.slice (some ⟨g, 0, none⟩) n cap) n (L.flatMap enc)) {i j : Nat} (hi : i < L.length) (hj : j < sz) : w.cell? ⟨g, i * sz + j, none⟩ = (enc L[i])[j]? := by
  rcases h.2 with ⟨hv, _⟩ | ⟨g', cap', cur, hv, hb, hh, hc, hM, hsz, ht⟩
  · cases hv
  · injection hv with hv1 hv2 hv3
    injection hv1 with hv1
    injection hv1 with hv1
    subst hv1
    have hl := h.1
    rw [flat_len enc sz hs] at hl
    have hlt : i * sz + j < n * sz := by
      rw [← hl]
      calc i * sz + j < i * sz + sz := by omega
        _ = (i + 1) * sz := by rw [Nat.add_mul]; omega
        _ ≤ L.length * sz := Nat.mul_le_mul_right _ hi
    rw [hh.cell, ← Array.getElem?_toList, ← flat_get enc sz hs L i j hi hj, ← ht, List.getElem?_take, if_pos hlt]
theorem clip_frozen {sz cap g : Nat} (h : clipRow w base e sz (.slice (some ⟨g, 0, none⟩) n cap) n xs) (i : Nat) : w.frozen? ⟨g, i, none⟩ = false := by
  rcases h.2 with ⟨h, _⟩ | ⟨g', cap', cur, hv, _, hh, _⟩
  · cases h
  · injection hv with hv
    injection hv with hv
    injection hv with hv
    subst hv
    exact hh.frozen i
/-- Fewer of it: 'x[:m:m]'. -/
theorem clip_take {g cap m : Nat} (h : clipRow w base e size (.slice (some ⟨g, 0, none⟩) n cap) n xs) (hm : m ≤ n) {cap' : Nat} (hc1 : m ≤ cap') (hc2 : cap' ≤ cap) :
    clipRow w base e size (.slice (some ⟨g, 0, none⟩) m cap') m (xs.take (m * size)) := by
  have hms : m * size ≤ n * size := Nat.mul_le_mul_right _ hm
  refine ⟨by rw [List.length_take, h.1]; omega, ?_⟩
  rcases h.2 with ⟨h, _⟩ | ⟨g', cap', cur, hv, hb, hh, hc, hM, hs, ht⟩
  · cases h
  · injection hv with hv1 hv2 hv3
    injection hv1 with hv1
    injection hv1 with hv1
    subst hv1
    subst hv3
    exact .inr ⟨g, _, cur, rfl, hb, hh, hc1, by omega, Nat.le_trans (Nat.mul_le_mul_right _ hc2) hs, by rw [← ht, List.take_take]; congr 1; omega⟩

/-- append of one element that lies in a block of its own. -/
theorem clip_push_run {P : Program} (h : clipRow w base e size v n xs) (t ty : TypeId) (i : TypeInfo) (z : Value) (bytes : Nat) (ht : P.underlying t = some (.slice e)) (hi : P.info? e = some i) (hz : i.zero = some z)
    (hsize : i.size = size) (hby : i.bytes = bytes) (hzs : z.cells.size = size) (hsz : 0 < size) (g0 : Nat) (cs : Array Value) (hb : Blk w g0 e cs) (hl : cs.toList.length = 1 * size) (h1 : ∀ u ∈ cs.toList, u.oneCell' = true)
    (hbytes : (n + 1) * bytes ≤ 140737488355328) (hn : n + 1 ≤ 1000000000) (hbase : base ≤ w.heap.size) :
    ∃ g' cap' w', (Builtin.append_ #[t, t] ty #[v, .slice (some ⟨g0, 0, none⟩) 1 1]).run P w = .ok (.slice (some ⟨g', 0, none⟩) (n + 1) cap') w' ∧
      clipRow w' base e size (.slice (some ⟨g', 0, none⟩) (n + 1) cap') (n + 1) (xs ++ cs.toList) ∧ w.grownBy w' v.ownBlock ∧ (v.ownBlock = some g' ∨ g' = w.heap.size) ∧ g' < w'.heap.size := by
  have hnews := World.news_of_block hb
  have hx0 := h
  obtain ⟨k1, hh⟩ := h
  rcases hh with ⟨rfl, rfl⟩ | ⟨g, cap, cur, rfl, k2, k5, k3, k4, k6, k7⟩
  · obtain rfl : xs = [] := List.length_eq_zero_iff.1 (by omega)
    obtain ⟨g', cap', w', r1, r2, r3, r4, r5⟩ := run_append_lies (P := P) w t ty base e i z size bytes ht hi hz hsize hby hzs hsz (.slice none 0 0) 0 [] (World.ownsRow_nil _ _ _ _) ⟨g0, 0, none⟩ 1 1 cs.toList hl hnews h1 (by omega) (by unfold maxLen; omega) hbytes hbase w.heap.size rfl
    exact ⟨g', cap', w', r1, clip_of r2, r3, r4, r5⟩
  · subst hsize
    subst hby
    have hlen : (xs ++ cs.toList).length = (n + 1) * i.size := by rw [List.length_append, k1, hl, Nat.add_mul]
    by_cases hroom : n + 1 ≤ cap
    · have hmul : (n + 1) * i.size ≤ cap * i.size := Nat.mul_le_mul_right _ hroom
      rw [Nat.add_mul] at hmul
      have hfit : n * i.size + 0 + cs.toList.length ≤ cur.size := by rw [hl]; omega
      have hf := run_firstCells_some (P := P) w i.size 1 ⟨g0, 0, none⟩ 1 1 cs.toList hl hnews
      have hst := run_storeCells_at P g (n * i.size) e cs.toList 0 cur w k5 hfit h1
      simp only [Nat.add_zero] at hst hfit
      refine ⟨g, cap, w.setRow g (cur.toList.take (n * i.size) ++ cs.toList ++ cur.toList.drop (n * i.size + cs.toList.length)).toArray, ?_, ⟨hlen, .inr ⟨g, cap, _, rfl, k2, setRow_heap w g cur _ e _ k5, hroom, k4, ?_, ?_⟩⟩, ⟨rfl, rfl, rfl, by simp, fun k _ hk => setRow_other w g k _ (fun e => hk (by rw [e]; rfl))⟩, .inl rfl, ?_⟩
      · have hadd : (⟨g, 0, none⟩ : Addr).add (n * i.size) = ⟨g, n * i.size, none⟩ := addr_add _ _
        simp [Builtin.append_, run_underlying ht, sizeOf, typeInfo, hi, Builtin.lenOf, hroom, hf, hadd, hst]
      · simp only [List.size_toArray, List.length_append, List.length_take, List.length_drop, Array.length_toList]
        rw [Array.length_toList] at hfit
        omega
      · rw [k7]
        show List.take ((n + 1) * i.size) (xs ++ cs.toList ++ _) = _
        rw [← hlen, List.take_left]
      · have := setRow_heap w g cur (cur.toList.take (n * i.size) ++ cs.toList ++ cur.toList.drop (n * i.size + cs.toList.length)).toArray e (0, 0) k5
        exact (Array.getElem?_eq_some_iff.1 this).1
    · have holds : ∀ j v, xs[j]? = some v → w.cell? ((⟨g, 0, none⟩ : Addr).add j) = some v := fun j v hj => by
        rw [addr_add, k5.cell, ← Array.getElem?_toList]
        have hjl : j < n * i.size := by rw [← k1]; exact (List.getElem?_eq_some_iff.1 hj).1
        rw [← hj, ← k7, List.getElem?_take, if_pos hjl]
      have hr := run_append_grow (P := P) w t ty e i z ht hi hz ⟨g, 0, none⟩ n cap xs k1 holds ⟨g0, 0, none⟩ 1 1 cs.toList hl hnews (by omega) (by omega) (growslice_fits (by omega) hbytes)
      have hge := grownCap_ge w (n + 1) cap e
      have hcm : grownCap w (n + 1) cap e ≤ maxLen := grownCap_le_maxLen w (n + 1) cap e (by unfold maxLen; omega)
      refine ⟨w.heap.size, _, _, hr, ⟨hlen, .inr ⟨w.heap.size, _, _, rfl, hbase, heap_alloc_new w.drew _, hge, hcm, ?_, ?_⟩⟩, ⟨rfl, rfl, rfl, by simp, fun k hk _ => heap_alloc_old w.drew _ hk⟩, .inr rfl, by simp⟩
      · simp only [Array.size_append, List.size_toArray, size_zeroCells, hzs, k1, hl, ← Nat.add_mul]
        refine Nat.le_of_eq ?_
        congr 1
        omega
      · simp only [Array.toList_append, List.append_assoc]
        rw [← List.append_assoc, ← hlen]
        exact List.take_left
end

theorem clip_wp {P : Program} (w : World) {o : Oper} {a : Act} {K : Act → World → Prop} {Q : Exit → Act → World → Prop} (s x : Operand) (t : TypeId)
    (ho : o.op = .call { callee := .builtin .append, args := #[s, x], argTypes := #[t, t] })
    (base : Nat) (e : TypeId) (i : TypeInfo) (z : Value) (size bytes : Nat) (ht : P.underlying t = some (.slice e)) (hi : P.info? e = some i) (hz : i.zero = some z)
    (hsize : i.size = size) (hby : i.bytes = bytes) (hzs : z.cells.size = size) (hsz : 0 < size)
    (v : Value) (n : Nat) (xs : List Value) (hs : a.eval s = v) (hown : clipRow w base e size v n xs)
    (g0 : Nat) (cs : Array Value) (hx : a.eval x = .slice (some ⟨g0, 0, none⟩) 1 1) (hb : Blk w g0 e cs) (hl : cs.toList.length = 1 * size) (h1 : ∀ u ∈ cs.toList, u.oneCell' = true)
    (hbytes : (n + 1) * bytes ≤ 140737488355328) (hn : n + 1 ≤ 1000000000) (hbase : base ≤ g0)
    (h : ∀ g cap w', clipRow w' base e size (.slice (some ⟨g, 0, none⟩) (n + 1) cap) (n + 1) (xs ++ cs.toList) → w.grownBy w' v.ownBlock → (v.ownBlock = some g ∨ g = w.heap.size) → g < w'.heap.size → K (a.put o.dst (.slice (some ⟨g, 0, none⟩) (n + 1) cap)) w') :
    o.wp P a w K Q := by
  obtain ⟨g', cap', w', hr, h2, h3, h4, h5⟩ := clip_push_run (P := P) hown t o.type i z bytes ht hi hz hsize hby hzs hsz g0 cs hb hl h1 hbytes hn (Nat.le_of_lt (Nat.lt_of_le_of_lt hbase hb.lt))
  unfold Oper.wp execOp
  simp only [ho, resolve, invoke, builtin, Sem.run_bind, Sem.run_pure, Result.andThen_ok, List.map_toArray, List.map_cons, List.map_nil, hs, hx, hr]
  exact h g' cap' w' h2 h3 h4 h5
theorem clip_push {P : Program} (w : World) {ops : Array Oper} {rest : List Oper} {o : Oper} {a : Act} {Q : Exit → Act → World → Prop} (hgd : o.guard = none) (s x : Operand) (t : TypeId)
    (ho : o.op = .call { callee := .builtin .append, args := #[s, x], argTypes := #[t, t] })
    (base : Nat) (e : TypeId) (i : TypeInfo) (z : Value) (size bytes : Nat) (ht : P.underlying t = some (.slice e)) (hi : P.info? e = some i) (hz : i.zero = some z)
    (hsize : i.size = size) (hby : i.bytes = bytes) (hzs : z.cells.size = size) (hsz : 0 < size)
    (v : Value) (n : Nat) (xs : List Value) (hs : a.eval s = v) (hown : clipRow w base e size v n xs)
    (g0 : Nat) (cs : Array Value) (hx : a.eval x = .slice (some ⟨g0, 0, none⟩) 1 1) (hb : Blk w g0 e cs) (hl : cs.toList.length = 1 * size) (h1 : ∀ u ∈ cs.toList, u.oneCell' = true)
    (hbytes : (n + 1) * bytes ≤ 140737488355328) (hn : n + 1 ≤ 1000000000) (hbase : base ≤ g0)
    (h : ∀ g cap w', clipRow w' base e size (.slice (some ⟨g, 0, none⟩) (n + 1) cap) (n + 1) (xs ++ cs.toList) → w.grownBy w' v.ownBlock → (v.ownBlock = some g ∨ g = w.heap.size) → g < w'.heap.size → wpList P ops Q rest (a.put o.dst (.slice (some ⟨g, 0, none⟩) (n + 1) cap)) w') :
    wpList P ops Q (o :: rest) a w :=
  wpList_plain hgd fun _ hK => clip_wp w s x t ho base e i z size bytes ht hi hz hsize hby hzs hsz v n xs hs hown g0 cs hx hb hl h1 hbytes hn hbase fun g cap w' h2 h3 h4 h5 => hK _ _ (h g cap w' h2 h3 h4 h5)
theorem clip_step {P : Program} (w : World) {ops : Array Oper} {o : Oper} {a : Act} {K : Act → World → Prop} {Q : Exit → Act → World → Prop} {E : Prop} (hgd : o.guard = none) (s x : Operand) (t : TypeId)
    (ho : o.op = .call { callee := .builtin .append, args := #[s, x], argTypes := #[t, t] })
    (base : Nat) (e : TypeId) (i : TypeInfo) (z : Value) (size bytes : Nat) (ht : P.underlying t = some (.slice e)) (hi : P.info? e = some i) (hz : i.zero = some z)
    (hsize : i.size = size) (hby : i.bytes = bytes) (hzs : z.cells.size = size) (hsz : 0 < size)
    (v : Value) (n : Nat) (xs : List Value) (hs : a.eval s = v) (hown : clipRow w base e size v n xs)
    (g0 : Nat) (cs : Array Value) (hx : a.eval x = .slice (some ⟨g0, 0, none⟩) 1 1) (hb : Blk w g0 e cs) (hl : cs.toList.length = 1 * size) (h1 : ∀ u ∈ cs.toList, u.oneCell' = true)
    (hbytes : (n + 1) * bytes ≤ 140737488355328) (hn : n + 1 ≤ 1000000000) (hbase : base ≤ g0)
    (h : ∀ g cap w', clipRow w' base e size (.slice (some ⟨g, 0, none⟩) (n + 1) cap) (n + 1) (xs ++ cs.toList) → w.grownBy w' v.ownBlock → (v.ownBlock = some g ∨ g = w.heap.size) → g < w'.heap.size → K (a.put o.dst (.slice (some ⟨g, 0, none⟩) (n + 1) cap)) w') :
    if Region.wanted o (yielded ops a.tmps) = true then Oper.wp P o a w K Q else E := by
  have hw : Region.wanted o (yielded ops a.tmps) = true := by simp [Region.wanted, hgd]
  rw [if_pos hw]
  exact clip_wp w s x t ho base e i z size bytes ht hi hz hsize hby hzs hsz v n xs hs hown g0 cs hx hb hl h1 hbytes hn hbase h
end Go.Proofs.Ytbgbhfmchpdkcaa

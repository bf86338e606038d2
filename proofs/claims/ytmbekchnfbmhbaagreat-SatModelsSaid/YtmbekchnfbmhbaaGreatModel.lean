/- Words for memory that every layer's proofs use: blocks known whole, frames, rows of structs. -/
import Derived.WalkKit
import Derived.BigQuiet
import Derived.Deep.QuietTactic
import Derived.Deep.RegionLaw
import Derived.Deep.AppendLies
import Derived.Deep.Draws
import Derived.Lib.Hide
import Derived.Laws.OwnMore
import Derived.Laws.Rows
import Derived.Laws.MakeOwn
import Derived.Deep.DeepCutAuto
import Derived.Deep.CutBlock
import Derived.Laws.Entries
import Derived.Laws.BitsAllLaws
import Derived.Laws.BitsLemmas
import Derived.Test.YtmbekchnfbmhbaaGreatRows
import Derived.ProofKit
import Derived.OpenShut
import Derived.ShutString
import Derived.ChangeOld
import Derived.Below
import Derived.ChangeSlices
import Derived.Deep.Grids
namespace Go.Proofs.YtmbekchnfbmhbaaGreat
open Go.RowKit

/-- Block g is just the cells cs of element type t, none frozen. -/
def Blk (w : World) (g : Nat) (t : TypeId) (cs : Array Value) : Prop := w.heap[g]? = some (.cells cs t (0, 0))

section
variable {w w' : World} {g : Nat} {t : TypeId} {cs : Array Value}
theorem Blk.lt (h : Blk w g t cs) : g < w.heap.size := by
  rcases Nat.lt_or_ge g w.heap.size with hlt | hge
  · exact hlt
  · unfold Blk at h; rw [Array.getElem?_eq_none hge] at h; cases h
theorem Blk.cell (h : Blk w g t cs) (i : Nat) : w.cell? ⟨g, i, none⟩ = cs[i]? := cell_of_row w g i cs t (0, 0) h
theorem Blk.frozen (h : Blk w g t cs) (i : Nat) : w.frozen? ⟨g, i, none⟩ = false := by
  unfold Blk at h
  simp [World.frozen?, h]
theorem Blk.new (w : World) (t : TypeId) (cs : Array Value) : Blk (w.alloc (.cells cs t)) w.heap.size t cs := heap_alloc_new w _
theorem Blk.drew (h : Blk w g t cs) : Blk w.drew g t cs := h
theorem Blk.drewN (h : Blk w g t cs) (n : Nat) : Blk (w.drewN n) g t cs := h
theorem Blk.alloc (h : Blk w g t cs) (o : Obj) : Blk (w.alloc o) g t cs := (Below.heap_alloc w o g h.lt).trans h
theorem Blk.set_ (h : Blk w g t cs) (i : Nat) (u : Value) : Blk (w.setCell ⟨g, i, none⟩ u) g t (cs.setIfInBounds i u) := by
  unfold Blk at h ⊢
  simp [World.setCell, Array.getElem?_modify, h]
theorem Blk.far (h : Blk w g t cs) {p : Addr} (hp : g ≠ p.block) (u : Value) : Blk (w.setCell p u) g t cs := (Below.heap_setCell w p u g hp).trans h
theorem Blk.below {B : Nat} (h : Blk w g t cs) (hb : Below B w w') (hg : g < B) : Blk w' g t cs := (hb.block g hg).trans h
theorem Blk.grown {row : Option Nat} (h : Blk w g t cs) (hb : w.grownBy w' row) (hg : some g ≠ row) : Blk w' g t cs := (hb.block g h.lt hg).trans h
theorem Blk.ne_ {g' : Nat} {t' : TypeId} {cs' : Array Value} (h : Blk w g t cs) (h' : Blk w g' t' cs') (hne : t ≠ t') : g ≠ g' := by
  rintro rfl
  unfold Blk at h h'
  rw [h] at h'
  injection h' with h'
  injection h' with _ ht
  exact hne ht
theorem own_blk_ne {base : Nat} {e : TypeId} {size n : Nat} {v : Value} {xs : List Value} (h : w.ownsRow base e size v n xs) (hg : Blk w g t cs) (hne : e ≠ t) : v.ownBlock ≠ some g := by
  rcases h.2 with ⟨rfl, _⟩ | ⟨g', cap, cur, rfl, _, hh, _⟩
  · simp [Value.ownBlock]
  · intro he
    have : g' = g := by simpa [Value.ownBlock] using he
    subst this
    exact Blk.ne_ (t := e) hh hg hne rfl
end

/-- But for the blocks of S, all that was there is as it was. -/
structure Kept (S : Nat → Prop) (w w' : World) : Prop where
  os : w'.os = w.os
  tape : w'.tape = w.tape
  output : w'.output = w.output
  size : w.heap.size ≤ w'.heap.size
  block : ∀ k, k < w.heap.size → ¬ S k → w'.heap[k]? = w.heap[k]?

section
variable {S S' : Nat → Prop} {w w' w2 : World}
theorem Kept.refl (S : Nat → Prop) (w : World) : Kept S w w := ⟨rfl, rfl, rfl, Nat.le_refl _, fun _ _ _ => rfl⟩
theorem Kept.mono (h : Kept S w w') (hs : ∀ k, k < w.heap.size → S k → S' k) : Kept S' w w' := ⟨h.os, h.tape, h.output, h.size, fun k hk hn => h.block k hk fun hs' => hn (hs k hk hs')⟩
theorem Kept.trans (h : Kept S w w') (k : Kept S w' w2) : Kept S w w2 :=
  ⟨k.os.trans h.os, k.tape.trans h.tape, k.output.trans h.output, Nat.le_trans h.size k.size, fun i hi hn => (k.block i (Nat.lt_of_lt_of_le hi h.size) hn).trans (h.block i hi hn)⟩
/-- The second step may turn, besides S, what is new since w. -/
theorem Kept.then_ (h : Kept S w w') (k : Kept S' w' w2) (hs : ∀ i, i < w.heap.size → S' i → S i) : Kept S w w2 :=
  ⟨k.os.trans h.os, k.tape.trans h.tape, k.output.trans h.output, Nat.le_trans h.size k.size, fun i hi hn => (k.block i (Nat.lt_of_lt_of_le hi h.size) fun hs' => hn (hs i hi hs')).trans (h.block i hi hn)⟩
theorem Kept.drew (h : Kept S w w') : Kept S w w'.drew := ⟨h.os, h.tape, h.output, h.size, h.block⟩
theorem Kept.drewN (h : Kept S w w') (n : Nat) : Kept S w (w'.drewN n) := ⟨h.os, h.tape, h.output, h.size, h.block⟩
theorem Kept.alloc (h : Kept S w w') (o : Obj) : Kept S w (w'.alloc o) :=
  ⟨h.os, h.tape, h.output, Nat.le_trans h.size (by simp), fun k hk hn => (Below.heap_alloc w' o k (Nat.lt_of_lt_of_le hk h.size)).trans (h.block k hk hn)⟩
theorem Kept.setCell (h : Kept S w w') {p : Addr} (hp : S p.block ∨ w.heap.size ≤ p.block) (u : Value) : Kept S w (w'.setCell p u) :=
  ⟨h.os, h.tape, h.output, by simpa [World.setCell] using h.size, fun k hk hn => (Below.heap_setCell w' p u k (by
    rintro rfl
    rcases hp with hp | hp
    · exact hn hp
    · omega)).trans (h.block k hk hn)⟩
theorem Kept.grown {row : Option Nat} (h : Kept S w w') (hg : w'.grownBy w2 row) (hr : ∀ k, row = some k → S k ∨ w.heap.size ≤ k) : Kept S w w2 :=
  ⟨hg.os.trans h.os, hg.tape.trans h.tape, hg.output.trans h.output, Nat.le_trans h.size hg.size, fun k hk hn => (hg.block k (Nat.lt_of_lt_of_le hk h.size) (fun e => by
    rcases hr k e.symm with hr | hr
    · exact hn hr
    · omega)).trans (h.block k hk hn)⟩
theorem Kept.of_below (h : Below w.heap.size w w') : Kept S w w' := ⟨h.os, h.tape, h.output, h.size, fun k hk _ => h.block k hk⟩
theorem Kept.then_below (h : Kept S w w') (k : Below w'.heap.size w' w2) : Kept S w w2 := h.trans (Kept.of_below k)
/-- Below B, where all of S lies at or beyond B. -/
theorem Kept.below {B : Nat} (h : Kept S w w') (hB : B ≤ w.heap.size) (hs : ∀ k, S k → B ≤ k) : Below B w w' :=
  ⟨h.os, h.tape, h.output, h.size, fun k hk => h.block k (Nat.lt_of_lt_of_le hk hB) fun hn => by have := hs k hn; omega⟩
theorem Kept.to_below (h : Kept (fun _ => False) w w') : Below w.heap.size w w' := h.below (Nat.le_refl _) fun _ hf => hf.elim
theorem Blk.kept {g : Nat} {t : TypeId} {cs : Array Value} (h : Blk w g t cs) (hk : Kept S w w') (hg : ¬ S g) : Blk w' g t cs := (hk.block g h.lt hg).trans h
theorem own_kept {base : Nat} {e : TypeId} {size n : Nat} {v : Value} {xs : List Value} (h : w.ownsRow base e size v n xs) (hk : Kept S w w') (hg : ∀ g, v.ownBlock = some g → ¬ S g) : w'.ownsRow base e size v n xs := by
  refine ⟨h.1, ?_⟩
  rcases h.2 with hn | ⟨g, cap, cur, rfl, hb, hgg, rest⟩
  · exact .inl hn
  · refine .inr ⟨g, cap, cur, rfl, hb, ?_, rest⟩
    rw [hk.block g (Array.getElem?_eq_some_iff.1 hgg).1 (hg g rfl)]
    exact hgg
theorem own_drew {base : Nat} {e : TypeId} {size n : Nat} {v : Value} {xs : List Value} (h : w.ownsRow base e size v n xs) : w.drew.ownsRow base e size v n xs := h
theorem own_drewN {base : Nat} {e : TypeId} {size n : Nat} {v : Value} {xs : List Value} (h : w.ownsRow base e size v n xs) (k : Nat) : (w.drewN k).ownsRow base e size v n xs := h
theorem own_base {base base' : Nat} {e : TypeId} {size n : Nat} {v : Value} {xs : List Value} (h : w.ownsRow base e size v n xs) (hb : ∀ g, v.ownBlock = some g → base' ≤ g) : w.ownsRow base' e size v n xs := by
  refine ⟨h.1, ?_⟩
  rcases h.2 with hn | ⟨g, cap, cur, rfl, _, rest⟩
  · exact .inl hn
  · exact .inr ⟨g, cap, cur, rfl, hb g rfl, rest⟩
end

theorem Kept.set1 (w : World) (b i : Nat) (u : Value) : Kept (fun k => k = b) w (w.setCell ⟨b, i, none⟩ u) := Kept.setCell (S := fun k => k = b) (p := ⟨b, i, none⟩) (Kept.refl _ w) (.inl rfl) u
theorem Blk.new_at {w : World} {n : Nat} (h : w.heap.size = n) (t : TypeId) (cs : Array Value) : Blk (w.alloc (.cells cs t)) n t cs := h ▸ Blk.new w t cs
theorem made_one (z : Value) (n : Nat) : madeCells #[z] n = (List.replicate n z).toArray := by
  apply Array.ext'
  rw [toList_madeCells_one]

theorem grown_undrew {w w' : World} {row : Option Nat} (h : w.drew.grownBy w' row) : w.grownBy w' row := ⟨h.os, h.tape, h.output, h.size, h.block⟩

theorem own_slice {w : World} {base : Nat} {e : TypeId} {size n : Nat} {v : Value} {xs : List Value} (h : w.ownsRow base e size v n xs) : ∃ A cap, v = .slice A n cap := by
  rcases h.2 with ⟨rfl, rfl⟩ | ⟨g', cap, cur, rfl, _, hh, _⟩
  · exact ⟨none, 0, rfl⟩
  · exact ⟨_, cap, rfl⟩
theorem own_heap {w : World} {base : Nat} {e : TypeId} {size n g : Nat} {v : Value} {xs : List Value} (h : w.ownsRow base e size v n xs) (hg : v.ownBlock = some g) : ∃ cs, Blk w g e cs := by
  rcases h.2 with ⟨rfl, _⟩ | ⟨g', cap, cur, rfl, _, hh, _⟩
  · cases hg
  · injection hg with hg
    subst hg
    exact ⟨cur, hh⟩
theorem own_own_ne {w : World} {base base' : Nat} {e e' : TypeId} {size size' n n' g : Nat} {v v' : Value} {xs xs' : List Value} (h : w.ownsRow base e size v n xs) (h' : w.ownsRow base' e' size' v' n' xs') (hne : e ≠ e')
    (hg : v.ownBlock = some g) : v'.ownBlock ≠ some g := fun hg' => by
  obtain ⟨cs, hb⟩ := own_heap h hg
  obtain ⟨cs', hb'⟩ := own_heap h' hg'
  exact hb.ne_ hb' hne rfl
theorem own_obj_ne {w : World} {base : Nat} {e : TypeId} {size n l : Nat} {v : Value} {xs : List Value} {o : Obj} (h : w.ownsRow base e size v n xs) (ho : w.heap[l]? = some o) (hn : ∀ c t f, o ≠ .cells c t f) : v.ownBlock ≠ some l := fun hg => by
  obtain ⟨cs, hb⟩ := own_heap h hg
  unfold Blk at hb
  rw [ho] at hb
  injection hb with hb
  exact hn _ _ _ hb
theorem Blk.obj_ne {w : World} {g l : Nat} {t : TypeId} {cs : Array Value} {o : Obj} (h : Blk w g t cs) (ho : w.heap[l]? = some o) (hn : ∀ c t f, o ≠ .cells c t f) : g ≠ l := fun hg => by
  subst hg
  unfold Blk at h
  rw [ho] at h
  injection h with h
  exact hn _ _ _ h

theorem below_drewN {B : Nat} {a w : World} (h : Below B a w) (n : Nat) : Below B a (w.drewN n) := ⟨h.os, h.tape, h.output, h.size, h.block⟩
/-- One reading step more. -/
theorem below_then {B : Nat} {a w w' : World} (h : Below B a w) (hB : B ≤ a.heap.size) (k : Below w.heap.size w w') : Below B a w' := h.trans (k.mono (Nat.le_trans hB h.size))
theorem block_of_add (a : Addr) (n : Nat) : (a.add n).block = a.block := by unfold Addr.add; split <;> rfl
theorem addr_add (g j : Nat) : (⟨g, 0, none⟩ : Addr).add j = ⟨g, j, none⟩ := by unfold Addr.add; split <;> simp_all

/-- Rows of elements of sz cells each. -/
theorem flat_len {α : Type} (enc : α → List Value) (sz : Nat) (h : ∀ a, (enc a).length = sz) : ∀ L : List α, (L.flatMap enc).length = L.length * sz
  | [] => by simp
  | a :: L => by rw [List.flatMap_cons, List.length_append, h, flat_len enc sz h L, List.length_cons, Nat.add_mul]; omega
theorem flat_get {α : Type} (enc : α → List Value) (sz : Nat) (h : ∀ a, (enc a).length = sz) : ∀ (L : List α) (i j : Nat) (hi : i < L.length), j < sz → (L.flatMap enc)[i * sz + j]? = (enc L[i])[j]?
  | a :: L, 0, j, _, hj => by
    rw [List.flatMap_cons, List.getElem?_append_left (by rw [h]; omega)]
    simp
  | a :: L, i + 1, j, hi, hj => by
    rw [List.flatMap_cons, List.getElem?_append_right (by rw [h, Nat.add_mul]; omega), h]
    have : (i + 1) * sz + j - sz = i * sz + j := by rw [Nat.add_mul]; omega
    rw [this, flat_get enc sz h L i j (by simpa using hi) hj]
    simp
theorem own_cell {α : Type} {w : World} {base : Nat} {e : TypeId} {sz n cap g : Nat} {L : List α} (enc : α → List Value) (hs : ∀ a, (enc a).length = sz)
    (h : w.ownsRow base e sz (.slice (some ⟨g, 0, none⟩) n cap) n (L.flatMap enc)) {i j : Nat} (hi : i < L.length) (hj : j < sz) : w.cell? ⟨g, i * sz + j, none⟩ = (enc L[i])[j]? := by
  have h2 := h.cells (g := g) rfl (i * sz + j)
  rw [addr_add, flat_get enc sz hs L i j hi hj] at h2
  obtain ⟨u, hu⟩ : ∃ u, (enc L[i])[j]? = some u := ⟨_, List.getElem?_eq_getElem (by rw [hs (L[i])]; exact hj)⟩
  rw [h2 u hu, hu]
theorem own_form {w : World} {base : Nat} {e : TypeId} {size : Nat} {v : Value} {n : Nat} {xs : List Value} (h : w.ownsRow base e size v n xs) (hn : 0 < n) :
    ∃ g cap, v = .slice (some ⟨g, 0, none⟩) n cap ∧ base ≤ g ∧ g < w.heap.size ∧ n ≤ cap := by
  rcases h.2 with ⟨_, h0⟩ | ⟨g, cap, cur, hv, hb, hg, hc, _⟩
  · omega
  · exact ⟨g, cap, hv, hb, Blk.lt hg, hc⟩
theorem own_frozen {w : World} {base : Nat} {e : TypeId} {sz n cap g : Nat} {xs : List Value}
    (h : w.ownsRow base e sz (.slice (some ⟨g, 0, none⟩) n cap) n xs) (i : Nat) : w.frozen? ⟨g, i, none⟩ = false := by
  rcases h.2 with ⟨h, _⟩ | ⟨g', cap', cur, hv, _, hh, _⟩
  · cases h
  · injection hv with hv
    injection hv with hv
    injection hv with hv
    subst hv
    exact Blk.frozen (t := e) hh i
theorem own_lt {w : World} {base : Nat} {e : TypeId} {sz n cap g : Nat} {xs : List Value} (h : w.ownsRow base e sz (.slice (some ⟨g, 0, none⟩) n cap) n xs) : g < w.heap.size := (h.lt g rfl).2

/-- make([]T, n) at whatever n. -/
theorem run_make_rowN {P : Program} (t e : TypeId) (i : TypeInfo) (z : Value) (ht : P.underlying t = some (.slice e)) (hi : P.info? e = some i) (hz : i.zero = some z)
    (kl kc : IntKind) (n c : Nat) (hnc : n ≤ c) (hbytes : i.bytes * c ≤ 281474976710656) (h63 : c ≤ 9223372036854775807) (w : World) :
    (Instr.makeSlice t (.int kl (n : Int)) (.int kc (c : Int))).run P w = .ok (.slice (some ⟨w.heap.size, 0, none⟩) n c) (w.alloc (.cells (madeCells z.cells (c * i.size)) e)) := by
  have hb : (i.bytes : Int) * (c : Int) ≤ 281474976710656 := by
    have h : ((i.bytes * c : Nat) : Int) ≤ 281474976710656 := by omega
    rwa [Int.natCast_mul] at h
  have hr := run_make (P := P) w t e i z ht hi hz kl kc n c (by omega) (by omega) hb (by omega)
  simp only [Int.toNat_natCast] at hr
  exact hr

/-- append of ONE element that lies in a block of its own (known whole), at a step of a region that draws its order. -/
theorem step_push {P : Program} (w : World) {ops : Array Oper} {o : Oper} {a : Act} {K : Act → World → Prop} {Q : Exit → Act → World → Prop} {E : Prop} (hgd : o.guard = none) (s x : Operand) (t : TypeId)
    (ho : o.op = .call { callee := .builtin .append, args := #[s, x], argTypes := #[t, t] })
    (base : Nat) (e : TypeId) (i : TypeInfo) (z : Value) (size bytes : Nat) (ht : P.underlying t = some (.slice e)) (hi : P.info? e = some i) (hz : i.zero = some z)
    (hsize : i.size = size) (hby : i.bytes = bytes) (hzs : z.cells.size = size) (hsz : 0 < size)
    (v : Value) (n : Nat) (xs : List Value) (hs : a.eval s = v) (hown : w.ownsRow base e size v n xs)
    (g0 : Nat) (cs : Array Value) (hx : a.eval x = .slice (some ⟨g0, 0, none⟩) 1 1) (hb : Blk w g0 e cs) (hl : cs.toList.length = 1 * size) (h1 : ∀ u ∈ cs.toList, u.oneCell' = true)
    (hbytes : (n + 1) * bytes ≤ 140737488355328) (hby0 : 0 < bytes) (hbase : base ≤ g0)
    (h : ∀ g cap w', w'.ownsRow base e size (.slice (some ⟨g, 0, none⟩) (n + 1) cap) (n + 1) (xs ++ cs.toList) → w.grownBy w' v.ownBlock → (v.ownBlock = some g ∨ g = w.heap.size) → g < w'.heap.size → K (a.put o.dst (.slice (some ⟨g, 0, none⟩) (n + 1) cap)) w') :
    if Region.wanted o (yielded ops a.tmps) = true then Oper.wp P o a w K Q else E :=
  step_append_lies w hgd s x t ho base e i z size bytes ht hi hz hsize hby hzs hsz v n xs hs hown ⟨g0, 0, none⟩ 1 1 cs.toList hx hl (World.news_of_block hb) h1 (by omega)
    (by have := Nat.le_mul_of_pos_right (n + 1) hby0; unfold maxLen; omega) hbytes (Nat.le_of_lt (Nat.lt_of_le_of_lt hbase hb.lt)) w.heap.size rfl h
/-- The same in a region that does not draw. -/
theorem list_push {P : Program} (w : World) {ops : Array Oper} {rest : List Oper} {o : Oper} {a : Act} {Q : Exit → Act → World → Prop} (hgd : o.guard = none) (s x : Operand) (t : TypeId)
    (ho : o.op = .call { callee := .builtin .append, args := #[s, x], argTypes := #[t, t] })
    (base : Nat) (e : TypeId) (i : TypeInfo) (z : Value) (size bytes : Nat) (ht : P.underlying t = some (.slice e)) (hi : P.info? e = some i) (hz : i.zero = some z)
    (hsize : i.size = size) (hby : i.bytes = bytes) (hzs : z.cells.size = size) (hsz : 0 < size)
    (v : Value) (n : Nat) (xs : List Value) (hs : a.eval s = v) (hown : w.ownsRow base e size v n xs)
    (g0 : Nat) (cs : Array Value) (hx : a.eval x = .slice (some ⟨g0, 0, none⟩) 1 1) (hb : Blk w g0 e cs) (hl : cs.toList.length = 1 * size) (h1 : ∀ u ∈ cs.toList, u.oneCell' = true)
    (hbytes : (n + 1) * bytes ≤ 140737488355328) (hby0 : 0 < bytes) (hbase : base ≤ g0)
    (h : ∀ g cap w', w'.ownsRow base e size (.slice (some ⟨g, 0, none⟩) (n + 1) cap) (n + 1) (xs ++ cs.toList) → w.grownBy w' v.ownBlock → (v.ownBlock = some g ∨ g = w.heap.size) → g < w'.heap.size → wpList P ops Q rest (a.put o.dst (.slice (some ⟨g, 0, none⟩) (n + 1) cap)) w') : wpList P ops Q (o :: rest) a w :=
  wpList_append_lies w hgd s x t ho base e i z size bytes ht hi hz hsize hby hzs hsz v n xs hs hown ⟨g0, 0, none⟩ 1 1 cs.toList hx hl (World.news_of_block hb) h1 (by omega)
    (by have := Nat.le_mul_of_pos_right (n + 1) hby0; unfold maxLen; omega) hbytes (Nat.le_of_lt (Nat.lt_of_le_of_lt hbase hb.lt)) w.heap.size rfl h

theorem ret_int {k : IntKind} {a b : Int} (h : a = b) : Ending.returned (.int k a) = .returned (.int k b) := by rw [h]
theorem ret_bool {a b : Bool} (h : a = b) : Ending.returned (.bool a) = .returned (.bool b) := by rw [h]
end Go.Proofs.YtmbekchnfbmhbaaGreat

/- Bit operations at int, both sides not below 0. -/
namespace Go.Proofs.YtmbekchnfbmhbaaGreat
theorem xor_mod2 (n m : Nat) : (n ^^^ m) % 2 = (n + m) % 2 := by
  have h : (n ^^^ m).testBit 0 = (n.testBit 0 ^^ m.testBit 0) := Nat.testBit_xor ..
  rw [Nat.testBit_zero, Nat.testBit_zero, Nat.testBit_zero] at h
  rcases Nat.mod_two_eq_zero_or_one n with a | a <;> rcases Nat.mod_two_eq_zero_or_one m with b | b <;> rcases Nat.mod_two_eq_zero_or_one (n ^^^ m) with c | c <;> simp [a, b, c] at h <;> omega
theorem ofInt_i64 (a : Nat) (ha : a < 9223372036854775808) : (BitVec.ofInt 64 (a : Int)).toNat = a := by
  rw [BitVec.ofInt_natCast, BitVec.toNat_ofNat]; exact Nat.mod_eq_of_lt (by omega)
theorem i64_and_nat (a b : Nat) (ha : a < 9223372036854775808) (hb : b < 9223372036854775808) : bits .and .i64 (a : Int) (b : Int) = ((a &&& b : Nat) : Int) := by
  have hx : a &&& b < 2 ^ 63 := Nat.and_lt_two_pow _ (by omega)
  show IntKind.i64.wrap ((BitVec.ofInt 64 (a : Int) &&& BitVec.ofInt 64 (b : Int)).toNat : Int) = _
  rw [BitVec.toNat_and, ofInt_i64 a ha, ofInt_i64 b hb, IntKind.wrap_i64]
  omega
theorem i64_or_nat (a b : Nat) (ha : a < 9223372036854775808) (hb : b < 9223372036854775808) : bits .or .i64 (a : Int) (b : Int) = ((a ||| b : Nat) : Int) := by
  have hx : a ||| b < 2 ^ 63 := Nat.or_lt_two_pow (by omega) (by omega)
  show IntKind.i64.wrap ((BitVec.ofInt 64 (a : Int) ||| BitVec.ofInt 64 (b : Int)).toNat : Int) = _
  rw [BitVec.toNat_or, ofInt_i64 a ha, ofInt_i64 b hb, IntKind.wrap_i64]
  omega
theorem i64_xor_nat (a b : Nat) (ha : a < 9223372036854775808) (hb : b < 9223372036854775808) : bits .xor .i64 (a : Int) (b : Int) = ((a ^^^ b : Nat) : Int) := by
  have hx : a ^^^ b < 2 ^ 63 := Nat.xor_lt_two_pow (by omega) (by omega)
  show IntKind.i64.wrap ((BitVec.ofInt 64 (a : Int) ^^^ BitVec.ofInt 64 (b : Int)).toNat : Int) = _
  rw [BitVec.toNat_xor, ofInt_i64 a ha, ofInt_i64 b hb, IntKind.wrap_i64]
  omega
theorem i64_and_one (a : Int) (h0 : 0 ≤ a) (ha : a < 9223372036854775808) : bits .and .i64 a 1 = a % 2 := by
  obtain ⟨n, rfl⟩ := Int.eq_ofNat_of_zero_le h0
  have := i64_and_nat n 1 (by omega) (by omega)
  rw [Nat.and_one_is_mod] at this
  rw [show (1 : Int) = ((1 : Nat) : Int) from rfl, this]
  omega
theorem i64_xor_one (a : Int) (h0 : 0 ≤ a) (ha : a < 9223372036854775808) : bits .xor .i64 a 1 = if a % 2 = 0 then a + 1 else a - 1 := by
  obtain ⟨n, rfl⟩ := Int.eq_ofNat_of_zero_le h0
  have := i64_xor_nat n 1 (by omega) (by omega)
  rw [show (1 : Int) = ((1 : Nat) : Int) from rfl, this]
  have h2 : (n ^^^ 1) % 2 = (n + 1) % 2 := xor_mod2 _ _
  have h3 : (n ^^^ 1) / 2 = n / 2 := by rw [Nat.xor_div_two]; simp
  split <;> omega
theorem xor_and_one (a b : Int) (h0 : 0 ≤ a) (ha : a < 9223372036854775808) (g0 : 0 ≤ b) (hb : b < 9223372036854775808) : bits .and .i64 (bits .xor .i64 a b) 1 = (a + b) % 2 := by
  obtain ⟨n, rfl⟩ := Int.eq_ofNat_of_zero_le h0
  obtain ⟨m, rfl⟩ := Int.eq_ofNat_of_zero_le g0
  rw [i64_xor_nat n m (by omega) (by omega)]
  have h1 : n ^^^ m < 2 ^ 63 := Nat.xor_lt_two_pow (by omega) (by omega)
  rw [i64_and_one _ (by omega) (by omega)]
  have h2 : (n ^^^ m) % 2 = (n + m) % 2 := xor_mod2 _ _
  omega
end Go.Proofs.YtmbekchnfbmhbaaGreat

/- Readings of arguments, opened. -/
namespace Go.Proofs.YtmbekchnfbmhbaaGreat
open Go.ChangeShapes Go.WideShapes Go.ChangeAt Go.RowKit

/-- What a walk is told of a slice of integers that came in: it is nil; or it leads to a row of 'cap' cells, the numbers 'zs' (the first 'len' are its elements, the rest its spare room), each fitting its kind. -/
def IsRow (k : IntKind) (w : World) (a : Option Addr) (len cap : Nat) (zs : List Int) : Prop :=
  (a = none ∧ len = 0 ∧ cap = 0 ∧ zs = []) ∨
  ∃ x, a = some x ∧ len ≤ cap ∧ cap ≤ maxLen ∧ zs.length = cap ∧ (∀ i, i < zs.length → w.cell? (x.add i) = some (.int k (zs.getD i 0))) ∧ ∀ n ∈ zs, (Lit.int k n).wf = true

theorem isRow_of {H : Type} {enc : TypeId × Value → H} {P : Program} {W : World} {b : Nat} {hd : Bool} {t e : TypeId} {k : IntKind} {a : Option Addr} {len cap : Nat} {d : DataW H} {p : List MemPlace}
    (ht : P.underlying t = some (.slice e)) (he : P.underlying e = some (.int k)) (hc : P.cellsOf e = 1) (h : DataW.Trod enc P W b (fun _ => true) hd t (.slice a len cap) d p) : ∃ zs, IsRow k W a len cap zs := by
  obtain ⟨fuel, hf⟩ := h
  rcases open_ints ht he hc hf with ⟨hcs, _⟩ | ⟨x, l, c, zs, hcs, _, hl, hm, hz, _, hcell, hwz⟩
  · simp [Value.cells] at hcs
    obtain ⟨rfl, rfl, rfl⟩ := hcs
    exact ⟨[], .inl ⟨rfl, rfl, rfl, rfl⟩⟩
  · simp [Value.cells] at hcs
    obtain ⟨rfl, rfl, rfl⟩ := hcs
    exact ⟨zs, .inr ⟨_, rfl, hl, hm, by simpa using hz, hcell, hwz⟩⟩
/-- A slice of bools that came in. -/
def IsBools (w : World) (a : Option Addr) (len cap : Nat) (B : Nat → Bool) : Prop :=
  (a = none ∧ len = 0 ∧ cap = 0) ∨ ∃ x, a = some x ∧ len ≤ cap ∧ cap ≤ maxLen ∧ ∀ i, i < cap → w.cell? (x.add i) = some (.bool (B i))

theorem isBools_of {H : Type} {enc : TypeId × Value → H} {P : Program} {W : World} {b : Nat} {hd : Bool} {t e : TypeId} {a : Option Addr} {len cap : Nat} {d : DataW H} {p : List MemPlace}
    (ht : P.underlying t = some (.slice e)) (he : P.underlying e = some .bool) (hc : P.cellsOf e = 1) (h : DataW.Trod enc P W b (fun _ => true) hd t (.slice a len cap) d p) : ∃ B, IsBools W a len cap B := by
  obtain ⟨fuel, hf⟩ := h
  rcases Go.Deep.open_bools ht he hc hf with ⟨hcs, _⟩ | ⟨x, l, c, B, hcs, _, hl, hm, _, hcell⟩
  · simp [Value.cells] at hcs
    obtain ⟨rfl, rfl, rfl⟩ := hcs
    exact ⟨fun _ => false, .inl ⟨rfl, rfl, rfl⟩⟩
  · simp [Value.cells] at hcs
    obtain ⟨rfl, rfl, rfl⟩ := hcs
    exact ⟨B, .inr ⟨_, rfl, hl, hm, hcell⟩⟩
end Go.Proofs.YtmbekchnfbmhbaaGreat

/- The plain law's side of layer 19: what a trail is, in lists. -/
namespace Go.Proofs.YtmbekchnfbmhbaaGreat

structure Pt where
  lit : Int
  level : Int
  reason : Int

structure Tr where
  n : Nat
  L : List Pt
  lv : Nat

def isAt (node : Int) (p : Pt) : Bool := p.lit / 2 == node
def find (L : List Pt) (node : Int) : Option Pt := L.find? (isAt node)
def atOf (L : List Pt) (nd : Nat) : Nat := match L.findIdx? (isAt nd) with
  | some i => i + 1
  | none => 0

structure Tr.Ok (M : Tr) : Prop where
  n : M.n ≤ 65536
  lv : M.lv ≤ 65536
  lit : ∀ p ∈ M.L, 0 ≤ p.lit ∧ p.lit / 2 < M.n
  level : ∀ p ∈ M.L, 0 ≤ p.level ∧ p.level ≤ 65536
  nodup : M.L.Pairwise fun p q => p.lit / 2 ≠ q.lit / 2

theorem nodup_bound : ∀ (n : Nat) (l : List Nat), l.Nodup → (∀ x ∈ l, x < n) → l.length ≤ n
  | 0, [], _, _ => Nat.le_refl _
  | 0, x :: _, _, h => absurd (h x (by simp)) (by omega)
  | n + 1, l, hd, h => by
    have h1 := nodup_bound n (l.erase n) (hd.erase n) fun x hx => by
      have hx' := (hd.mem_erase_iff).1 hx
      have := h x hx'.2
      omega
    have h2 : l.length ≤ (l.erase n).length + 1 := by rw [List.length_erase]; split <;> omega
    omega

theorem Tr.Ok.len {M : Tr} (h : M.Ok) : M.L.length ≤ M.n := by
  have := nodup_bound M.n (M.L.map fun p => (p.lit / 2).toNat) (by
    rw [List.Nodup, List.pairwise_map]
    refine List.Pairwise.imp_of_mem ?_ h.nodup
    intro a b ha hb hab
    have := h.lit a ha
    have := h.lit b hb
    omega) (by
    intro x hx
    obtain ⟨p, hp, rfl⟩ := List.mem_map.1 hx
    have := h.lit p hp
    omega)
  simpa using this

theorem find_some_at {L : List Pt} {node : Nat} {p : Pt} (h : find L node = some p) : ∃ i, ∃ hi : i < L.length, L[i] = p ∧ atOf L node = i + 1 ∧ p.lit / 2 = node := by
  unfold find at h
  have hp := List.find?_some h
  cases hf : L.findIdx? (isAt node) with
  | none =>
    rw [List.findIdx?_eq_none_iff] at hf
    have := hf p (List.mem_of_find?_eq_some h)
    rw [hp] at this
    cases this
  | some i =>
    have hi := List.findIdx?_eq_some_iff_getElem.1 hf
    obtain ⟨hlt, hpi, hbefore⟩ := hi
    refine ⟨i, hlt, ?_, by simp [atOf, hf], by simpa [isAt] using hp⟩
    have : L.find? (isAt node) = some L[i] := by
      rw [List.find?_eq_some_iff_getElem]
      exact ⟨hpi, i, hlt, rfl, fun j hj => by simpa using hbefore j hj⟩
    rw [this] at h
    injection h
theorem find_none_at {L : List Pt} {node : Nat} (h : find L node = none) : atOf L node = 0 := by
  unfold find at h
  rw [List.find?_eq_none] at h
  have : L.findIdx? (isAt node) = none := List.findIdx?_eq_none_iff.2 fun x hx => by simpa using h x hx
  simp [atOf, this]
theorem find_out {M : Tr} (h : M.Ok) {node : Int} (hn : node < 0 ∨ M.n ≤ node) : find M.L node = none := by
  unfold find
  rw [List.find?_eq_none]
  intro p hp hc
  have := h.lit p hp
  simp [isAt] at hc
  omega

theorem find_append (L : List Pt) (p : Pt) (node : Int) : find (L ++ [p]) node = match find L node with
    | some q => some q
    | none => if p.lit / 2 = node then some p else none := by
  unfold find
  rw [List.find?_append]
  cases h : L.find? (isAt node) with
  | some q => simp
  | none =>
    by_cases hp : p.lit / 2 = node
    · simp [isAt, hp]
    · simp [isAt, hp]
theorem atOf_append (L : List Pt) (p : Pt) (nd : Nat) (h : find L (p.lit / 2) = none) (hp : 0 ≤ p.lit) : atOf (L ++ [p]) nd = if (p.lit / 2).toNat = nd then L.length + 1 else atOf L nd := by
  unfold atOf
  rw [List.findIdx?_append]
  by_cases he : (p.lit / 2).toNat = nd
  · rw [if_pos he]
    have e : (nd : Int) = p.lit / 2 := by omega
    have hn : L.findIdx? (isAt nd) = none := by
      unfold find at h
      rw [List.find?_eq_none] at h
      exact List.findIdx?_eq_none_iff.2 fun x hx => by rw [e]; simpa using h x hx
    have h1 : isAt (nd : Int) p = true := by simp [isAt, e]
    simp [hn, List.findIdx?_cons, h1]
  · rw [if_neg he]
    have h1 : isAt (nd : Int) p = false := by
      simp only [isAt, beq_eq_false_iff_ne, ne_eq]
      omega
    cases hL : L.findIdx? (isAt nd) with
    | some i => simp
    | none => simp [List.findIdx?_cons, h1]
theorem Tr.Ok.push {M : Tr} (h : M.Ok) (p : Pt) (h0 : 0 ≤ p.lit) (h1 : p.lit / 2 < M.n) (hf : find M.L (p.lit / 2) = none) (hl : p.level = M.lv) : (⟨M.n, M.L ++ [p], M.lv⟩ : Tr).Ok := by
  refine ⟨h.n, h.lv, ?_, ?_, ?_⟩
  · intro q hq
    rcases List.mem_append.1 hq with hq | hq
    · exact h.lit q hq
    · obtain rfl : q = p := by simpa using hq
      exact ⟨h0, h1⟩
  · intro q hq
    rcases List.mem_append.1 hq with hq | hq
    · exact h.level q hq
    · obtain rfl : q = p := by simpa using hq
      have := h.lv
      omega
  · show (M.L ++ [p]).Pairwise _
    rw [List.pairwise_append]
    refine ⟨h.nodup, by simp, fun a ha b hb => ?_⟩
    obtain rfl : b = p := by simpa using hb
    intro e
    unfold find at hf
    rw [List.find?_eq_none] at hf
    have := hf a ha
    simp [isAt, e] at this

/-- How many stand above a level, from the end on. -/
def above (lev : Int) (L : List Pt) : Nat := (L.reverse.takeWhile fun p => decide (lev < p.level)).length
theorem above_le (lev : Int) (L : List Pt) : above lev L ≤ L.length := by
  have := (List.takeWhile_sublist (p := fun p : Pt => decide (lev < p.level)) (l := L.reverse)).length_le
  simpa [above] using this
theorem above_lt {lev : Int} {L : List Pt} {k : Nat} (hk : k < above lev L) (hi : L.length - 1 - k < L.length) : lev < L[L.length - 1 - k].level := by
  have h1 := List.all_takeWhile (p := fun p : Pt => decide (lev < p.level)) (l := L.reverse)
  rw [List.all_eq_true] at h1
  have h2 := h1 (L.reverse.takeWhile fun p : Pt => decide (lev < p.level))[k] (List.getElem_mem _)
  rw [(List.takeWhile_prefix (p := fun p : Pt => decide (lev < p.level)) (l := L.reverse)).getElem hk, List.getElem_reverse] at h2
  simpa using h2
theorem above_at {lev : Int} {L : List Pt} (hk : above lev L < L.length) : ¬ lev < L[L.length - 1 - above lev L].level := by
  have h := List.takeWhile_append_dropWhile (p := fun p : Pt => decide (lev < p.level)) (l := L.reverse)
  have hd : L.reverse.dropWhile (fun p : Pt => decide (lev < p.level)) ≠ [] := by
    intro e
    rw [e, List.append_nil] at h
    have : above lev L = L.length := by unfold above; rw [h, List.length_reverse]
    omega
  have h1 := List.head_dropWhile_not (fun p : Pt => decide (lev < p.level)) hd
  have h2 : (L.reverse.dropWhile (fun p : Pt => decide (lev < p.level))).head hd = L.reverse[above lev L]'(by simpa using hk) := by
    rw [List.head_eq_getElem]
    have h3 : L.reverse[above lev L]'(by simpa using hk) = (L.reverse.takeWhile (fun p : Pt => decide (lev < p.level)) ++ L.reverse.dropWhile (fun p : Pt => decide (lev < p.level)))[above lev L]'(by rw [h]; simpa using hk) := by
      congr 1; exact h.symm
    rw [h3, List.getElem_append_right (by unfold above; omega)]
    congr 1
    unfold above
    omega
  rw [h2, List.getElem_reverse] at h1
  simpa using h1
theorem find_take_none {L : List Pt} {m : Nat} (hm : m < L.length) (hp : L.Pairwise fun p q => p.lit / 2 ≠ q.lit / 2) : find (L.take m) (L[m].lit / 2) = none := by
  unfold find
  rw [List.find?_eq_none]
  intro q hq
  obtain ⟨i, hi, rfl⟩ := List.mem_take_iff_getElem.1 hq
  have := List.pairwise_iff_getElem.1 hp i m (by omega) hm (by omega)
  simpa [isAt] using this
theorem Tr.Ok.take {M : Tr} (h : M.Ok) (k : Nat) : (⟨M.n, M.L.take k, M.lv⟩ : Tr).Ok :=
  ⟨h.n, h.lv, fun p hp => h.lit p (List.mem_of_mem_take hp), fun p hp => h.level p (List.mem_of_mem_take hp), h.nodup.take⟩
theorem Tr.Ok.lower {M : Tr} (h : M.Ok) (k : Nat) (hk : k ≤ 65536) : (⟨M.n, M.L, k⟩ : Tr).Ok := ⟨h.n, hk, h.lit, h.level, h.nodup⟩

end Go.Proofs.YtmbekchnfbmhbaaGreat

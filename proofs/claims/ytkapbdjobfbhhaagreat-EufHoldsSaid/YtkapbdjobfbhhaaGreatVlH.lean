/- The signature that Check lays anew, name by name. -/
import Derived.Test.YtkapbdjobfbhhaaGreatVxG
namespace Go.Proofs.YtkapbdjobfbhhaaGreat
open Go.RowKit Go.Lib
theorem str_info : (Tryz.prog.info? 9).map (fun i => (i.zero, i.size, i.bytes)) = some (some (.string { data := #[] }), 1, 16) := by kernel_rfl
theorem fun_info : (Tryz.prog.info? 83).map (fun i => (i.zero, i.size, i.bytes)) = some (some (.agg #[.string { data := #[] }, .int .i64 0, .int .i64 0, .int .i64 0, .int .i64 0, .int .i64 0]), 6, 56) := by kernel_rfl
theorem mac_info : (Tryz.prog.info? 56).map (fun i => (i.zero, i.size, i.bytes)) = some (some (.agg #[.string { data := #[] }, .slice none 0 0, .int .i64 0, .int .i8 0, .string { data := #[] }, .slice none 0 0]), 6, 96) := by kernel_rfl
def strCells (s : ByteArray) : List Value := [.string s]
structure SigWf (g : SigV) : Prop where
  f : ∀ f ∈ g.funs, f.Wf
  m : ∀ m ∈ g.macs, I64 m.res
theorem SigAt.wf {w : World} {g : SigV} (h : SigAt w g) : SigWf g := by
  refine ⟨fun f hf => ?_, fun m hm => ?_⟩
  · obtain ⟨i, hi, rfl⟩ := List.getElem_of_mem hf
    obtain ⟨_, _, _, _, h1⟩ := h.f i hi
    exact h1.wf
  · obtain ⟨i, hi, rfl⟩ := List.getElem_of_mem hm
    obtain ⟨_, _, _, _, h1⟩ := h.m i hi
    exact h1.wf
structure CkI (w : World) (ob i j k : Nat) (g : SigV) (v0 v1 v2 : Value) (W : World) : Prop where
  blk : Blk W ob 26 #[v0, v1, v2]
  o0 : W.ownsRow (ob + 1) 9 1 v0 i ((g.sorts.take i).flatMap strCells)
  o1 : W.ownsRow (ob + 1) 83 6 v1 j ((g.funs.take j).flatMap FnM.cells)
  o2 : W.ownsRow (ob + 1) 56 6 v2 k ((g.macs.take k).flatMap MacM.cells)
  bel : Below w.heap.size w W
  ge : w.heap.size ≤ ob
  hi : i ≤ g.sorts.length
  hj : j ≤ g.funs.length
  hk : k ≤ g.macs.length
section
variable {w W W' : World} {ob i j k : Nat} {g : SigV} {v0 v1 v2 : Value}
theorem CkI.below (h : CkI w ob i j k g v0 v1 v2 W) (hb : Below W.heap.size W W') : CkI w ob i j k g v0 v1 v2 W' := by
  have hk := Kept.of_below (S := fun _ => False) hb
  exact ⟨h.blk.below hb h.blk.lt, own_kept h.o0 hk (fun _ _ e => e), own_kept h.o1 hk (fun _ _ e => e), own_kept h.o2 hk (fun _ _ e => e), h.bel.trans (hb.mono h.bel.size), h.ge, h.hi, h.hj, h.hk⟩
def upTo (g : SigV) (i j k : Nat) (A0 : Option Addr) (c0 : Nat) (A1 : Option Addr) (c1 : Nat) (A2 : Option Addr) (c2 : Nat) : SigV := ⟨A0, c0, g.sorts.take i, A1, c1, g.funs.take j, A2, c2, g.macs.take k⟩
theorem own_row {α : Type} {w : World} {base : Nat} {e : TypeId} {sz n c : Nat} {A : Option Addr} {L : List α} (enc : α → List Value) (hs : ∀ a, (enc a).length = sz) (h : w.ownsRow base e sz (.slice A n c) n (L.flatMap enc)) (i : Nat) (hi : i < L.length) (hn : L.length ≤ n) :
    ∃ b off, A = some ⟨b, off, none⟩ ∧ b < w.heap.size ∧ ∀ j, j < sz → w.cell? ⟨b, off + i * sz + j, none⟩ = (enc L[i])[j]? := by
  obtain ⟨g, cap, e1, _, hlt, _⟩ := own_form h (by omega)
  injection e1 with e1 e2 e3
  subst e1 e3
  exact ⟨g, 0, rfl, hlt, fun j hj => by rw [Nat.zero_add]; exact own_cell enc hs h hi hj⟩
theorem CkI.sig (h : CkI w ob i j k g v0 v1 v2 W) (hw : SigWf g) (hn : g.sorts.length ≤ 4 ∧ g.funs.length ≤ 12 ∧ g.macs.length ≤ 12) : ∃ A0 c0 A1 c1 A2 c2, v0 = .slice A0 i c0 ∧ v1 = .slice A1 j c1 ∧ v2 = .slice A2 k c2 ∧ SigAt W (upTo g i j k A0 c0 A1 c1 A2 c2) ∧ (upTo g i j k A0 c0 A1 c1 A2 c2).cells = #[v0, v1, v2] := by
  obtain ⟨A0, c0, rfl⟩ := own_slice h.o0
  obtain ⟨A1, c1, rfl⟩ := own_slice h.o1
  obtain ⟨A2, c2, rfl⟩ := own_slice h.o2
  have hi := h.hi
  have hj := h.hj
  have hk := h.hk
  have li : (g.sorts.take i).length = i := by rw [List.length_take]; omega
  have lj : (g.funs.take j).length = j := by rw [List.length_take]; omega
  have lk : (g.macs.take k).length = k := by rw [List.length_take]; omega
  refine ⟨A0, c0, A1, c1, A2, c2, rfl, rfl, rfl, ⟨?_, ?_, ?_, fun q hq => ?_, fun q hq => ?_, fun q hq => ?_⟩, ?_⟩
  · show (g.sorts.take i).length ≤ _; omega
  · show (g.funs.take j).length ≤ _; omega
  · show (g.macs.take k).length ≤ _; omega
  · obtain ⟨b, off, e, hlt, hc⟩ := own_row strCells (fun _ => rfl) h.o0 q hq (by omega)
    exact ⟨b, off, e, hlt, by have := hc 0 (by decide); rw [Nat.mul_one, Nat.add_zero] at this; exact this⟩
  · obtain ⟨b, off, e, hlt, hc⟩ := own_row FnM.cells (fun _ => rfl) h.o1 q hq (by omega)
    exact ⟨b, off, e, hlt, hc 0 (by decide), hc 1 (by decide), hc 2 (by decide), hc 3 (by decide), hc 4 (by decide), hc 5 (by decide), hw.f _ (List.mem_of_mem_take (List.getElem_mem hq))⟩
  · obtain ⟨b, off, e, hlt, hc⟩ := own_row MacM.cells (fun _ => rfl) h.o2 q hq (by omega)
    exact ⟨b, off, e, hlt, hc 0 (by decide), hc 1 (by decide), hc 2 (by decide), hc 3 (by decide), hc 4 (by decide), hc 5 (by decide), hw.m _ (List.mem_of_mem_take (List.getElem_mem hq))⟩
  · unfold SigV.cells upTo
    simp only [li, lj, lk]
theorem ne_types {W : World} {b b' : Nat} {e e' : TypeId} {s s' n n' : Nat} {v v' : Value} {xs xs' : List Value} (h : W.ownsRow b e s v n xs) (h' : W.ownsRow b' e' s' v' n' xs') (hne : e ≠ e') : ∀ q, v.ownBlock = some q → ¬ some q = v'.ownBlock := fun _ hq e1 => own_own_ne h' h (Ne.symm hne) e1.symm hq
theorem CkI.push0 {o : Obj} {W3 : World} {v : Value} (h : CkI w ob i j k g v0 v1 v2 W) (hlt : i < g.sorts.length) (hg : (W.alloc o).grownBy W3 v0.ownBlock) (ho : W3.ownsRow (ob + 1) 9 1 v (i + 1) ((g.sorts.take i).flatMap strCells ++ strCells g.sorts[i])) :
    CkI w ob (i + 1) j k g v v1 v2 (W3.setCell ⟨ob, 0, none⟩ v) := by
  have k0 : Kept (fun b => some b = v0.ownBlock) W (W.alloc o) := Kept.of_below ((Below.refl _ W).alloc (Nat.le_refl _) _)
  have hk := k0.grown hg (fun q e => .inl e.symm)
  have hb0 : ∀ b, some b = v0.ownBlock → ob + 1 ≤ b := fun b e => (h.o0.lt b e.symm).1
  have b3 := (h.blk.kept hk (fun e => by have := hb0 _ e; omega)).set_ 0 v
  simp only [List.setIfInBounds_toArray, List.set_cons_zero] at b3
  have k3 := Kept.set1 W3 ob 0 v
  refine ⟨b3, own_kept ?_ k3 (fun q hq => by have := (ho.lt q hq).1; omega), own_kept (own_kept h.o1 hk (ne_types h.o1 h.o0 (by decide))) k3 (fun q hq => by have := (h.o1.lt q hq).1; omega), own_kept (own_kept h.o2 hk (ne_types h.o2 h.o0 (by decide))) k3 (fun q hq => by have := (h.o2.lt q hq).1; omega), (h.bel.trans (hk.below h.bel.size (fun q e => by have := hb0 q e; have := h.ge; omega))).trans (k3.below (by have h1 := h.bel.size; have h2 := hk.size; omega) (fun q e => by rw [e]; exact h.ge)), h.ge, hlt, h.hj, h.hk⟩
  rw [List.take_add_one, List.getElem?_eq_getElem hlt, List.flatMap_append]
  simpa using ho
theorem CkI.push1 {o : Obj} {W3 : World} {v : Value} (h : CkI w ob i j k g v0 v1 v2 W) (hlt : j < g.funs.length) (hg : (W.alloc o).grownBy W3 v1.ownBlock) (ho : W3.ownsRow (ob + 1) 83 6 v (j + 1) ((g.funs.take j).flatMap FnM.cells ++ g.funs[j].cells)) :
    CkI w ob i (j + 1) k g v0 v v2 (W3.setCell ⟨ob, 1, none⟩ v) := by
  have k0 : Kept (fun b => some b = v1.ownBlock) W (W.alloc o) := Kept.of_below ((Below.refl _ W).alloc (Nat.le_refl _) _)
  have hk := k0.grown hg (fun q e => .inl e.symm)
  have hb0 : ∀ b, some b = v1.ownBlock → ob + 1 ≤ b := fun b e => (h.o1.lt b e.symm).1
  have b3 := (h.blk.kept hk (fun e => by have := hb0 _ e; omega)).set_ 1 v
  simp only [List.setIfInBounds_toArray, List.set_cons_zero, List.set_cons_succ] at b3
  have k3 := Kept.set1 W3 ob 1 v
  refine ⟨b3, own_kept (own_kept h.o0 hk (ne_types h.o0 h.o1 (by decide))) k3 (fun q hq => by have := (h.o0.lt q hq).1; omega), own_kept ?_ k3 (fun q hq => by have := (ho.lt q hq).1; omega), own_kept (own_kept h.o2 hk (ne_types h.o2 h.o1 (by decide))) k3 (fun q hq => by have := (h.o2.lt q hq).1; omega), (h.bel.trans (hk.below h.bel.size (fun q e => by have := hb0 q e; have := h.ge; omega))).trans (k3.below (by have h1 := h.bel.size; have h2 := hk.size; omega) (fun q e => by rw [e]; exact h.ge)), h.ge, h.hi, hlt, h.hk⟩
  rw [List.take_add_one, List.getElem?_eq_getElem hlt, List.flatMap_append]
  simpa using ho
theorem CkI.push2 {o : Obj} {W3 : World} {v : Value} (h : CkI w ob i j k g v0 v1 v2 W) (hlt : k < g.macs.length) (hg : (W.alloc o).grownBy W3 v2.ownBlock) (ho : W3.ownsRow (ob + 1) 56 6 v (k + 1) ((g.macs.take k).flatMap MacM.cells ++ g.macs[k].cells)) :
    CkI w ob i j (k + 1) g v0 v1 v (W3.setCell ⟨ob, 2, none⟩ v) := by
  have k0 : Kept (fun b => some b = v2.ownBlock) W (W.alloc o) := Kept.of_below ((Below.refl _ W).alloc (Nat.le_refl _) _)
  have hk := k0.grown hg (fun q e => .inl e.symm)
  have hb0 : ∀ b, some b = v2.ownBlock → ob + 1 ≤ b := fun b e => (h.o2.lt b e.symm).1
  have b3 := (h.blk.kept hk (fun e => by have := hb0 _ e; omega)).set_ 2 v
  simp only [List.setIfInBounds_toArray, List.set_cons_zero, List.set_cons_succ] at b3
  have k3 := Kept.set1 W3 ob 2 v
  refine ⟨b3, own_kept (own_kept h.o0 hk (ne_types h.o0 h.o2 (by decide))) k3 (fun q hq => by have := (h.o0.lt q hq).1; omega), own_kept (own_kept h.o1 hk (ne_types h.o1 h.o2 (by decide))) k3 (fun q hq => by have := (h.o1.lt q hq).1; omega), own_kept ?_ k3 (fun q hq => by have := (ho.lt q hq).1; omega), (h.bel.trans (hk.below h.bel.size (fun q e => by have := hb0 q e; have := h.ge; omega))).trans (k3.below (by have h1 := h.bel.size; have h2 := hk.size; omega) (fun q e => by rw [e]; exact h.ge)), h.ge, h.hi, h.hj, hlt⟩
  rw [List.take_add_one, List.getElem?_eq_getElem hlt, List.flatMap_append]
  simpa using ho
end
end Go.Proofs.YtkapbdjobfbhhaaGreat

/- The rest of a row that a slice leads to, from some place of it on: 'x = x[1:]', and append behind it. -/
import Derived.Test.YthhnlkbnphiaoaaBase
namespace Go.Proofs.Ythhnlkbnphiaoaa
open Go.RowKit

theorem addr_add2 (g o j : Nat) : (⟨g, o, none⟩ : Addr).add j = ⟨g, o + j, none⟩ := by
  unfold Addr.add
  split
  · rename_i h
    rw [h, Nat.add_zero]
  · rfl
def Tail (w : World) (base : Nat) (e : TypeId) (size g off n cap : Nat) (xs : List Value) : Prop :=
  xs.length = n * size ∧ base ≤ g ∧ n ≤ cap ∧ cap ≤ maxLen ∧ ∃ cur, Blk w g e cur ∧ cur.size = off + cap * size ∧ (cur.toList.drop off).take (n * size) = xs

section
variable {w w' : World} {base : Nat} {e : TypeId} {size g off n cap : Nat} {xs : List Value}
theorem Tail.lt (h : Tail w base e size g off n cap xs) : g < w.heap.size := by
  obtain ⟨_, _, _, _, cur, hb, _⟩ := h
  exact hb.lt
theorem Tail.blk (h : Tail w base e size g off n cap xs) : ∃ cur, Blk w g e cur := by
  obtain ⟨_, _, _, _, cur, hb, _⟩ := h
  exact ⟨cur, hb⟩
theorem Tail.same (h : Tail w base e size g off n cap xs) (hb : w'.heap[g]? = w.heap[g]?) : Tail w' base e size g off n cap xs := by
  obtain ⟨h1, h2, h3, h4, cur, h5, h6⟩ := h
  exact ⟨h1, h2, h3, h4, cur, hb.trans h5, h6⟩
theorem Tail.kept {S : Nat → Prop} (h : Tail w base e size g off n cap xs) (hk : Kept S w w') (hn : ¬ S g) : Tail w' base e size g off n cap xs := h.same (hk.block g h.lt hn)
theorem Tail.alloc (h : Tail w base e size g off n cap xs) (o : Obj) : Tail (w.alloc o) base e size g off n cap xs := h.same (Below.heap_alloc w o g h.lt)
theorem Tail.cell (h : Tail w base e size g off n cap xs) {j : Nat} (hj : j < n * size) : w.cell? ⟨g, off + j, none⟩ = xs[j]? := by
  obtain ⟨h1, h2, h3, h4, cur, h5, h6, h7⟩ := h
  rw [h5.cell, ← h7, List.getElem?_take, if_pos hj, List.getElem?_drop, Array.getElem?_toList]
theorem Tail.shift (h : Tail w base e size g off (n + 1) (cap + 1) xs) : Tail w base e size g (off + size) n cap (xs.drop size) := by
  obtain ⟨h1, h2, h3, h4, cur, h5, h6, h7⟩ := h
  refine ⟨by rw [List.length_drop, h1, Nat.add_mul]; omega, h2, by omega, by omega, cur, h5, by rw [h6, Nat.add_mul]; omega, ?_⟩
  rw [← h7, List.drop_take, List.drop_drop, Nat.add_mul]
  congr 1
  omega
theorem Tail.fresh (w : World) (base : Nat) (e : TypeId) (size g : Nat) (cs : Array Value) (hb : Blk w g e cs) (hs : cs.size = size) (hg : base ≤ g) : Tail w base e size g 0 1 1 cs.toList :=
  ⟨by simp [hs], hg, Nat.le_refl _, by unfold maxLen; omega, cs, hb, by simp [hs], by rw [List.drop_zero, List.take_of_length_le (by simp [hs])]⟩

/-- append of one element that lies in a block of its own. -/
theorem Tail.push {P : Program} (h : Tail w base e size g off n cap xs) (t ty : TypeId) (i : TypeInfo) (z : Value) (bytes : Nat) (ht : P.underlying t = some (.slice e)) (hi : P.info? e = some i) (hz : i.zero = some z)
    (hsize : i.size = size) (hby : i.bytes = bytes) (hzs : z.cells.size = size) (g0 : Nat) (cs : Array Value) (hb : Blk w g0 e cs) (hl : cs.toList.length = 1 * size) (h1 : ∀ u ∈ cs.toList, u.oneCell' = true)
    (hbytes : (n + 1) * bytes ≤ 140737488355328) (hn : n + 1 ≤ 1000000000) (hbase : base ≤ w.heap.size) :
    ∃ g' off' cap' w', (Builtin.append_ #[t, t] ty #[.slice (some ⟨g, off, none⟩) n cap, .slice (some ⟨g0, 0, none⟩) 1 1]).run P w = .ok (.slice (some ⟨g', off', none⟩) (n + 1) cap') w' ∧
      Tail w' base e size g' off' (n + 1) cap' (xs ++ cs.toList) ∧ w.grownBy w' (some g) ∧ (g' = g ∨ g' = w.heap.size) := by
  have hnews := World.news_of_block hb
  have hx0 := h
  obtain ⟨k1, k2, k3, k4, cur, k5, k6, k7⟩ := h
  subst hsize
  subst hby
  have hlen : (xs ++ cs.toList).length = (n + 1) * i.size := by rw [List.length_append, k1, hl, Nat.add_mul]
  by_cases hroom : n + 1 ≤ cap
  · have hmul : (n + 1) * i.size ≤ cap * i.size := Nat.mul_le_mul_right _ hroom
    rw [Nat.add_mul] at hmul
    have hfit : off + n * i.size + 0 + cs.toList.length ≤ cur.size := by rw [k6, hl]; omega
    have hf := run_firstCells_some (P := P) w i.size 1 ⟨g0, 0, none⟩ 1 1 cs.toList hl hnews
    have hst := run_storeCells_at P g (off + n * i.size) e cs.toList 0 cur w k5 hfit h1
    simp only [Nat.add_zero] at hst hfit
    refine ⟨g, off, cap, w.setRow g (cur.toList.take (off + n * i.size) ++ cs.toList ++ cur.toList.drop (off + n * i.size + cs.toList.length)).toArray, ?_, ?_, ?_, .inl rfl⟩
    · have hadd : (⟨g, off, none⟩ : Addr).add (n * i.size) = ⟨g, off + n * i.size, none⟩ := addr_add2 _ _ _
      simp [Builtin.append_, run_underlying ht, sizeOf, typeInfo, hi, Builtin.lenOf, hroom, hf, hadd, hst]
    · refine ⟨hlen, k2, hroom, k4, _, setRow_heap w g cur _ e _ k5, ?_, ?_⟩
      · simp only [List.size_toArray, List.length_append, List.length_take, List.length_drop, Array.length_toList]
        rw [Array.length_toList] at hfit
        omega
      · have hpre : cur.toList.take (off + n * i.size) = cur.toList.take off ++ xs := by
          rw [← k7, List.take_add]
        rw [hpre, List.append_assoc, List.append_assoc, List.drop_append_of_le_length (by simp; omega), List.drop_take_self, List.nil_append]
        rw [← List.append_assoc, ← hlen, List.take_left]
    · exact ⟨rfl, rfl, rfl, by simp, fun k _ hk => setRow_other w g k _ (fun e => hk (by rw [e]))⟩
  · have holds : ∀ j v, xs[j]? = some v → w.cell? ((⟨g, off, none⟩ : Addr).add j) = some v := fun j v hj => by
      have hjl : j < n * i.size := by rw [← k1]; exact (List.getElem?_eq_some_iff.1 hj).1
      have hadd : (⟨g, off, none⟩ : Addr).add j = ⟨g, off + j, none⟩ := addr_add2 _ _ _
      rw [hadd, hx0.cell hjl, hj]
    have hr := run_append_grow (P := P) w t ty e i z ht hi hz ⟨g, off, none⟩ n cap xs k1 holds ⟨g0, 0, none⟩ 1 1 cs.toList hl hnews (by omega) (by omega) (growslice_fits (by omega) hbytes)
    have hge := grownCap_ge w (n + 1) cap e
    have hcm : grownCap w (n + 1) cap e ≤ maxLen := grownCap_le_maxLen w (n + 1) cap e (by unfold maxLen; omega)
    refine ⟨w.heap.size, 0, _, _, hr, ⟨hlen, hbase, hge, hcm, _, heap_alloc_new w.drew _, ?_, ?_⟩, ⟨rfl, rfl, rfl, by simp, fun k hk _ => heap_alloc_old w.drew _ hk⟩, .inr rfl⟩
    · simp only [Array.size_append, List.size_toArray, size_zeroCells, hzs, k1, hl, ← Nat.add_mul]
      rw [Nat.zero_add]
      congr 1
      omega
    · simp only [List.drop_zero, Array.toList_append, List.append_assoc]
      rw [← List.append_assoc, ← hlen]
      exact List.take_left
/-- The same at the operation. -/
theorem tail_push {P : Program} {ops : Array Oper} {rest : List Oper} {o : Oper} {a : Act} {Q : Exit → Act → World → Prop} (h : Tail w base e size g off n cap xs) (hgd : o.guard = none) (s x : Operand) (t : TypeId)
    (ho : o.op = .call { callee := .builtin .append, args := #[s, x], argTypes := #[t, t] })
    (i : TypeInfo) (z : Value) (bytes : Nat) (ht : P.underlying t = some (.slice e)) (hi : P.info? e = some i) (hz : i.zero = some z)
    (hsize : i.size = size) (hby : i.bytes = bytes) (hzs : z.cells.size = size) (hs : a.eval s = .slice (some ⟨g, off, none⟩) n cap)
    (g0 : Nat) (cs : Array Value) (hx : a.eval x = .slice (some ⟨g0, 0, none⟩) 1 1) (hb : Blk w g0 e cs) (hl : cs.toList.length = 1 * size) (h1 : ∀ u ∈ cs.toList, u.oneCell' = true)
    (hbytes : (n + 1) * bytes ≤ 140737488355328) (hn : n + 1 ≤ 1000000000) (hbase : base ≤ w.heap.size)
    (hK : ∀ g' off' cap' w', Tail w' base e size g' off' (n + 1) cap' (xs ++ cs.toList) → w.grownBy w' (some g) → (g' = g ∨ g' = w.heap.size) → wpList P ops Q rest (a.put o.dst (.slice (some ⟨g', off', none⟩) (n + 1) cap')) w') :
    wpList P ops Q (o :: rest) a w := by
  refine wpList_plain hgd fun K hK' => ?_
  obtain ⟨g', off', cap', w', hr, h2, h3, h4⟩ := h.push (P := P) t o.type i z bytes ht hi hz hsize hby hzs g0 cs hb hl h1 hbytes hn hbase
  unfold Oper.wp execOp
  simp only [ho, resolve, invoke, builtin, Sem.run_bind, Sem.run_pure, Result.andThen_ok, List.map_toArray, List.map_cons, List.map_nil, hs, hx, hr]
  exact hK' _ _ (hK g' off' cap' w' h2 h3 h4)
end
end Go.Proofs.Ythhnlkbnphiaoaa

/- Rows of nodes that grow. -/
import Derived.Test.YtlipnnibagidiaaTaA
import Derived.Laws.AppendOwn
namespace Go.Proofs.Ytlipnnibagidiaa
open Go.RowKit

/-- A row of nodes of the call's own. -/
def OwnN (w : World) (B : Nat) (v : Value) (T : List Nd) : Prop := w.ownsRow B 36 8 v T.length (T.flatMap nodeCells)
theorem nd_flat (T : List Nd) : (T.flatMap nodeCells).length = T.length * 8 := by
  induction T with
  | nil => rfl
  | cons n r ih =>
    rw [List.flatMap_cons, List.length_append, ih, List.length_cons]
    show 8 + r.length * 8 = _
    omega
theorem OwnN.tab {w : World} {B : Nat} {v : Value} {T : List Nd} (h : OwnN w B v T) (hl : T.length ≤ 100000) (hw : ∀ n ∈ T, NdWf n) : ∃ A c, v = .slice A T.length c ∧ Tab w A T ∧ T.length ≤ c ∧ (A = none → c = 0) := by
  rcases h.2 with ⟨rfl, h0⟩ | ⟨g, cap, cur, rfl, hb, hg, hc, hM, _⟩
  · exact ⟨none, 0, by rw [h0], ⟨hl, .inl h0⟩, by omega, fun _ => rfl⟩
  · refine ⟨_, cap, rfl, ⟨hl, .inr ⟨g, 0, rfl, Blk.lt hg, fun i hi => ⟨Blk.lt hg, fun j hj => ?_, hw _ (List.getElem_mem hi)⟩⟩⟩, hc, fun e => by cases e⟩
    have := own_cell nodeCells (fun _ => rfl) h hi hj
    rw [Nat.zero_add]
    exact this
theorem Tab.news {w : World} {b off : Nat} {T : List Nd} (hc : ∀ i (h : i < T.length), NdAt w b (off + i * 8) T[i]) : ∀ j u, (T.flatMap nodeCells)[j]? = some u → w.cell? ((⟨b, off, none⟩ : Addr).add j) = some u := by
  intro j u hj
  have hjl : j < T.length * 8 := by
    rw [← nd_flat]
    exact (List.getElem?_eq_some_iff.1 hj).1
  have hi : j / 8 < T.length := by omega
  have hr : j % 8 < 8 := Nat.mod_lt _ (by decide)
  have h1 := flat_get nodeCells 8 (fun _ => rfl) T (j / 8) (j % 8) hi hr
  have e : j / 8 * 8 + j % 8 = j := by omega
  rw [e, hj] at h1
  have h2 := (hc (j / 8) hi).cells (j % 8) hr
  rw [← h1] at h2
  rw [show (⟨b, off, none⟩ : Addr).add j = ⟨b, off + j, none⟩ by unfold Addr.add; split <;> simp_all, show off + j = off + j / 8 * 8 + j % 8 by omega]
  exact h2
theorem one_nodes {T : List Nd} : ∀ u ∈ T.flatMap nodeCells, u.oneCell' = true := by
  intro u hu
  obtain ⟨n, _, hu⟩ := List.mem_flatMap.1 hu
  simp only [nodeCells, List.mem_cons, List.not_mem_nil, or_false] at hu
  rcases hu with rfl | rfl | rfl | rfl | rfl | rfl | rfl | rfl <;> rfl
/-- append of a row of nodes to an own one. -/
theorem wp_append_nodes {o : Oper} {a : Act} {K : Act → World → Prop} {Q : Exit → Act → World → Prop} (w : World) (s x : Operand)
    (ho : o.op = .call { callee := .builtin .append, args := #[s, x], argTypes := #[22, 22] })
    (base : Nat) (v : Value) (T : List Nd) (hs : a.eval s = v) (hown : OwnN w base v T)
    (A : Option Addr) (cap : Nat) (S : List Nd) (hx : a.eval x = .slice A S.length cap) (hS : Tab w A S) (hnil : A = none → cap = 0) (hb : T.length + S.length ≤ 100000) (hbase : base ≤ w.heap.size)
    (h : ∀ v' w', OwnN w' base v' (T ++ S) → w.grownBy w' v.ownBlock → K (a.put o.dst v') w') : o.wp Try.prog a w K Q := by
  obtain ⟨i0, hi, hz0, hz1, hz2⟩ := info_parts node_info
  have key : ∀ v' w', w'.ownsRow base 36 8 v' (T.length + S.length) (T.flatMap nodeCells ++ S.flatMap nodeCells) → OwnN w' base v' (T ++ S) := fun v' w' h2 => by
    unfold OwnN
    rw [List.length_append, List.flatMap_append]
    exact h2
  rcases Nat.eq_zero_or_pos S.length with h0 | hp
  · obtain rfl := List.eq_nil_of_length_eq_zero h0
    cases A with
    | none =>
      obtain rfl := hnil rfl
      have hrun := run_append_owned_none (P := Try.prog) (w := w) base 22 o.type 36 i0 8 Try.underlying22 hi v T.length _ hown
      have h1 := h v w (by rw [List.append_nil]; exact hown) ⟨rfl, rfl, rfl, Nat.le_refl _, fun _ _ _ => rfl⟩
      unfold Oper.wp execOp
      simp only [ho, resolve, invoke, builtin, Sem.run_bind, Sem.run_pure, Result.andThen_ok, List.map_toArray, List.map_cons, List.map_nil, hs, hx]
      simp only [List.length_nil] at hrun ⊢
      rw [hrun]
      exact h1
    | some ad =>
      exact wp_append_own w s x 22 ho base 36 i0 (.agg #[.int .i8 0, .int .i8 0, .int .i64 0, .int .i64 0, .int .i64 0, .int .i64 0, .int .i64 0, .int .i64 0]) 8 56 Try.underlying22 hi hz0 hz1 hz2 rfl (by decide) v T.length _ hs hown ad 0 cap [] hx rfl (fun j u hj => by cases hj) (fun u hu => by cases hu) (by unfold maxLen; omega) (by omega) hbase
        fun v' w' h2 h3 _ => h v' w' (key v' w' (by simpa using h2)) h3
  · obtain ⟨b, off, rfl, hbb, hc⟩ := hS.at_.resolve_left (by omega)
    exact wp_append_own w s x 22 ho base 36 i0 (.agg #[.int .i8 0, .int .i8 0, .int .i64 0, .int .i64 0, .int .i64 0, .int .i64 0, .int .i64 0, .int .i64 0]) 8 56 Try.underlying22 hi hz0 hz1 hz2 rfl (by decide) v T.length _ hs hown ⟨b, off, none⟩ S.length cap _ hx (nd_flat S) (Tab.news hc) one_nodes (by unfold maxLen; omega) (by omega) hbase
      fun v' w' h2 h3 _ => h v' w' (key v' w' h2) h3
theorem list_append_nodes {ops : Array Oper} {rest : List Oper} {o : Oper} {a : Act} {Q : Exit → Act → World → Prop} (w : World) (hw : Region.wanted o (yielded ops a.tmps) = true) (s x : Operand)
    (ho : o.op = .call { callee := .builtin .append, args := #[s, x], argTypes := #[22, 22] })
    (base : Nat) (v : Value) (T : List Nd) (hs : a.eval s = v) (hown : OwnN w base v T)
    (A : Option Addr) (cap : Nat) (S : List Nd) (hx : a.eval x = .slice A S.length cap) (hS : Tab w A S) (hnil : A = none → cap = 0) (hb : T.length + S.length ≤ 100000) (hbase : base ≤ w.heap.size)
    (h : ∀ v' w', OwnN w' base v' (T ++ S) → w.grownBy w' v.ownBlock → wpList Try.prog ops Q rest (a.put o.dst v') w') : wpList Try.prog ops Q (o :: rest) a w :=
  wpList_step fun K hK => by
    rw [if_pos hw]
    exact wp_append_nodes w s x ho base v T hs hown A cap S hx hS hnil hb hbase fun v' w' h1 h2 => hK _ _ (h v' w' h1 h2)
/-- append of one to a row that has no room: a new row. -/
theorem wp_grow_node {o : Oper} {a : Act} {K : Act → World → Prop} {Q : Exit → Act → World → Prop} (w : World) (s x : Operand)
    (ho : o.op = .call { callee := .builtin .append, args := #[s, x], argTypes := #[22, 22] })
    (A : Option Addr) (T : List Nd) (hs : a.eval s = .slice A T.length T.length) (hT : Tab w A T) (hp : 0 < T.length) (hT1 : T.length < 100000) (hwf : ∀ n ∈ T, NdWf n)
    (g : Nat) (n : Nd) (hx : a.eval x = .slice (some ⟨g, 0, none⟩) 1 1) (hg : Blk w g 36 (nodeCells n).toArray) (hn : NdWf n)
    (h : ∀ A' c' w', Tab w' A' (T ++ [n]) → (T ++ [n]).length ≤ c' → Below w.heap.size w w' → (∀ b, A' = some b → w.heap.size ≤ b.block) → K (a.put o.dst (.slice A' (T ++ [n]).length c')) w') : o.wp Try.prog a w K Q := by
  obtain ⟨i0, hi, hz0, hz1, hz2⟩ := info_parts node_info
  obtain ⟨b, off, rfl, hbb, hc⟩ := hT.at_.resolve_left (by omega)
  have hnews : ∀ j u, (nodeCells n)[j]? = some u → w.cell? ((⟨g, 0, none⟩ : Addr).add j) = some u := fun j u hj => by
    rw [show (⟨g, 0, none⟩ : Addr).add j = ⟨g, j, none⟩ by unfold Addr.add; split <;> simp_all, hg.cell, List.getElem?_toArray]
    exact hj
  have hr := run_append_grow (P := Try.prog) w 22 o.type 36 i0 (.agg #[.int .i8 0, .int .i8 0, .int .i64 0, .int .i64 0, .int .i64 0, .int .i64 0, .int .i64 0, .int .i64 0]) Try.underlying22 hi hz0 ⟨b, off, none⟩ T.length T.length (T.flatMap nodeCells) (by rw [nd_flat, hz1]) (Tab.news hc) ⟨g, 0, none⟩ 1 1 (nodeCells n) (by rw [hz1]; rfl) hnews (by omega) (by omega) (by
    have := nextslicecap_le (need := T.length + 1) (old := T.length) (by omega)
    rw [hz2]
    omega)
  have hge := grownCap_ge w (T.length + 1) T.length 36
  have hcm := grownCap_le_maxLen w (T.length + 1) T.length 36 (by unfold maxLen; omega)
  generalize grownCap w (T.length + 1) T.length 36 = gc at *
  have hlen : (T ++ [n]).length = T.length + 1 := by simp
  have hblk : Blk (w.drew.alloc (.cells ((T.flatMap nodeCells).toArray ++ (nodeCells n).toArray ++ Builtin.zeroCells (Value.agg #[.int .i8 0, .int .i8 0, .int .i64 0, .int .i64 0, .int .i64 0, .int .i64 0, .int .i64 0, .int .i64 0]).cells (gc - (T.length + 1))) 36)) w.heap.size 36 ((T.flatMap nodeCells).toArray ++ (nodeCells n).toArray ++ Builtin.zeroCells (Value.agg #[.int .i8 0, .int .i8 0, .int .i64 0, .int .i64 0, .int .i64 0, .int .i64 0, .int .i64 0, .int .i64 0]).cells (gc - (T.length + 1))) := Blk.new w.drew _ _
  have hwf2 : ∀ m ∈ T ++ [n], NdWf m := fun m hm => (List.mem_append.1 hm).elim (hwf m) fun e => by rw [List.mem_singleton.1 e]; exact hn
  have h1 := h (some ⟨w.heap.size, 0, none⟩) gc _ ⟨by rw [hlen]; omega, .inr ⟨w.heap.size, 0, rfl, hblk.lt, fun i hi' => ⟨hblk.lt, fun j hj => ?_, hwf2 _ (List.getElem_mem hi')⟩⟩⟩ (by rw [hlen]; exact hge) ((below_drewN (Below.refl _ w) 1).alloc (Nat.le_refl _) _) (fun b' e => by injection e with e; rw [← e]; exact Nat.le_refl _)
  · unfold Oper.wp execOp
    simp only [ho, resolve, invoke, builtin, Sem.run_bind, Sem.run_pure, Result.andThen_ok, List.map_toArray, List.map_cons, List.map_nil, hs, hx]
    rw [hr]
    rw [hlen] at h1
    exact h1
  · have e : 0 + i * 8 + j = i * 8 + j := by omega
    rw [e, hblk.cell]
    have hfg := flat_get nodeCells 8 (fun _ => rfl) (T ++ [n]) i j hi' hj
    rw [← hfg, List.flatMap_append]
    have hlt : i * 8 + j < (T.flatMap nodeCells ++ [n].flatMap nodeCells).length := by
      rw [← List.flatMap_append, nd_flat]
      omega
    have e3 : [n].flatMap nodeCells = nodeCells n := by simp
    rw [e3] at hlt ⊢
    rw [← Array.getElem?_toList]
    simp only [Array.toList_append]
    rw [List.getElem?_append_left (by simpa using hlt)]
end Go.Proofs.Ytlipnnibagidiaa

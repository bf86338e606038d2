/- Rows of nodes that grow. -/
import Derived.Test.YtlipnnibagidiaaGreatTaA
import Derived.Laws.AppendOwn
import Derived.Test.YtlipnnibagidiaaGreatEuE
import Derived.Test.YtlipnnibagidiaaGreatShP
namespace Go.Proofs.YtlipnnibagidiaaGreat
open Go.RowKit

/-- A row of nodes of the call's own. -/
def OwnN (w : World) (B : Nat) (v : Value) (T : List Nd) : Prop := w.ownsRow B 51 8 v T.length (T.flatMap nodeCells)
theorem nd_flat (T : List Nd) : (T.flatMap nodeCells).length = T.length * 8 := by
  induction T with
  | nil => rfl
  | cons n r ih =>
    rw [List.flatMap_cons, List.length_append, ih, List.length_cons]
    show 8 + r.length * 8 = _
    omega
theorem OwnN.tab {w : World} {B : Nat} {v : Value} {T : List Nd} (h : OwnN w B v T) (hl : T.length ≤ 100000) (hw : ∀ n ∈ T, NdWf n) : ∃ A c, v = .slice A T.length c ∧ Tab w A T ∧ T.length ≤ c ∧ (A = none → c = 0) := by
  rcases h.2 with ⟨rfl, h0⟩ | ⟨g, cap, cur, rfl, hb, hg, hc, hM, _⟩
  · exact ⟨none, 0, by rw [h0], ⟨hl, .inl h0⟩, by omega, fun _ => rfl⟩
  · refine ⟨_, cap, rfl, ⟨hl, .inr ⟨g, 0, rfl, Blk.lt hg, fun i hi => ⟨Blk.lt hg, fun j hj => ?_, hw _ (List.getElem_mem hi)⟩⟩⟩, hc, fun e => by cases e⟩
    have := own_cell nodeCells (fun _ => rfl) h hi hj
    rw [Nat.zero_add]
    exact this
theorem Tab.news {w : World} {b off : Nat} {T : List Nd} (hc : ∀ i (h : i < T.length), NdAt w b (off + i * 8) T[i]) : ∀ j u, (T.flatMap nodeCells)[j]? = some u → w.cell? ((⟨b, off, none⟩ : Addr).add j) = some u := by
  intro j u hj
  have hjl : j < T.length * 8 := by
    rw [← nd_flat]
    exact (List.getElem?_eq_some_iff.1 hj).1
  have hi : j / 8 < T.length := by omega
  have hr : j % 8 < 8 := Nat.mod_lt _ (by decide)
  have h1 := flat_get nodeCells 8 (fun _ => rfl) T (j / 8) (j % 8) hi hr
  have e : j / 8 * 8 + j % 8 = j := by omega
  rw [e, hj] at h1
  have h2 := (hc (j / 8) hi).cells (j % 8) hr
  rw [← h1] at h2
  rw [show (⟨b, off, none⟩ : Addr).add j = ⟨b, off + j, none⟩ by unfold Addr.add; split <;> simp_all, show off + j = off + j / 8 * 8 + j % 8 by omega]
  exact h2
theorem one_nodes {T : List Nd} : ∀ u ∈ T.flatMap nodeCells, u.oneCell' = true := by
  intro u hu
  obtain ⟨n, _, hu⟩ := List.mem_flatMap.1 hu
  simp only [nodeCells, List.mem_cons, List.not_mem_nil, or_false] at hu
  rcases hu with rfl | rfl | rfl | rfl | rfl | rfl | rfl | rfl <;> rfl
/-- append of a row of nodes to an own one. -/
theorem wp_append_nodes {o : Oper} {a : Act} {K : Act → World → Prop} {Q : Exit → Act → World → Prop} (w : World) (s x : Operand)
    (ho : o.op = .call { callee := .builtin .append, args := #[s, x], argTypes := #[31, 31] })
    (base : Nat) (v : Value) (T : List Nd) (hs : a.eval s = v) (hown : OwnN w base v T)
    (A : Option Addr) (cap : Nat) (S : List Nd) (hx : a.eval x = .slice A S.length cap) (hS : Tab w A S) (hnil : A = none → cap = 0) (hb : T.length + S.length ≤ 100000) (hbase : base ≤ w.heap.size)
    (h : ∀ v' w', OwnN w' base v' (T ++ S) → w.grownBy w' v.ownBlock → K (a.put o.dst v') w') : o.wp Tryz.prog a w K Q := by
  obtain ⟨i0, hi, hz0, hz1, hz2⟩ := info_parts node_info
  have key : ∀ v' w', w'.ownsRow base 51 8 v' (T.length + S.length) (T.flatMap nodeCells ++ S.flatMap nodeCells) → OwnN w' base v' (T ++ S) := fun v' w' h2 => by
    unfold OwnN
    rw [List.length_append, List.flatMap_append]
    exact h2
  rcases Nat.eq_zero_or_pos S.length with h0 | hp
  · obtain rfl := List.eq_nil_of_length_eq_zero h0
    cases A with
    | none =>
      obtain rfl := hnil rfl
      have hrun := run_append_owned_none (P := Tryz.prog) (w := w) base 31 o.type 51 i0 8 Tryz.underlying31 hi v T.length _ hown
      have h1 := h v w (by rw [List.append_nil]; exact hown) ⟨rfl, rfl, rfl, Nat.le_refl _, fun _ _ _ => rfl⟩
      unfold Oper.wp execOp
      simp only [ho, resolve, invoke, builtin, Sem.run_bind, Sem.run_pure, Result.andThen_ok, List.map_toArray, List.map_cons, List.map_nil, hs, hx]
      simp only [List.length_nil] at hrun ⊢
      rw [hrun]
      exact h1
    | some ad =>
      exact wp_append_own w s x 31 ho base 51 i0 (.agg #[.int .i8 0, .int .i8 0, .int .i64 0, .int .i64 0, .int .i64 0, .int .i64 0, .int .i64 0, .int .i64 0]) 8 56 Tryz.underlying31 hi hz0 hz1 hz2 rfl (by decide) v T.length _ hs hown ad 0 cap [] hx rfl (fun j u hj => by cases hj) (fun u hu => by cases hu) (by unfold maxLen; omega) (by omega) hbase
        fun v' w' h2 h3 _ => h v' w' (key v' w' (by simpa using h2)) h3
  · obtain ⟨b, off, rfl, hbb, hc⟩ := hS.at_.resolve_left (by omega)
    exact wp_append_own w s x 31 ho base 51 i0 (.agg #[.int .i8 0, .int .i8 0, .int .i64 0, .int .i64 0, .int .i64 0, .int .i64 0, .int .i64 0, .int .i64 0]) 8 56 Tryz.underlying31 hi hz0 hz1 hz2 rfl (by decide) v T.length _ hs hown ⟨b, off, none⟩ S.length cap _ hx (nd_flat S) (Tab.news hc) one_nodes (by unfold maxLen; omega) (by omega) hbase
      fun v' w' h2 h3 _ => h v' w' (key v' w' h2) h3
theorem list_append_nodes {ops : Array Oper} {rest : List Oper} {o : Oper} {a : Act} {Q : Exit → Act → World → Prop} (w : World) (hw : Region.wanted o (yielded ops a.tmps) = true) (s x : Operand)
    (ho : o.op = .call { callee := .builtin .append, args := #[s, x], argTypes := #[31, 31] })
    (base : Nat) (v : Value) (T : List Nd) (hs : a.eval s = v) (hown : OwnN w base v T)
    (A : Option Addr) (cap : Nat) (S : List Nd) (hx : a.eval x = .slice A S.length cap) (hS : Tab w A S) (hnil : A = none → cap = 0) (hb : T.length + S.length ≤ 100000) (hbase : base ≤ w.heap.size)
    (h : ∀ v' w', OwnN w' base v' (T ++ S) → w.grownBy w' v.ownBlock → wpList Tryz.prog ops Q rest (a.put o.dst v') w') : wpList Tryz.prog ops Q (o :: rest) a w :=
  wpList_step fun K hK => by
    rw [if_pos hw]
    exact wp_append_nodes w s x ho base v T hs hown A cap S hx hS hnil hb hbase fun v' w' h1 h2 => hK _ _ (h v' w' h1 h2)
/-- append of one to a row that has no room: a new row. -/
theorem wp_grow_node {o : Oper} {a : Act} {K : Act → World → Prop} {Q : Exit → Act → World → Prop} (w : World) (s x : Operand)
    (ho : o.op = .call { callee := .builtin .append, args := #[s, x], argTypes := #[31, 31] })
    (A : Option Addr) (T : List Nd) (hs : a.eval s = .slice A T.length T.length) (hT : Tab w A T) (hp : 0 < T.length) (hT1 : T.length < 100000) (hwf : ∀ n ∈ T, NdWf n)
    (g : Nat) (n : Nd) (hx : a.eval x = .slice (some ⟨g, 0, none⟩) 1 1) (hg : Blk w g 51 (nodeCells n).toArray) (hn : NdWf n)
    (h : ∀ A' c' w', Tab w' A' (T ++ [n]) → (T ++ [n]).length ≤ c' → Below w.heap.size w w' → (∀ b, A' = some b → w.heap.size ≤ b.block) → K (a.put o.dst (.slice A' (T ++ [n]).length c')) w') : o.wp Tryz.prog a w K Q := by
  obtain ⟨i0, hi, hz0, hz1, hz2⟩ := info_parts node_info
  obtain ⟨b, off, rfl, hbb, hc⟩ := hT.at_.resolve_left (by omega)
  have hnews : ∀ j u, (nodeCells n)[j]? = some u → w.cell? ((⟨g, 0, none⟩ : Addr).add j) = some u := fun j u hj => by
    rw [show (⟨g, 0, none⟩ : Addr).add j = ⟨g, j, none⟩ by unfold Addr.add; split <;> simp_all, hg.cell, List.getElem?_toArray]
    exact hj
  have hr := run_append_grow (P := Tryz.prog) w 31 o.type 51 i0 (.agg #[.int .i8 0, .int .i8 0, .int .i64 0, .int .i64 0, .int .i64 0, .int .i64 0, .int .i64 0, .int .i64 0]) Tryz.underlying31 hi hz0 ⟨b, off, none⟩ T.length T.length (T.flatMap nodeCells) (by rw [nd_flat, hz1]) (Tab.news hc) ⟨g, 0, none⟩ 1 1 (nodeCells n) (by rw [hz1]; rfl) hnews (by omega) (by omega) (by
    have := nextslicecap_le (need := T.length + 1) (old := T.length) (by omega)
    rw [hz2]
    omega)
  have hge := grownCap_ge w (T.length + 1) T.length 51
  have hcm := grownCap_le_maxLen w (T.length + 1) T.length 51 (by unfold maxLen; omega)
  generalize grownCap w (T.length + 1) T.length 51 = gc at *
  have hlen : (T ++ [n]).length = T.length + 1 := by simp
  have hblk : Blk (w.drew.alloc (.cells ((T.flatMap nodeCells).toArray ++ (nodeCells n).toArray ++ Builtin.zeroCells (Value.agg #[.int .i8 0, .int .i8 0, .int .i64 0, .int .i64 0, .int .i64 0, .int .i64 0, .int .i64 0, .int .i64 0]).cells (gc - (T.length + 1))) 51)) w.heap.size 51 ((T.flatMap nodeCells).toArray ++ (nodeCells n).toArray ++ Builtin.zeroCells (Value.agg #[.int .i8 0, .int .i8 0, .int .i64 0, .int .i64 0, .int .i64 0, .int .i64 0, .int .i64 0, .int .i64 0]).cells (gc - (T.length + 1))) := Blk.new w.drew _ _
  have hwf2 : ∀ m ∈ T ++ [n], NdWf m := fun m hm => (List.mem_append.1 hm).elim (hwf m) fun e => by rw [List.mem_singleton.1 e]; exact hn
  have h1 := h (some ⟨w.heap.size, 0, none⟩) gc _ ⟨by rw [hlen]; omega, .inr ⟨w.heap.size, 0, rfl, hblk.lt, fun i hi' => ⟨hblk.lt, fun j hj => ?_, hwf2 _ (List.getElem_mem hi')⟩⟩⟩ (by rw [hlen]; exact hge) ((below_drewN (Below.refl _ w) 1).alloc (Nat.le_refl _) _) (fun b' e => by injection e with e; rw [← e]; exact Nat.le_refl _)
  · unfold Oper.wp execOp
    simp only [ho, resolve, invoke, builtin, Sem.run_bind, Sem.run_pure, Result.andThen_ok, List.map_toArray, List.map_cons, List.map_nil, hs, hx]
    rw [hr]
    rw [hlen] at h1
    exact h1
  · have e : 0 + i * 8 + j = i * 8 + j := by omega
    rw [e, hblk.cell]
    have hfg := flat_get nodeCells 8 (fun _ => rfl) (T ++ [n]) i j hi' hj
    rw [← hfg, List.flatMap_append]
    have hlt : i * 8 + j < (T.flatMap nodeCells ++ [n].flatMap nodeCells).length := by
      rw [← List.flatMap_append, nd_flat]
      omega
    have e3 : [n].flatMap nodeCells = nodeCells n := by simp
    rw [e3] at hlt ⊢
    rw [← Array.getElem?_toList]
    simp only [Array.toList_append]
    rw [List.getElem?_append_left (by simpa using hlt)]
end Go.Proofs.YtlipnnibagidiaaGreat

/- Put a node: term.Put. -/
namespace Go.Proofs.YtlipnnibagidiaaGreat
open Go.RowKit

theorem zero_intP (w : World) : (zeroValue 3).run Tryz.prog w = .ok (.int .i64 0) w := by kernel_rfl
/-- A table's row is the one there was, or a new one. -/
def Fr (A : Option Addr) (T : List Nd) (w : World) (A' : Option Addr) : Prop := ∀ b, A' = some b → (A = some b ∧ 0 < T.length) ∨ w.heap.size ≤ b.block
theorem Fr.none {A : Option Addr} {T : List Nd} {w : World} : Fr A T w none := fun b h => by cases h
theorem Tab.lt {w : World} {b : Addr} {T : List Nd} (h : Tab w (some b) T) (hp : 0 < T.length) : b.block < w.heap.size := by
  obtain ⟨c, off, e, h1, _⟩ := h.at_.resolve_left (by omega)
  injection e with e
  rw [e]
  exact h1
def PutIs (A : Option Addr) (T : List Nd) (r : PutR) (w : World) (e : Ending) (w' : World) : Prop :=
  ∃ A' c, e = .returned (.tuple #[.agg #[.slice A' r.T.length c], .int .i64 r.id, .int .i64 r.e]) ∧ Tab w' A' r.T ∧ r.T.length ≤ c ∧ Fr A T w A' ∧ Below w.heap.size w w'

theorem grow_step {ops : Array Oper} {o : Oper} {a : Act} {K : Act → World → Prop} {Q : Exit → Act → World → Prop} {E : Prop} (w : World) (hgd : o.guard = none) (s x : Operand)
    (ho : o.op = .call { callee := .builtin .append, args := #[s, x], argTypes := #[31, 31] })
    (A : Option Addr) (T : List Nd) (hs : a.eval s = .slice A T.length T.length) (hT : Tab w A T) (hp : 0 < T.length) (hT1 : T.length < 100000) (hwf : ∀ n ∈ T, NdWf n)
    (g : Nat) (n : Nd) (hx : a.eval x = .slice (some ⟨g, 0, none⟩) 1 1) (hg : Blk w g 51 (nodeCells n).toArray) (hn : NdWf n)
    (h : ∀ A' c' w', Tab w' A' (T ++ [n]) → (T ++ [n]).length ≤ c' → Below w.heap.size w w' → (∀ b, A' = some b → w.heap.size ≤ b.block) → K (a.put o.dst (.slice A' (T ++ [n]).length c')) w') :
    if Region.wanted o (yielded ops a.tmps) = true then Oper.wp Tryz.prog o a w K Q else E := by
  have hw : Region.wanted o (yielded ops a.tmps) = true := by simp [Region.wanted, hgd]
  rw [if_pos hw]
  exact wp_grow_node w s x ho A T hs hT hp hT1 hwf g n hx hg hn h
theorem Tab.kept1 {w w' : World} {A : Option Addr} {T : List Nd} {r : Nat} (h : Tab w A T) (hk : Kept (fun b => b = r) w w') (hr : ∀ b, A = some b → b.block ≠ r) : Tab w' A T := by
  refine ⟨h.len, h.at_.imp id fun ⟨b, off, h1, h2, h3⟩ => ⟨b, off, h1, Nat.lt_of_lt_of_le h2 hk.size, fun i hi => ⟨Nat.lt_of_lt_of_le h2 hk.size, fun j hj => ?_, (h3 i hi).wf⟩⟩⟩
  have hb : w'.heap[b]? = w.heap[b]? := hk.block b h2 (hr _ h1)
  rw [show w'.cell? ⟨b, off + i * 8 + j, none⟩ = w.cell? ⟨b, off + i * 8 + j, none⟩ by unfold World.cell?; rw [hb]]
  exact (h3 i hi).cells j hj
theorem Tab.alloc {w : World} {A : Option Addr} {T : List Nd} (h : Tab w A T) (o : Obj) : Tab (w.alloc o) A T := h.below ((Below.refl _ w).alloc (Nat.le_refl _) o)
theorem Tab.wfs {w : World} {A : Option Addr} {T : List Nd} (h : Tab w A T) : ∀ n ∈ T, NdWf n := fun n hn => by
  obtain ⟨i, hi, rfl⟩ := List.getElem_of_mem hn
  rcases h.at_ with h0 | ⟨b, off, _, _, hc⟩
  · omega
  · exact (hc i hi).wf
set_option maxRecDepth 100000 in
set_option maxHeartbeats 4000000 in
theorem tput_ok {T : List Nd} {w : World} {A : Option Addr} (c : Nat) (n : Nd) (hwn : NdWf n) (most : Int) (hc : T.length ≤ c) (h : Tab w A T) (hl : T.length < 100000) :
    Calls Tryz.prog 57 #[.agg #[.slice A T.length c], nodeVal n, .int .i64 most] w (PutIs A T (putT T n most) w) := by
  have H := Lib.hid h
  have HC := Lib.hid hc
  have HWN := Lib.hid hwn
  have HLN := Lib.hid hl
  simp only [nodeVal, nodeCells]
  obtain ⟨w0, hw0⟩ : ∃ w0, w0 = ((w.alloc (.cells #[.slice A T.length c] 33)).alloc (.cells (nodeCells n).toArray 51)).alloc (.cells #[.slice none 0 0] 33) := ⟨_, rfl⟩
  have HS0 : Hid (w0.heap.size = w.heap.size + 3) := Lib.hid (by rw [hw0]; simp)
  have HBT : Hid (Blk w0 w.heap.size 33 #[.slice A T.length c]) := Lib.hid (by rw [hw0]; exact ((Blk.new w _ _).alloc _).alloc _)
  have HBN : Hid (Blk w0 (w.heap.size + 1) 51 (nodeCells n).toArray) := Lib.hid (by rw [hw0]; have := Blk.new (w.alloc (.cells #[.slice A T.length c] 33)) 51 (nodeCells n).toArray; rw [World.size_alloc] at this; exact this.alloc _)
  have HBR : Hid (Blk w0 (w.heap.size + 1 + 1) 33 #[.slice none 0 0]) := Lib.hid (by rw [hw0]; have := Blk.new ((w.alloc (.cells #[.slice A T.length c] 33)).alloc (.cells (nodeCells n).toArray 51)) 33 #[.slice none 0 0]; rw [World.size_alloc, World.size_alloc] at this; exact this)
  have HB0 : Hid (Below w.heap.size w w0) := Lib.hid (by rw [hw0]; exact (((Below.refl _ w).alloc (Nat.le_refl _) _).alloc (by simp) _).alloc (by simp; omega) _)
  clear h hc hwn hl
  go_enter Tryz.func57, Tryz.ntmps57
  go_wp2_with fail
  simp only [nodeCells] at hw0
  rw [← hw0]
  refine (check_ok c HC.out (H.out.below HB0.out)).mono ?_
  rintro e w1 ⟨r, rfl, hr, hb⟩
  have HB01 := Lib.hid hb
  have l0 : w.heap.size < w0.heap.size := by have := HS0.out; omega
  have l1 : w.heap.size + 1 < w0.heap.size := by have := HS0.out; omega
  have l2 : w.heap.size + 1 + 1 < w0.heap.size := by have := HS0.out; omega
  have HB1 : Hid (Below w.heap.size w w1) := Lib.hid (HB0.out.trans (hb.mono (Nat.le_of_lt l0)))
  have HT1 := Lib.hid (HBT.out.below hb l0)
  have HN1 := Lib.hid (HBN.out.below hb l1)
  have HR1 := Lib.hid (HBR.out.below hb l2)
  have HR := Lib.hid hr
  have a0 := HT1.out.cell 0
  have b0 := HR1.out.cell 0
  have f0 := HR1.out.frozen 0
  simp only [List.getElem?_toArray, List.getElem?_cons_zero] at a0 b0
  clear hw0 hr hb l0 l1 l2
  cases r with
  | false =>
    have hn : tabB T = false := by
      cases ht : tabB T with
      | false => rfl
      | true => exact absurd (HR.out.2 (tabB_iff.1 ht)) (by simp)
    have HP : Hid (putT T n most = ⟨[], 0, 2⟩) := Lib.hid (by unfold putT; rw [hn]; rfl)
    clear hn
    go_wp2
    refine bodyPost_ret (v := .tuple #[.agg #[.slice none 0 0], .int .i64 0, .int .i64 2]) ?_ rfl ?_
    · have c1 := (HR1.out.set_ 0 (.slice none 0 0)).cell 0
      simp only [List.getElem?_toArray, List.getElem?_cons_zero, List.setIfInBounds_toArray, List.set_cons_zero] at c1
      simp [results, Tryz.results57, go_sem, c1]
    · rw [HP.out]
      exact ⟨none, 0, rfl, ⟨by simp, .inl rfl⟩, Nat.le_refl _, Fr.none, HB1.out.setCell (by simp; omega) _⟩
  | true =>
  have HTB := Lib.hid (HR.out.1 rfl)
  clear HR
  have hl2 := HTB.out.len
  obtain ⟨b, off, hA, hbb, hcell⟩ := H.out.at_.resolve_left (by omega)
  subst hA
  have HA1 := Lib.hid (H.out.below HB1.out)
  have HNA : Hid (NdAt w1 (w.heap.size + 1) 0 n) := Lib.hid ⟨HN1.out.lt, fun j _ => by rw [Nat.zero_add, HN1.out.cell, List.getElem?_toArray], HWN.out⟩
  clear hbb hcell
  have hT2 : (T.length : Int) ≤ 1000000 := by have := HLN.out; omega
  go_wp2_with fail
  refine (stands_ok n T.length ⟨by omega, hT2⟩ (w.heap.size + 1) 0 w1 HNA.out).mono ?_
  rintro e w2 ⟨q, rfl, hq, hb2⟩
  have HB2 := Lib.hid hb2
  have HQ := Lib.hid hq
  have a1 := (HT1.out.below hb2 HT1.out.lt).cell 0
  have HT2 := Lib.hid (HT1.out.below hb2 HT1.out.lt)
  have HN2 := Lib.hid (HN1.out.below hb2 HN1.out.lt)
  have HR2 := Lib.hid (HR1.out.below hb2 HR1.out.lt)
  have b1 := HR2.out.cell 0
  have f1 := HR2.out.frozen 0
  simp only [List.getElem?_toArray, List.getElem?_cons_zero] at a1 b1
  clear a0 b0 f0 hb2 hq
  cases q with
  | false =>
    have hn : standsB n T.length = false := by
      cases ht : standsB n T.length with
      | false => rfl
      | true => exact absurd (HQ.out.2 (standsB_iff.1 ht)) (by simp)
    have HP : Hid (putT T n most = ⟨[], 0, 2⟩) := Lib.hid (by unfold putT; rw [hn, Bool.and_false]; rfl)
    clear hn
    go_wp2
    refine bodyPost_ret (v := .tuple #[.agg #[.slice none 0 0], .int .i64 0, .int .i64 2]) ?_ rfl ?_
    · have c1 := (HR2.out.set_ 0 (.slice none 0 0)).cell 0
      simp only [List.getElem?_toArray, List.getElem?_cons_zero, List.setIfInBounds_toArray, List.set_cons_zero] at c1
      simp [results, Tryz.results57, go_sem, c1]
    · rw [HP.out]
      exact ⟨none, 0, rfl, ⟨by simp, .inl rfl⟩, Nat.le_refl _, Fr.none, (HB1.out.trans (HB2.out.mono HB1.out.size)).setCell (by simp; omega) _⟩
  | true =>
  have HG : Hid (putT T n most = if n ∈ T then ⟨T, (T.idxOf n : Nat), 0⟩ else if most ≤ T.length then ⟨[], 0, 40⟩ else ⟨T ++ [n], T.length, 0⟩) := Lib.hid (by
    unfold putT
    rw [tabB_iff.2 HTB.out, standsB_iff.2 (HQ.out.1 rfl)]
    rfl)
  go_wp2_with fail
  refine (placesN_ok c (HA1.out.below HB2.out) HTB.out.once).mono ?_
  rintro e w3 ⟨M, f, rfl, hm, hf, hb3⟩
  have HB3 := Lib.hid (HB2.out.trans (hb3.mono HB2.out.size))
  have HB4 := Lib.hid (HB1.out.trans (HB3.out.mono HB1.out.size))
  have HA3 := Lib.hid (HA1.out.below HB3.out)
  have a2 := (HT2.out.below hb3 HT2.out.lt).cell 0
  have HN3 := Lib.hid (HN2.out.below hb3 HN2.out.lt)
  have HR3 := Lib.hid (HR2.out.below hb3 HR2.out.lt)
  have b2 := HR3.out.cell 0
  have f2 := HR3.out.frozen 0
  have n0 := HN3.out.cell 0
  have n1 := HN3.out.cell 1
  have n2 := HN3.out.cell 2
  have n3 := HN3.out.cell 3
  have n4 := HN3.out.cell 4
  have n5 := HN3.out.cell 5
  have n6 := HN3.out.cell 6
  have n7 := HN3.out.cell 7
  simp only [nodeCells, List.getElem?_toArray, List.getElem?_cons_zero, List.getElem?_cons_succ] at a2 b2 n0 n1 n2 n3 n4 n5 n6 n7
  obtain ⟨kl, hkl⟩ := node_keyOf HWN.out
  have hlook := hm.mapAt.look node_key Tryz.underlying130 (zero_intP w3) hkl true
  have hfn := hf n
  rw [List.take_length] at hfn
  simp only [nodeVal, nodeCells] at hfn hlook
  clear a1 b1 f1 hm hf hb3 hkl
  by_cases hmem : n ∈ T
  · rw [if_pos hmem] at hfn
    rw [hfn] at hlook
    simp only [if_true] at hlook
    have HP : Hid (putT T n most = ⟨T, (T.idxOf n : Nat), 0⟩) := Lib.hid (by rw [HG.out, if_pos hmem])
    clear hmem hfn
    go_wp2
    refine bodyPost_ret (v := .tuple #[.agg #[.slice (some ⟨b, off, none⟩) T.length c], .int .i64 (T.idxOf n : Nat), .int .i64 0]) ?_ rfl ?_
    · have c1 := (HR3.out.set_ 0 (.slice (some ⟨b, off, none⟩) T.length c)).cell 0
      simp only [List.getElem?_toArray, List.getElem?_cons_zero, List.setIfInBounds_toArray, List.set_cons_zero] at c1
      simp [results, Tryz.results57, go_sem, c1]
    · rw [HP.out]
      have h4 := HB4.out.setCell (p := ⟨w.heap.size + 1 + 1, 0, none⟩) (by simp; omega) (.slice (some ⟨b, off, none⟩) T.length c)
      exact ⟨_, c, rfl, H.out.below h4, HC.out, fun b e => .inl ⟨e, by omega⟩, h4⟩
  · rw [if_neg hmem] at hfn
    rw [hfn] at hlook
    simp only [if_true] at hlook
    by_cases hk : most ≤ T.length
    · have HP : Hid (putT T n most = ⟨[], 0, 40⟩) := Lib.hid (by rw [HG.out, if_neg hmem, if_pos hk])
      have d1 := decide_eq_true hk
      clear hmem hk hfn
      go_wp2
      refine bodyPost_ret (v := .tuple #[.agg #[.slice none 0 0], .int .i64 0, .int .i64 40]) ?_ rfl ?_
      · have c1 := (HR3.out.set_ 0 (.slice none 0 0)).cell 0
        simp only [List.getElem?_toArray, List.getElem?_cons_zero, List.setIfInBounds_toArray, List.set_cons_zero] at c1
        simp [results, Tryz.results57, go_sem, c1]
      · rw [HP.out]
        exact ⟨none, 0, rfl, ⟨by simp, .inl rfl⟩, Nat.le_refl _, Fr.none, HB4.out.setCell (by simp; omega) _⟩
    · have HP : Hid (putT T n most = ⟨T ++ [n], T.length, 0⟩) := Lib.hid (by rw [HG.out, if_neg hmem, if_neg hk])
      have d1 := decide_eq_false hk
      have HM := Lib.hid hmem
      clear hmem hk hfn
      go_wp2
      have HBW := Lib.hid (show Below w3.heap.size w3 (w3.drew.alloc (.cells (nodeCells n).toArray 51)) from (below_drewN (Below.refl _ w3) 1).alloc (Nat.le_refl _) _)
      have HTW := Lib.hid (HA3.out.below HBW.out)
      have HWT := Lib.hid HA3.out.wfs
      have HP2 : Hid (0 < T.length) := Lib.hid (by omega)
      have HBK := Lib.hid (show Blk (w3.drew.alloc (.cells (nodeCells n).toArray 51)) w3.heap.size 51 (nodeCells n).toArray from Blk.new w3.drew _ _)
      have k1 : T.length ≤ c := HC.out
      have a3 := (HBW.out.cell (p := ⟨w.heap.size, 0, none⟩) (by have := HT1.out.lt; have := HB3.out.size; simp; omega)).trans a2
      change (w3.alloc _).cell? _ = _ at a3
      simp only [nodeCells] at a3
      go_region_law (refine grow_step _ rfl (.tmp 50) (.tmp 52) rfl (some ⟨b, off, none⟩) T rfl HTW.out HP2.out HLN.out HWT.out w3.heap.size n rfl HBK.out HWN.out ?_; intro A' c' w4 ht4 hc4 hb4 hA4; have HB5 := Lib.hid (HBW.out.trans (hb4.mono HBW.out.size)); have HR4 := Lib.hid (HR3.out.below HB5.out HR3.out.lt); have b3 := HR4.out.cell 0; have f3 := HR4.out.frozen 0; simp only [List.getElem?_toArray, List.getElem?_cons_zero] at b3; have HT4 := Lib.hid ht4; have HC4 := Lib.hid hc4; have HF4 : Hid (∀ b, A' = some b → b.block ≠ w.heap.size + 1 + 1) := Lib.hid (fun b hb => by have := Nat.le_trans HBW.out.size (hA4 b hb); have := HR3.out.lt; omega); have HF5 : Hid (∀ b, A' = some b → w.heap.size ≤ b.block) := Lib.hid (fun b hb => by have := Nat.le_trans HBW.out.size (hA4 b hb); have := HR3.out.lt; omega); clear ht4 hc4 hb4 hA4)
      all_goals go_wp2
      all_goals
        refine bodyPost_ret (v := .tuple #[.agg #[.slice A' (T ++ [n]).length c'], .int .i64 T.length, .int .i64 0]) ?_ rfl ?_
        · have c1 := (HR4.out.set_ 0 (.slice A' (T ++ [n]).length c')).cell 0
          simp only [List.getElem?_toArray, List.getElem?_cons_zero, List.setIfInBounds_toArray, List.set_cons_zero, List.length_append, List.length_cons, List.length_nil, Nat.zero_add] at c1
          simp [results, Tryz.results57, go_sem, c1]
        · rw [HP.out]
          exact ⟨A', c', rfl, HT4.out.kept1 (Kept.set1 w4 (w.heap.size + 1 + 1) 0 _) (HF4.out), HC4.out, (fun b e => .inr (HF5.out b e)), (HB4.out.trans (HB5.out.mono HB4.out.size)).setCell (by simp; omega) _⟩
end Go.Proofs.YtlipnnibagidiaaGreat

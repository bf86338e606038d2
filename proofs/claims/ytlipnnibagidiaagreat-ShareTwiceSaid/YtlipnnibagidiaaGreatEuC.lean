/- Sums that keep the first error. -/
import Derived.Test.YtlipnnibagidiaaGreatNuB
import Derived.Test.YtlipnnibagidiaaGreatEuA
import Derived.Maps.Own
import Derived.Maps.OwnOps
import Derived.Maps.OwnSet
import Derived.Maps.Views
import Derived.Test.YtlipnnibagidiaaGreatProg
import Derived.WideKeyPair
import Derived.DeepKeys4
import Derived.Deep.DeepCutAuto
import Derived.Deep.LoopGhost
import Derived.Test.YtlipnnibagidiaaGreatEuB
import Derived.Laws.StructEq
namespace Go.Proofs.YtlipnnibagidiaaGreat
open Go.RowKit

def stepA (n e x : Int) : Int × Int := if e = 0 then addN n x else (n, e)
set_option maxRecDepth 100000 in
theorem sadd_ok {w : World} {s : Nat} (n er x : Int) (h : Blk w s 184 #[.int .i64 n, .int .i64 er]) :
    Calls Tryz.prog 138 #[.pointer (some ⟨s, 0, none⟩), .int .i64 x] w fun e w' => e = .returned (.tuple #[]) ∧ Blk w' s 184 #[.int .i64 (stepA n er x).1, .int .i64 (stepA n er x).2] ∧ Kept (fun b => b = s) w w' := by
  have c0 := h.cell 0
  have c1 := h.cell 1
  have hl := h.lt
  simp only [List.getElem?_toArray, List.getElem?_cons_zero, List.getElem?_cons_succ] at c0 c1
  have H := Lib.hid h
  clear h
  by_cases he : er = 0
  · subst he
    have HS : Hid (stepA n 0 x = addN n x) := Lib.hid (if_pos rfl)
    go_enter Tryz.func138, Tryz.ntmps138
    go_wp2_with fail
    refine (padd_ok n x _).mono ?_
    rintro e w1 ⟨rfl, hb⟩
    have hb1 := H.out.below hb hl
    have f0 := hb1.frozen 0
    have f1 := hb1.frozen 1
    have c2 := hb1.cell 0
    have c3 := hb1.cell 1
    have hl1 := hb1.lt
    simp only [List.getElem?_toArray, List.getElem?_cons_zero, List.getElem?_cons_succ] at c2 c3
    have HB1 := Lib.hid hb1
    have HK := Lib.hid (Kept.of_below (S := fun b => b = s) hb)
    obtain ⟨⟨q1, q2⟩, hq⟩ : ∃ q, addN n x = q := ⟨_, rfl⟩
    rw [hq] at HS ⊢
    clear hb hb1 c0 c1 hq
    go_wp2
    refine bodyPost_end (results_none rfl _ _ _) rfl ?_
    rw [HS.out]
    refine ⟨rfl, ?_, (HK.out.setCell (.inl rfl) _).setCell (.inl rfl) _⟩
    exact (HB1.out.set_ 0 (.int .i64 q1)).set_ 1 (.int .i64 q2)
  · have d0 : (er == 0) = false := by simp [he]
    have HS : Hid (stepA n er x = (n, er)) := Lib.hid (if_neg he)
    clear he
    go_enter Tryz.func138, Tryz.ntmps138
    go_wp2
    refine bodyPost_end (results_none rfl _ _ _) rfl ?_
    rw [HS.out]
    exact ⟨rfl, H.out, Kept.refl _ _⟩
def stepS (n e x : Int) : Int × Int := if e = 0 then subN n x else (n, e)
set_option maxRecDepth 100000 in
theorem ssub_ok {w : World} {s : Nat} (n er x : Int) (h : Blk w s 184 #[.int .i64 n, .int .i64 er]) :
    Calls Tryz.prog 137 #[.pointer (some ⟨s, 0, none⟩), .int .i64 x] w fun e w' => e = .returned (.tuple #[]) ∧ Blk w' s 184 #[.int .i64 (stepS n er x).1, .int .i64 (stepS n er x).2] ∧ Kept (fun b => b = s) w w' := by
  have c0 := h.cell 0
  have c1 := h.cell 1
  have hl := h.lt
  simp only [List.getElem?_toArray, List.getElem?_cons_zero, List.getElem?_cons_succ] at c0 c1
  have H := Lib.hid h
  clear h
  by_cases he : er = 0
  · subst he
    have HS : Hid (stepS n 0 x = subN n x) := Lib.hid (if_pos rfl)
    go_enter Tryz.func137, Tryz.ntmps137
    go_wp2_with fail
    refine (psub_ok n x _).mono ?_
    rintro e w1 ⟨rfl, hb⟩
    have hb1 := H.out.below hb hl
    have f0 := hb1.frozen 0
    have f1 := hb1.frozen 1
    have c2 := hb1.cell 0
    have c3 := hb1.cell 1
    have hl1 := hb1.lt
    simp only [List.getElem?_toArray, List.getElem?_cons_zero, List.getElem?_cons_succ] at c2 c3
    have HB1 := Lib.hid hb1
    have HK := Lib.hid (Kept.of_below (S := fun b => b = s) hb)
    obtain ⟨⟨q1, q2⟩, hq⟩ : ∃ q, subN n x = q := ⟨_, rfl⟩
    rw [hq] at HS ⊢
    clear hb hb1 c0 c1 hq
    go_wp2
    refine bodyPost_end (results_none rfl _ _ _) rfl ?_
    rw [HS.out]
    refine ⟨rfl, ?_, (HK.out.setCell (.inl rfl) _).setCell (.inl rfl) _⟩
    exact (HB1.out.set_ 0 (.int .i64 q1)).set_ 1 (.int .i64 q2)
  · have d0 : (er == 0) = false := by simp [he]
    have HS : Hid (stepS n er x = (n, er)) := Lib.hid (if_neg he)
    clear he
    go_enter Tryz.func137, Tryz.ntmps137
    go_wp2
    refine bodyPost_end (results_none rfl _ _ _) rfl ?_
    rw [HS.out]
    exact ⟨rfl, H.out, Kept.refl _ _⟩
end Go.Proofs.YtlipnnibagidiaaGreat

/- A map by what it holds at each key. -/
namespace Go.Proofs.YtlipnnibagidiaaGreat
open Go.ChangeMaps Go.RowKit
open Go.Maps (Keyed)

def heldV (v : Value) : Option (DataW Value × List MemPlace) := some (.held v, [])
/-- Block b is a map of at most n entries; at each key it holds what f says. -/
def MapAt (P : Program) (k : TypeId) (w : World) (b n : Nat) (f : Value → Option Value) : Prop :=
  ∃ D, w.ownsMap P k heldV b n D ∧ ∀ key kl, keyOf P k key = some kl → ∀ zd, D.atKey kl zd = match f key with | some v => .held v | none => zd

section
variable {P : Program} {k : TypeId} {w w' : World} {b n : Nat} {f : Value → Option Value}
theorem MapAt.lt (h : MapAt P k w b n f) : b < w.heap.size := by
  obtain ⟨D, h, _⟩ := h
  exact h.lt
theorem MapAt.obj (h : MapAt P k w b n f) : ∃ es clock, w.heap[b]? = some (.map es clock) := by
  obtain ⟨D, ⟨es, clock, hb, _⟩, _⟩ := h
  exact ⟨es, clock, hb⟩
theorem MapAt.same (h : MapAt P k w b n f) (hb : w'.heap[b]? = w.heap[b]?) : MapAt P k w' b n f := by
  obtain ⟨D, ⟨es, clock, h1, h2⟩, h3⟩ := h
  exact ⟨D, ⟨es, clock, hb.trans h1, h2⟩, h3⟩
theorem MapAt.kept {S : Nat → Prop} (h : MapAt P k w b n f) (hk : Kept S w w') (hn : ¬ S b) : MapAt P k w' b n f := h.same (hk.block b h.lt hn)
theorem MapAt.alloc (h : MapAt P k w b n f) (o : Obj) : MapAt P k (w.alloc o) b n f := h.same (Below.heap_alloc w o b h.lt)
theorem MapAt.drew (h : MapAt P k w b n f) : MapAt P k w.drew b n f := h
theorem MapAt.drewN (h : MapAt P k w b n f) (i : Nat) : MapAt P k (w.drewN i) b n f := h
theorem MapAt.far (h : MapAt P k w b n f) {p : Addr} (hp : b ≠ p.block) (u : Value) : MapAt P k (w.setCell p u) b n f := h.same (Below.heap_setCell w p u b hp)
theorem MapAt.grown {row : Option Nat} (h : MapAt P k w b n f) (hg : w.grownBy w' row) (hn : some b ≠ row) : MapAt P k w' b n f := h.same (hg.block b h.lt hn)
theorem MapAt.below {B : Nat} (h : MapAt P k w b n f) (hb : Below B w w') (hl : b < B) : MapAt P k w' b n f := h.same (hb.block b hl)
theorem MapAt.made (P : Program) (k : TypeId) (w : World) : MapAt P k (w.alloc (.map #[] 0)) w.heap.size 0 (fun _ => none) :=
  ⟨_, World.ownsMap_made w P k heldV, fun _ _ _ _ => rfl⟩
theorem MapAt.mono (h : MapAt P k w b n f) {m : Nat} (hm : n ≤ m) : MapAt P k w b m f := by
  obtain ⟨D, h1, h2⟩ := h
  exact ⟨D, h1.mono hm, h2⟩
theorem MapAt.congr (h : MapAt P k w b n f) {g : Value → Option Value} (hg : ∀ key kl, keyOf P k key = some kl → g key = f key) : MapAt P k w b n g := by
  obtain ⟨D, h1, h2⟩ := h
  exact ⟨D, h1, fun key kl hkey zd => by rw [hg key kl hkey]; exact h2 key kl hkey zd⟩

/-- A look-up, as an equation. -/
theorem MapAt.look {t e : TypeId} (h : MapAt P k w b n f) (K : Keyed P k) (ht : P.underlying t = some (.map k e)) {z : Value} (hz : (zeroValue e).run P w = .ok z w) {key : Value} {kl : Lit} (hkey : keyOf P k key = some kl) (c : Bool) :
    (Instr.lookup t (.map (some b)) key c).run P w = .ok (match f key with | some v => (if c then .tuple #[v, .bool true] else v) | none => (if c then .tuple #[z, .bool false] else z)) w := by
  obtain ⟨D, ⟨es, clock, hb, F, _, rfl⟩, hf⟩ := h
  have hf0 := hf key kl hkey .nil
  rcases Go.Maps.fit_look c K ht hz hb F hkey with ⟨hrun, _, hat⟩ | ⟨e0, y, _, _, hrun, hRv, hat, _⟩
  · rw [hat] at hf0
    cases hfk : f key with
    | none => exact hrun
    | some v => rw [hfk] at hf0; cases hf0
  · rw [hat] at hf0
    injection hRv with hRv
    subst hRv
    cases hfk : f key with
    | none => rw [hfk] at hf0; cases hf0
    | some v =>
      rw [hfk] at hf0
      injection hf0 with hf0
      subst hf0
      exact hrun
/-- A store. -/
theorem MapAt.store {t e : TypeId} (h : MapAt P k w b n f) (K : Keyed P k) (ht : P.underlying t = some (.map k e)) (hn : n < maxLen) {key : Value} {kl : Lit} (hkey : keyOf P k key = some kl) (val : Value) {g : Value → Option Value}
    (hg : g key = some val) (hg' : ∀ x, x ≠ key → g x = f x) :
    ∃ w', (Instr.mapUpdate t (.map (some b)) key val).run P w = .ok () w' ∧ MapAt P k w' b (n + 1) g ∧ w.grownBy w' (some b) := by
  obtain ⟨D, h1, hf⟩ := h
  obtain ⟨w', hrun, h2, hgr⟩ := h1.update K ht hn hkey (d := .held val) (ps := []) rfl
  refine ⟨w', hrun, ⟨_, h2, fun x xl hx zd => ?_⟩, hgr⟩
  by_cases hxk : x = key
  · subst hxk
    rw [hkey] at hx
    injection hx with hx
    subst hx
    rw [hg, Go.Maps.atKey_put_same h1.isMap (K.key hkey)]
  · have hne : xl ≠ kl := by
      rintro rfl
      exact hxk (K.inj hx hkey)
    rw [hg' x hxk, Go.Maps.atKey_put_other hne, hf x xl hx]
/-- All is struck. -/
theorem MapAt.cleared {t e : TypeId} (h : MapAt P k w b n f) (ht : P.underlying t = some (.map k e)) (ty : TypeId) :
    ∃ w', (Builtin.clear_ #[t] ty #[.map (some b)]).run P w = .ok (.tuple #[]) w' ∧ MapAt P k w' b 0 (fun _ => none) ∧ w.grownBy w' (some b) := by
  obtain ⟨D, ⟨es, clock, hb, F, _, rfl⟩, hf⟩ := h
  refine ⟨setBlock w b (.map #[] clock), by simp [Builtin.clear_, run_underlying ht, MapKept.run_getObj_map hb, MapKept.run_setObj_map _ hb, Result.andThen]; rfl, ?_, ⟨rfl, rfl, rfl, by simp [setBlock], fun i _ hi => heap_setBlock_other hb _ (fun e => hi (by rw [e]))⟩⟩
  exact ⟨_, ⟨#[], clock, heap_setBlock_same hb _, ⟨by simp, MapKept.stamped_empty _, by simp⟩, Nat.le_refl _, rfl⟩, fun _ _ _ _ => rfl⟩
end
end Go.Proofs.YtlipnnibagidiaaGreat

/- Keys of maps: pairs of ints; what a store leaves. -/
namespace Go.Proofs.YtlipnnibagidiaaGreat
open Go.RowKit
open Go.Maps (Keyed)

def pairKey (x y : Int) : Value := .agg #[.int .i64 x, .int .i64 y]
theorem laidOut : laidOutB Tryz.prog = true := by kernel_rfl
theorem pair_key : Keyed Tryz.prog 122 := Go.Maps.Keyed.of_law (deep_law_laid laidOut (m := 3) (by decide) (of_decide_eq_true (by kernel_rfl)) (by kernel_rfl) (by kernel_rfl))
theorem pair_arr : Go.WideMaps.ArrKey Tryz.prog 122 3 2 := ⟨Tryz.underlying122, by kernel_rfl, by kernel_rfl, by kernel_rfl⟩
theorem int_wf {x : Int} (h0 : -9223372036854775808 ≤ x) (h1 : x ≤ 9223372036854775807) : (Lit.int .i64 x).wf = true := by
  simp [Lit.wf, IntKind.min, IntKind.max, IntKind.bits, IntKind.signed]; omega
theorem types_size : ∃ m, Tryz.prog.types.size = m + 1 := ⟨Tryz.prog.types.size - 1, by kernel_rfl⟩
theorem pair_key_of {x y : Int} (h0 : 0 ≤ x) (h1 : x ≤ 4096) (g0 : 0 ≤ y) (g1 : y ≤ 4096) : ∃ kl, keyOf Tryz.prog 122 (pairKey x y) = some kl :=
  ⟨_, Go.WideMaps.keyOf_pair pair_arr Tryz.underlying3 types_size (int_wf (by omega) (by omega)) (int_wf (by omega) (by omega))⟩

open Classical in
/-- One key more. -/
noncomputable def putFn (q : Value → Option Value) (k u : Value) (v : Value) : Option Value := if v = k then some u else q v
theorem putFn_at (q : Value → Option Value) (k u : Value) : putFn q k u k = some u := if_pos rfl
theorem putFn_far (q : Value → Option Value) (k u v : Value) (h : v ≠ k) : putFn q k u v = q v := if_neg h
theorem pairKey_inj {a b x y : Int} (h : pairKey a b = pairKey x y) : a = x ∧ b = y := by
  unfold pairKey at h
  simpa using h

end Go.Proofs.YtlipnnibagidiaaGreat

/- Nodes and signs as keys. -/
namespace Go.Proofs.YtlipnnibagidiaaGreat
open Go.RowKit
open Go.Maps (Keyed)

theorem int_wf_i8 {x : Int} (h0 : -128 ≤ x) (h1 : x ≤ 127) : (Lit.int .i8 x).wf = true := by simp [Lit.wf, IntKind.min, IntKind.max, IntKind.bits, IntKind.signed]; omega
theorem node_at : Tryz.prog.keyTypeAt 4 51 = true := by kernel_rfl
theorem node_wide : (match Tryz.prog.underlying 51 with | some (.array _ _) | some (.struct _) => true | _ => false) = true := by kernel_rfl
set_option maxRecDepth 100000 in
theorem node_key : Keyed Tryz.prog 51 := Keyed.of_law (deep_law_laid laidOut (m := 4) (by omega) (of_decide_eq_true (by kernel_rfl)) node_at node_wide)
theorem node_keyT : Tryz.prog.keyType 51 = true := by kernel_rfl
theorem node_cells : Tryz.prog.cellsOf 51 = 8 := by kernel_rfl
theorem types_size3 : ∃ m, Tryz.prog.types.size = m + 3 := ⟨Tryz.prog.types.size - 3, by kernel_rfl⟩
theorem cells_i8 : Tryz.prog.cellsOf 44 = 1 := by kernel_rfl
theorem cells_int : Tryz.prog.cellsOf 3 = 1 := by kernel_rfl
theorem cells_arr3 : Tryz.prog.cellsOf 49 = 3 := by kernel_rfl
set_option maxRecDepth 100000 in
theorem node_lits (m : Nat) {n : Nd} (h : NdWf n) : ∃ L, Tryz.prog.keyLits (m + 3 + 1) 51 (nodeCells n) = some L := by
  have w0 := int_wf_i8 h.op.1 h.op.2
  have w1 := int_wf_i8 h.len.1 h.len.2
  have w2 := int_wf (h.arg 0).1 (h.arg 0).2
  have w3 := int_wf (h.arg 1).1 (h.arg 1).2
  have w4 := int_wf (h.arg 2).1 (h.arg 2).2
  have w5 := int_wf h.sort.1 h.sort.2
  have w6 := int_wf h.fn.1 h.fn.2
  have w7 := int_wf h.num.1 h.num.2
  simp only [Nd.arg, if_true, if_neg (show ¬ (1 : Nat) = 0 by omega), if_neg (show ¬ (2 : Nat) = 0 by omega), if_neg (show ¬ (2 : Nat) = 1 by omega)] at w2 w3 w4
  have hr : List.range 3 = [0, 1, 2] := rfl
  unfold Program.keyLits
  rw [Tryz.underlying51]
  simp [nodeCells, node_cells, cells_i8, cells_int, cells_arr3, Program.keyLits, Tryz.underlying44, Tryz.underlying3, Tryz.underlying49, w0, w1, w2, w3, w4, w5, w6, w7, hr]
theorem node_keyOf {n : Nd} (h : NdWf n) : ∃ kl, keyOf Tryz.prog 51 (nodeVal n) = some kl := by
  obtain ⟨m, hm⟩ := types_size3
  obtain ⟨L, hL⟩ := node_lits m h
  unfold keyOf
  rw [Tryz.underlying51]
  simp only
  rw [hm, if_pos (by rw [node_keyT]; simp [Value.formed, nodeVal, nodeCells, Tryz.underlying51, node_cells])]
  refine ⟨.string (keyBytes L), ?_⟩
  have : (nodeVal n).cells.toList = nodeCells n := rfl
  rw [this, hL]
  rfl
theorem nodeVal_inj {n m : Nd} (h : nodeVal n = nodeVal m) : n = m := by
  obtain ⟨a, b, c, d, e, f, g, k⟩ := n
  simp [nodeVal, nodeCells] at h
  obtain ⟨h1, h2, h3, h4, h5, h6, h7, h8⟩ := h
  subst h1 h2 h3 h4 h5 h6 h7 h8
  rfl
set_option maxRecDepth 100000 in
/-- Two nodes held against each other. -/
theorem node_eq {n m : Nd} (h : NdWf n) (k : NdWf m) : ∃ r : Bool, (r = true ↔ n = m) ∧ ∀ w, (Op.equal 51 (nodeVal n) (nodeVal m)).run Tryz.prog w = .ok r w := by
  obtain ⟨l1, e1⟩ := node_keyOf h
  obtain ⟨l2, e2⟩ := node_keyOf k
  have key : ∀ w, ∃ r : Bool, (Op.equal 51 (nodeVal n) (nodeVal m)).run Tryz.prog w = .ok r w ∧ (r = true ↔ l1 = l2) := fun w => run_equal_deep w (m := 4) (by omega) node_at node_wide e1 e2
  have hl : l1 = l2 ↔ n = m := ⟨fun e => nodeVal_inj (node_key.inj e1 (e ▸ e2)), fun e => by subst e; rw [e1] at e2; exact Option.some.inj e2⟩
  by_cases hn : n = m
  · refine ⟨true, ⟨fun _ => hn, fun _ => rfl⟩, fun w => ?_⟩
    obtain ⟨r, h1, h2⟩ := key w
    rw [h1, h2.2 (hl.2 hn)]
  · refine ⟨false, ⟨fun e => (by cases e), fun e => absurd e hn⟩, fun w => ?_⟩
    obtain ⟨r, h1, h2⟩ := key w
    cases r with
    | false => exact h1
    | true => exact absurd (hl.1 (h2.1 rfl)) hn
theorem node_guardT : Tryz.prog.eqGuardType Tryz.prog.depth 51 = false := by kernel_rfl
theorem node_guard (op : BinOp) (x y : Operand) (xs ys : Array Value) (w : World) : (eqGuard op 51 x y (.agg xs) (.agg ys)).run Tryz.prog w = .ok () w := run_eqGuard_agg w op _ x y xs ys node_guardT
theorem node_neq {r : Bool} {xs ys : Array Value} (h : ∀ w, (Op.equal 51 (.agg xs) (.agg ys)).run Tryz.prog w = .ok r w) (w : World) : (binOp .neq 51 (.agg xs) (.agg ys)).run Tryz.prog w = .ok (.bool (!r)) w := by
  simp only [binOp, Sem.run_bind, h, Result.andThen_ok, Sem.run_pure]
theorem node_eql {r : Bool} {xs ys : Array Value} (h : ∀ w, (Op.equal 51 (.agg xs) (.agg ys)).run Tryz.prog w = .ok r w) (w : World) : (binOp .eql 51 (.agg xs) (.agg ys)).run Tryz.prog w = .ok (.bool r) w := by
  simp only [binOp, Sem.run_bind, h, Result.andThen_ok, Sem.run_pure]
end Go.Proofs.YtlipnnibagidiaaGreat

/- Two rows of nodes held against each other; the table that is there always. -/
namespace Go.Proofs.YtlipnnibagidiaaGreat
open Go.RowKit

theorem NdAt.all {w : World} {b o : Nat} {n : Nd} (h : NdAt w b o n) : w.cell? ⟨b, o, none⟩ = some (.int .i8 n.op) ∧ w.cell? ⟨b, o + 1, none⟩ = some (.int .i8 n.len) ∧ w.cell? ⟨b, o + 2, none⟩ = some (.int .i64 n.a0) ∧
    w.cell? ⟨b, o + 3, none⟩ = some (.int .i64 n.a1) ∧ w.cell? ⟨b, o + 4, none⟩ = some (.int .i64 n.a2) ∧ w.cell? ⟨b, o + 5, none⟩ = some (.int .i64 n.sort) ∧ w.cell? ⟨b, o + 6, none⟩ = some (.int .i64 n.fn) ∧ w.cell? ⟨b, o + 7, none⟩ = some (.int .i64 n.num) :=
  ⟨h.cells 0 (by omega), h.cells 1 (by omega), h.cells 2 (by omega), h.cells 3 (by omega), h.cells 4 (by omega), h.cells 5 (by omega), h.cells 6 (by omega), h.cells 7 (by omega)⟩
theorem eqn_ok {T U : List Nd} {w : World} {A B : Option Addr} (c d : Nat) (h : Tab w A T) (k : Tab w B U) :
    Calls Tryz.prog 75 #[.slice A T.length c, .slice B U.length d] w (TestIs (T = U) w) := by
  have hlen := h.len
  have klen := k.len
  have H := Lib.hid h
  have K := Lib.hid k
  clear h k
  by_cases hl : T.length = U.length
  · have hb : ((T.length : Int) != U.length) = false := by simp [hl]
    have Hl := Lib.hid hl
    clear hl
    go_enter Tryz.func75, Tryz.ntmps75
    go_wp2
    go_loopg [13] T.length (fun g v wx => ∃ (i q : Nat), i + g = T.length ∧ v = .int .i64 i ∧ wx = w.drewN q ∧ (T = U ↔ T.drop i = U.drop i))
    case atStart => exact ⟨0, 0, by omega, rfl, rfl, Iff.rfl⟩
    case round =>
      obtain ⟨i, q, hi, rfl, rfl, hinv⟩ := hrel
      have HI := Lib.hid hinv
      clear hinv
      cases gk with
      | zero =>
        obtain rfl : i = T.length := by omega
        have d1 : decide ((T.length : Int) < T.length) = false := by simp
        go_wp2
        go_ret
        exact TestIs.yes (HI.out.2 (by rw [List.drop_length, List.drop_of_length_le (by rw [Hl.out]; exact Nat.le_refl _)])) (below_drewN (Below.refl _ _) _)
      | succ gk =>
        have hlt : i < T.length := by omega
        have hlt2 : i < U.length := by rw [← Hl.out]; exact hlt
        have d1 : decide ((i : Int) < T.length) = true := by simp; omega
        obtain ⟨b, off, hA, hb, hcell⟩ := H.out.at_.resolve_left (by omega)
        obtain ⟨b2, off2, hB, hb2, hcell2⟩ := K.out.at_.resolve_left (by omega)
        subst hA hB
        have y := hcell i hlt
        have z := hcell2 i hlt2
        obtain ⟨y0, y1, y2, y3, y4, y5, y6, y7⟩ := y.all
        obtain ⟨z0, z1, z2, z3, z4, z5, z6, z7⟩ := z.all
        obtain ⟨r, hr, heq⟩ := node_eq y.wf z.wf
        have Hr := Lib.hid hr
        simp only [nodeVal, nodeCells] at heq
        clear y z hr
        have hT : T.drop i = T[i] :: T.drop (i + 1) := List.drop_eq_getElem_cons hlt
        have hU : U.drop i = U[i] :: U.drop (i + 1) := List.drop_eq_getElem_cons hlt2
        generalize T[i] = n at *
        generalize U[i] = m at *
        have HT := Lib.hid hT
        have HU := Lib.hid hU
        clear hT hU
        have t1 : (0 : Int) ≤ (i : Int) := by omega
        have t2 : (i : Int) < (T.length : Int) := by omega
        have t3 : (i : Int) < (U.length : Int) := by omega
        clear hcell hcell2
        have g1 := node_neq heq
        have g0 := fun w x y => node_guard .neq x y #[.int .i8 n.op, .int .i8 n.len, .int .i64 n.a0, .int .i64 n.a1, .int .i64 n.a2, .int .i64 n.sort, .int .i64 n.fn, .int .i64 n.num] #[.int .i8 m.op, .int .i8 m.len, .int .i64 m.a0, .int .i64 m.a1, .int .i64 m.a2, .int .i64 m.sort, .int .i64 m.fn, .int .i64 m.num] w
        clear heq
        cases r with
        | true =>
          have e : n = m := Hr.out.1 rfl
          have HE := Lib.hid e
          clear e
          go_wp2
          go_quiet (fail)
          go_wp2
          go_roundg gk
          case measure => omega
          case rel => exact ⟨i + 1, _, by omega, by go_num, rfl, by rw [HI.out, HT.out, HU.out, HE.out]; simp⟩
        | false =>
          go_wp2
          go_quiet (fail)
          go_wp2
          go_ret
          refine TestIs.no (fun e => ?_) (below_drewN (below_drewN (Below.refl _ _) _) _)
          have := HI.out.1 e
          rw [HT.out, HU.out] at this
          injection this with h1 _
          have := Hr.out.2 h1
          cases this
  · have hb : ((T.length : Int) != U.length) = true := by simp; omega
    have HF := Lib.hid hl
    clear hl
    go_enter Tryz.func75, Tryz.ntmps75
    go_wp2
    go_ret
    exact TestIs.no (fun e => HF.out (by rw [e])) (Below.refl _ _)

/-! ### the table that is there always -/
def twoNd : List Nd := [trueNd, zeroNd]
theorem nd_wf0 : NdWf trueNd ∧ NdWf zeroNd := by
  refine ⟨⟨by decide, by decide, fun j => ?_, by decide, by decide, by decide⟩, ⟨by decide, by decide, fun j => ?_, by decide, by decide, by decide⟩⟩
  all_goals
    unfold Nd.arg
    repeat' split
    all_goals decide
/-- A block of nodes. -/
theorem blk_tab {w : World} {g : Nat} {T : List Nd} (h : Blk w g 51 (T.flatMap nodeCells).toArray) (hl : T.length ≤ 100000) (hw : ∀ n ∈ T, NdWf n) : Tab w (some ⟨g, 0, none⟩) T := by
  refine ⟨hl, .inr ⟨g, 0, rfl, h.lt, fun i hi => ⟨h.lt, fun j hj => ?_, hw _ (List.getElem_mem hi)⟩⟩⟩
  rw [h.cell, List.getElem?_toArray, Nat.zero_add, flat_get nodeCells 8 (fun _ => rfl) T i j hi hj]
def NewIs (w : World) (e : Ending) (w' : World) : Prop := ∃ A, e = .returned (.agg #[.slice A 2 2]) ∧ Tab w' A twoNd ∧ Below w.heap.size w w'
theorem new_tab (w : World) : NewIs w (.returned (.agg #[.slice (some ⟨w.heap.size + 1, 0, none⟩) 2 2])) ((w.alloc (.cells #[.slice (some ⟨w.heap.size + 1, 0, none⟩) 2 2] 33)).alloc (.cells (twoNd.flatMap nodeCells).toArray 51)) := by
  refine ⟨_, rfl, blk_tab (Blk.new_at (by simp) _ _) (by decide) ?_, ?_⟩
  · intro n hn
    rcases List.mem_cons.1 hn with rfl | hn
    · exact nd_wf0.1
    · obtain rfl := List.mem_singleton.1 hn
      exact nd_wf0.2
  · exact ((Below.refl _ w).alloc (Nat.le_refl _) _).alloc (by simp) _
theorem tnew_ok (w : World) : Calls Tryz.prog 76 #[] w (NewIs w) := by
  have H := Lib.hid (new_tab w)
  go_enter Tryz.func76, Tryz.ntmps76
  go_wp2
  refine bodyPost_ret (v := .agg #[.slice (some ⟨w.heap.size + 1, 0, none⟩) 2 2]) (by simp [results, Tryz.results76, go_sem]) rfl ?_
  exact H.out
theorem rnew_ok (w : World) : Calls Tryz.prog 41 #[] w (NewIs w) := by
  have H := Lib.hid (new_tab w)
  go_enter Tryz.func41, Tryz.ntmps41
  go_wp2
  refine bodyPost_ret (v := .agg #[.slice (some ⟨w.heap.size + 1, 0, none⟩) 2 2]) (by simp [results, Tryz.results41, go_sem]) rfl ?_
  exact H.out
end Go.Proofs.YtlipnnibagidiaaGreat

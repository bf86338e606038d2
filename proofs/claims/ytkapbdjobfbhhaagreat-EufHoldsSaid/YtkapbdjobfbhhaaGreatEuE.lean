/- term.Check. -/
import Derived.Test.YtkapbdjobfbhhaaGreatEuB
import Derived.Test.YtkapbdjobfbhhaaGreatOneC
import Derived.Laws.StructEq
import Derived.Deep.RegionHeld3
namespace Go.Proofs.YtkapbdjobfbhhaaGreat
open Go.RowKit
open Go.Maps (Keyed)
theorem int_wf_i8 {x : Int} (h0 : -128 ≤ x) (h1 : x ≤ 127) : (Lit.int .i8 x).wf = true := by simp [Lit.wf, IntKind.min, IntKind.max, IntKind.bits, IntKind.signed]; omega
theorem node_at : Tryz.prog.keyTypeAt 4 48 = true := by kernel_rfl
theorem node_wide : (match Tryz.prog.underlying 48 with | some (.array _ _) | some (.struct _) => true | _ => false) = true := by kernel_rfl
set_option maxRecDepth 100000 in
theorem node_key : Keyed Tryz.prog 48 := Keyed.of_law (deep_law_laid laidOut (m := 4) (by omega) (of_decide_eq_true (by kernel_rfl)) node_at node_wide)
theorem node_keyT : Tryz.prog.keyType 48 = true := by kernel_rfl
theorem node_cells : Tryz.prog.cellsOf 48 = 8 := by kernel_rfl
theorem types_size3 : ∃ m, Tryz.prog.types.size = m + 3 := ⟨Tryz.prog.types.size - 3, by kernel_rfl⟩
theorem cells_i8 : Tryz.prog.cellsOf 45 = 1 := by kernel_rfl
theorem cells_int : Tryz.prog.cellsOf 3 = 1 := by kernel_rfl
theorem cells_arr3 : Tryz.prog.cellsOf 46 = 3 := by kernel_rfl
set_option maxRecDepth 100000 in
theorem node_lits (m : Nat) {n : Nd} (h : NdWf n) : ∃ L, Tryz.prog.keyLits (m + 3 + 1) 48 (nodeCells n) = some L := by
  have w0 := int_wf_i8 h.op.1 h.op.2
  have w1 := int_wf_i8 h.len.1 h.len.2
  have w2 := int_wf (h.arg 0).1 (h.arg 0).2
  have w3 := int_wf (h.arg 1).1 (h.arg 1).2
  have w4 := int_wf (h.arg 2).1 (h.arg 2).2
  have w5 := int_wf h.sort.1 h.sort.2
  have w6 := int_wf h.fn.1 h.fn.2
  have w7 := int_wf h.num.1 h.num.2
  simp only [Nd.arg, if_true, if_neg (show ¬ (1 : Nat) = 0 by omega), if_neg (show ¬ (2 : Nat) = 0 by omega), if_neg (show ¬ (2 : Nat) = 1 by omega)] at w2 w3 w4
  have hr : List.range 3 = [0, 1, 2] := rfl
  unfold Program.keyLits
  rw [Tryz.underlying48]
  simp [nodeCells, node_cells, cells_i8, cells_int, cells_arr3, Program.keyLits, Tryz.underlying45, Tryz.underlying3, Tryz.underlying46, w0, w1, w2, w3, w4, w5, w6, w7, hr]
theorem node_keyOf {n : Nd} (h : NdWf n) : ∃ kl, keyOf Tryz.prog 48 (nodeVal n) = some kl := by
  obtain ⟨m, hm⟩ := types_size3
  obtain ⟨L, hL⟩ := node_lits m h
  unfold keyOf
  rw [Tryz.underlying48]
  simp only
  rw [hm, if_pos (by rw [node_keyT]; simp [Value.formed, nodeVal, nodeCells, Tryz.underlying48, node_cells])]
  refine ⟨.string (keyBytes L), ?_⟩
  have : (nodeVal n).cells.toList = nodeCells n := rfl
  rw [this, hL]
  rfl
theorem nodeVal_inj {n m : Nd} (h : nodeVal n = nodeVal m) : n = m := by
  obtain ⟨a, b, c, d, e, f, g, k⟩ := n
  simp [nodeVal, nodeCells] at h
  obtain ⟨h1, h2, h3, h4, h5, h6, h7, h8⟩ := h
  subst h1 h2 h3 h4 h5 h6 h7 h8
  rfl
set_option maxRecDepth 100000 in
theorem node_eq {n m : Nd} (h : NdWf n) (k : NdWf m) : ∃ r : Bool, (r = true ↔ n = m) ∧ ∀ w, (Op.equal 48 (nodeVal n) (nodeVal m)).run Tryz.prog w = .ok r w := by
  obtain ⟨l1, e1⟩ := node_keyOf h
  obtain ⟨l2, e2⟩ := node_keyOf k
  have key : ∀ w, ∃ r : Bool, (Op.equal 48 (nodeVal n) (nodeVal m)).run Tryz.prog w = .ok r w ∧ (r = true ↔ l1 = l2) := fun w => run_equal_deep w (m := 4) (by omega) node_at node_wide e1 e2
  have hl : l1 = l2 ↔ n = m := ⟨fun e => nodeVal_inj (node_key.inj e1 (e ▸ e2)), fun e => by subst e; rw [e1] at e2; exact Option.some.inj e2⟩
  by_cases hn : n = m
  · refine ⟨true, ⟨fun _ => hn, fun _ => rfl⟩, fun w => ?_⟩
    obtain ⟨r, h1, h2⟩ := key w
    rw [h1, h2.2 (hl.2 hn)]
  · refine ⟨false, ⟨fun e => (by cases e), fun e => absurd e hn⟩, fun w => ?_⟩
    obtain ⟨r, h1, h2⟩ := key w
    cases r with
    | false => exact h1
    | true => exact absurd (hl.1 (h2.1 rfl)) hn
theorem node_guardT : Tryz.prog.eqGuardType Tryz.prog.depth 48 = false := by kernel_rfl
theorem node_guard (op : BinOp) (x y : Operand) (xs ys : Array Value) (w : World) : (eqGuard op 48 x y (.agg xs) (.agg ys)).run Tryz.prog w = .ok () w := run_eqGuard_agg w op _ x y xs ys node_guardT
theorem node_neq {r : Bool} {xs ys : Array Value} (h : ∀ w, (Op.equal 48 (.agg xs) (.agg ys)).run Tryz.prog w = .ok r w) (w : World) : (binOp .neq 48 (.agg xs) (.agg ys)).run Tryz.prog w = .ok (.bool (!r)) w := by
  simp only [binOp, Sem.run_bind, h, Result.andThen_ok, Sem.run_pure]
theorem node_eql {r : Bool} {xs ys : Array Value} (h : ∀ w, (Op.equal 48 (.agg xs) (.agg ys)).run Tryz.prog w = .ok r w) (w : World) : (binOp .eql 48 (.agg xs) (.agg ys)).run Tryz.prog w = .ok (.bool r) w := by
  simp only [binOp, Sem.run_bind, h, Result.andThen_ok, Sem.run_pure]
end Go.Proofs.YtkapbdjobfbhhaaGreat
namespace Go.Proofs.YtkapbdjobfbhhaaGreat
open Go.RowKit Go.Lib
theorem NdAt.all {w : World} {b o : Nat} {n : Nd} (h : NdAt w b o n) : w.cell? ⟨b, o, none⟩ = some (.int .i8 n.op) ∧ w.cell? ⟨b, o + 1, none⟩ = some (.int .i8 n.len) ∧ w.cell? ⟨b, o + 2, none⟩ = some (.int .i64 n.a0) ∧
    w.cell? ⟨b, o + 3, none⟩ = some (.int .i64 n.a1) ∧ w.cell? ⟨b, o + 4, none⟩ = some (.int .i64 n.a2) ∧ w.cell? ⟨b, o + 5, none⟩ = some (.int .i64 n.sort) ∧ w.cell? ⟨b, o + 6, none⟩ = some (.int .i64 n.fn) ∧ w.cell? ⟨b, o + 7, none⟩ = some (.int .i64 n.num) :=
  ⟨h.cells 0 (by omega), h.cells 1 (by omega), h.cells 2 (by omega), h.cells 3 (by omega), h.cells 4 (by omega), h.cells 5 (by omega), h.cells 6 (by omega), h.cells 7 (by omega)⟩
theorem eqn_ok {T U : List Nd} {w : World} {A B : Option Addr} (c d : Nat) (h : Tab w A T) (k : Tab w B U) :
    Calls Tryz.prog 66 #[.slice A T.length c, .slice B U.length d] w (TestIs (T = U) w) := by
  have hlen := h.len
  have klen := k.len
  have H := Lib.hid h
  have K := Lib.hid k
  clear h k
  by_cases hl : T.length = U.length
  · have hb : ((T.length : Int) != U.length) = false := by simp [hl]
    have Hl := Lib.hid hl
    clear hl
    go_enter Tryz.func66, Tryz.ntmps66
    go_wp2
    go_loopg [13] T.length (fun g v wx => ∃ (i q : Nat), i + g = T.length ∧ v = .int .i64 i ∧ wx = w.drewN q ∧ (T = U ↔ T.drop i = U.drop i))
    case atStart => exact ⟨0, 0, by omega, rfl, rfl, Iff.rfl⟩
    case round =>
      obtain ⟨i, q, hi, rfl, rfl, hinv⟩ := hrel
      have HI := Lib.hid hinv
      clear hinv
      cases gk with
      | zero =>
        obtain rfl : i = T.length := by omega
        have d1 : decide ((T.length : Int) < T.length) = false := by simp
        go_wp2
        go_ret
        exact TestIs.yes (HI.out.2 (by rw [List.drop_length, List.drop_of_length_le (by rw [Hl.out]; exact Nat.le_refl _)])) (below_drewN (Below.refl _ _) _)
      | succ gk =>
        have hlt : i < T.length := by omega
        have hlt2 : i < U.length := by rw [← Hl.out]; exact hlt
        have d1 : decide ((i : Int) < T.length) = true := by simp; omega
        obtain ⟨b, off, hA, hb, hcell⟩ := H.out.at_.resolve_left (by omega)
        obtain ⟨b2, off2, hB, hb2, hcell2⟩ := K.out.at_.resolve_left (by omega)
        subst hA hB
        have y := hcell i hlt
        have z := hcell2 i hlt2
        obtain ⟨y0, y1, y2, y3, y4, y5, y6, y7⟩ := y.all
        obtain ⟨z0, z1, z2, z3, z4, z5, z6, z7⟩ := z.all
        obtain ⟨r, hr, heq⟩ := node_eq y.wf z.wf
        have Hr := Lib.hid hr
        simp only [nodeVal, nodeCells] at heq
        clear y z hr
        have hT : T.drop i = T[i] :: T.drop (i + 1) := List.drop_eq_getElem_cons hlt
        have hU : U.drop i = U[i] :: U.drop (i + 1) := List.drop_eq_getElem_cons hlt2
        generalize T[i] = n at *
        generalize U[i] = m at *
        have HT := Lib.hid hT
        have HU := Lib.hid hU
        clear hT hU
        have t1 : (0 : Int) ≤ (i : Int) := by omega
        have t2 : (i : Int) < (T.length : Int) := by omega
        have t3 : (i : Int) < (U.length : Int) := by omega
        clear hcell hcell2
        have g1 := node_neq heq
        have g0 := fun w x y => node_guard .neq x y #[.int .i8 n.op, .int .i8 n.len, .int .i64 n.a0, .int .i64 n.a1, .int .i64 n.a2, .int .i64 n.sort, .int .i64 n.fn, .int .i64 n.num] #[.int .i8 m.op, .int .i8 m.len, .int .i64 m.a0, .int .i64 m.a1, .int .i64 m.a2, .int .i64 m.sort, .int .i64 m.fn, .int .i64 m.num] w
        clear heq
        cases r with
        | true =>
          have e : n = m := Hr.out.1 rfl
          have HE := Lib.hid e
          clear e
          go_wp2
          go_quiet (fail)
          go_wp2
          go_roundg gk
          case measure => omega
          case rel => exact ⟨i + 1, _, by omega, by go_num, rfl, by rw [HI.out, HT.out, HU.out, HE.out]; simp⟩
        | false =>
          go_wp2
          go_quiet (fail)
          go_wp2
          go_ret
          refine TestIs.no (fun e => ?_) (below_drewN (below_drewN (Below.refl _ _) _) _)
          have := HI.out.1 e
          rw [HT.out, HU.out] at this
          injection this with h1 _
          have := Hr.out.2 h1
          cases this
  · have hb : ((T.length : Int) != U.length) = true := by simp; omega
    have HF := Lib.hid hl
    clear hl
    go_enter Tryz.func66, Tryz.ntmps66
    go_wp2
    go_ret
    exact TestIs.no (fun e => HF.out (by rw [e])) (Below.refl _ _)
def twoNd : List Nd := [trueNd, zeroNd]
theorem nd_wf0 : NdWf trueNd ∧ NdWf zeroNd := by
  refine ⟨⟨by decide, by decide, fun j => ?_, by decide, by decide, by decide⟩, ⟨by decide, by decide, fun j => ?_, by decide, by decide, by decide⟩⟩
  all_goals
    unfold Nd.arg
    repeat' split
    all_goals decide
theorem blk_tab {w : World} {g : Nat} {T : List Nd} (h : Blk w g 48 (T.flatMap nodeCells).toArray) (hl : T.length ≤ 100000) (hw : ∀ n ∈ T, NdWf n) : Tab w (some ⟨g, 0, none⟩) T := by
  refine ⟨hl, .inr ⟨g, 0, rfl, h.lt, fun i hi => ⟨h.lt, fun j hj => ?_, hw _ (List.getElem_mem hi)⟩⟩⟩
  rw [h.cell, List.getElem?_toArray, Nat.zero_add, flat_get nodeCells 8 (fun _ => rfl) T i j hi hj]
def NewIs (w : World) (e : Ending) (w' : World) : Prop := ∃ A, e = .returned (.agg #[.slice A 2 2]) ∧ Tab w' A twoNd ∧ Below w.heap.size w w'
theorem new_tab (w : World) : NewIs w (.returned (.agg #[.slice (some ⟨w.heap.size + 1, 0, none⟩) 2 2])) ((w.alloc (.cells #[.slice (some ⟨w.heap.size + 1, 0, none⟩) 2 2] 33)).alloc (.cells (twoNd.flatMap nodeCells).toArray 48)) := by
  refine ⟨_, rfl, blk_tab (Blk.new_at (by simp) _ _) (by decide) ?_, ?_⟩
  · intro n hn
    rcases List.mem_cons.1 hn with rfl | hn
    · exact nd_wf0.1
    · obtain rfl := List.mem_singleton.1 hn
      exact nd_wf0.2
  · exact ((Below.refl _ w).alloc (Nat.le_refl _) _).alloc (by simp) _
theorem tnew_ok (w : World) : Calls Tryz.prog 67 #[] w (NewIs w) := by
  have H := Lib.hid (new_tab w)
  go_enter Tryz.func67, Tryz.ntmps67
  go_wp2
  refine bodyPost_ret (v := .agg #[.slice (some ⟨w.heap.size + 1, 0, none⟩) 2 2]) (by simp [results, Tryz.results67, go_sem]) rfl ?_
  exact H.out
theorem rnew_ok (w : World) : Calls Tryz.prog 29 #[] w (NewIs w) := by
  have H := Lib.hid (new_tab w)
  go_enter Tryz.func29, Tryz.ntmps29
  go_wp2
  refine bodyPost_ret (v := .agg #[.slice (some ⟨w.heap.size + 1, 0, none⟩) 2 2]) (by simp [results, Tryz.results29, go_sem]) rfl ?_
  exact H.out
end Go.Proofs.YtkapbdjobfbhhaaGreat
namespace Go.Proofs.YtkapbdjobfbhhaaGreat
open Go.ChangeMaps Go.RowKit Go.WideElems
open Go.Maps (Keyed)
def MapSz (P : Program) (k : TypeId) (w : World) (b n : Nat) (f : Value → Option Value) : Prop :=
  ∃ D, w.ownsMap P k heldV b n D ∧ Go.Maps.Tidy D ∧ Go.Maps.size D = n ∧ ∀ key kl, keyOf P k key = some kl → (∀ zd, D.atKey kl zd = match f key with | some v => .held v | none => zd) ∧ Go.Maps.has D kl = (f key).isSome
section
variable {P : Program} {k : TypeId} {w w' : World} {b n : Nat} {f : Value → Option Value}
theorem MapSz.lt (h : MapSz P k w b n f) : b < w.heap.size := by
  obtain ⟨D, h, _⟩ := h
  exact h.lt
theorem MapSz.same (h : MapSz P k w b n f) (hb : w'.heap[b]? = w.heap[b]?) : MapSz P k w' b n f := by
  obtain ⟨D, ⟨es, clock, h1, h2⟩, h3⟩ := h
  exact ⟨D, ⟨es, clock, hb.trans h1, h2⟩, h3⟩
theorem MapSz.kept {S : Nat → Prop} (h : MapSz P k w b n f) (hk : Kept S w w') (hn : ¬ S b) : MapSz P k w' b n f := h.same (hk.block b h.lt hn)
theorem MapSz.alloc (h : MapSz P k w b n f) (o : Obj) : MapSz P k (w.alloc o) b n f := h.same (Below.heap_alloc w o b h.lt)
theorem MapSz.made (P : Program) (k : TypeId) (w : World) : MapSz P k (w.alloc (.map #[] 0)) w.heap.size 0 (fun _ => none) :=
  ⟨_, World.ownsMap_made w P k heldV, Go.Maps.tidy_empty, rfl, fun _ _ _ => ⟨fun _ => rfl, rfl⟩⟩
theorem MapSz.store {t e : TypeId} (h : MapSz P k w b n f) (K : Keyed P k) (ht : P.underlying t = some (.map k e)) (hn : n < maxLen) {key : Value} {kl : Lit} (hkey : keyOf P k key = some kl) (val : Value) {g : Value → Option Value}
    (hg : g key = some val) (hg' : ∀ x, x ≠ key → g x = f x) :
    ∃ w', (Instr.mapUpdate t (.map (some b)) key val).run P w = .ok () w' ∧ MapSz P k w' b (if (f key).isSome = true then n else n + 1) g ∧ w.grownBy w' (some b) := by
  obtain ⟨D, h1, ht2, hs, hf⟩ := h
  obtain ⟨w', hrun, h2, hgr⟩ := h1.update K ht hn hkey (d := .held val) (ps := []) rfl
  have hsz := Go.Maps.size_put (k := kl) ht2 (.held val)
  rw [(hf key kl hkey).2, hs] at hsz
  refine ⟨w', hrun, ⟨_, ?_, ht2.put (K.key hkey) _, hsz, fun x xl hx => ?_⟩, hgr⟩
  · obtain ⟨es, clock, hb, F, hle, hD⟩ := h2
    refine ⟨es, clock, hb, F, ?_, hD⟩
    have : Go.Maps.size (D.put kl (.held val)) = es.size := by rw [hD]; simp [Go.Maps.size, length_sorted]
    rw [← hsz, this]
    exact Nat.le_refl _
  · by_cases hxk : x = key
    · subst hxk
      rw [hkey] at hx
      injection hx with hx
      subst hx
      rw [hg]
      exact ⟨fun zd => Go.Maps.atKey_put_same ht2.isMap (K.key hkey) _ _, by rw [Go.Maps.has_put_same ht2.isMap (K.key hkey)]; rfl⟩
    · have hne : xl ≠ kl := by
        rintro rfl
        exact hxk (K.inj hx hkey)
      rw [hg' x hxk]
      exact ⟨fun zd => by rw [Go.Maps.atKey_put_other hne]; exact (hf x xl hx).1 zd, by rw [Go.Maps.has_put_other hne]; exact (hf x xl hx).2⟩
theorem MapSz.len {t e : TypeId} (h : MapSz P k w b n f) (ht : P.underlying t = some (.map k e)) (ty : TypeId) : (Builtin.len_ #[t] ty #[.map (some b)]).run P w = .ok (.int .i64 n) w := by
  obtain ⟨D, h1, _, hs, _⟩ := h
  rw [h1.len ht ty, hs]
end
end Go.Proofs.YtkapbdjobfbhhaaGreat
namespace Go.Proofs.YtkapbdjobfbhhaaGreat
open Go.RowKit Go.Lib
theorem node_info : (Tryz.prog.info? 48).map (fun i => (i.zero, i.size, i.bytes)) = some (some (.agg #[.int .i8 0, .int .i8 0, .int .i64 0, .int .i64 0, .int .i64 0, .int .i64 0, .int .i64 0, .int .i64 0]), 8, 56) := by kernel_rfl
def KeysOf (L : List Nd) (f : Value → Option Value) : Prop := ∀ key, (f key).isSome = true ↔ ∃ n ∈ L, nodeVal n = key
def PlIs (T : List Nd) (w : World) (e : Ending) (w' : World) : Prop := ∃ M b, e = .returned (.tuple #[.map (some M), .bool b]) ∧ (b = true ↔ T.Nodup) ∧ Below w.heap.size w w'
set_option maxHeartbeats 2000000 in
theorem grown_below {B : Nat} {a w w' : World} {row : Option Nat} (hg : w.grownBy w' row) (hb : Below B a w) (hB : B ≤ w.heap.size) (hr : ∀ k, row = some k → B ≤ k) : Below B a w' :=
  ⟨hg.os.trans hb.os, hg.tape.trans hb.tape, hg.output.trans hb.output, Nat.le_trans hb.size hg.size, fun k hk => by
    rw [hg.block k (by omega) (fun e => by have := hr k e.symm; omega)]
    exact hb.block k hk⟩
set_option maxRecDepth 100000 in
theorem places_ok {T : List Nd} {w : World} {A : Option Addr} (c : Nat) (h : Tab w A T) : Calls Tryz.prog 69 #[.agg #[.slice A T.length c]] w (PlIs T w) := by
  have hlen := h.len
  have H := Lib.hid h
  clear h
  have hmm : ∀ W : World, (Instr.makeMap 116 (some (.int .i64 (T.length : Int)))).run Tryz.prog W = .ok (.map (some W.heap.size)) (W.alloc (.map #[] 0)) := fun W => by simp [Instr.makeMap, run_underlying Tryz.underlying116, asInt, asIntOf, Result.andThen]
  have hM := MapSz.made Tryz.prog 48 (w.alloc (.cells #[.slice A T.length c] 33))
  rw [World.size_alloc] at hM
  have HM := Lib.hid hM
  clear hM
  go_enter Tryz.func69, Tryz.ntmps69
  go_wp2
  go_loopg [14] T.length (fun g v wr => ∃ i m : Nat, ∃ f, i + g = T.length ∧ v = .int .i64 i ∧ MapSz Tryz.prog 48 wr (w.heap.size + 1) m f ∧ KeysOf (T.take i) f ∧ m ≤ i ∧ (m = i ↔ (T.take i).Nodup) ∧ Below w.heap.size w wr ∧ Blk wr w.heap.size 33 #[.slice A T.length c])
  case atStart =>
    refine ⟨0, 0, _, by omega, rfl, HM.out, fun key => ?_, Nat.le_refl _, ?_, ((Below.refl _ w).alloc (Nat.le_refl _) _).alloc (by simp) _, (Blk.new w _ _).alloc _⟩
    · simp
    · simp
  case round =>
    obtain ⟨i, m, f, hig, rfl, hmap, hkeys, hmi, hnd, hb, hbl⟩ := hrel
    have HMp := Lib.hid hmap
    have HK := Lib.hid hkeys
    have HND := Lib.hid hnd
    have HB := Lib.hid hb
    have HBL := Lib.hid hbl
    have cb := hbl.cell 0
    simp only [List.getElem?_toArray, List.getElem?_cons_zero] at cb
    clear hmap hkeys hnd hb hbl
    cases gk with
    | zero =>
      obtain rfl : i = T.length := by omega
      have d1 : decide ((T.length : Int) < T.length) = false := by simp
      have hl1 : ∀ k ty, (Builtin.len_ #[116] ty #[.map (some (w.heap.size + 1))]).run Tryz.prog (wr.drewN k) = .ok (.int .i64 m) (wr.drewN k) := fun k ty => (show MapSz Tryz.prog 48 (wr.drewN k) (w.heap.size + 1) m f from HMp.out).len Tryz.underlying116 ty
      go_wp2
      go_quiet (fail)
      go_wp2
      go_ret2
      refine ⟨w.heap.size + 1, _, rfl, ?_, below_drewN HB.out _⟩
      have := HND.out
      rw [List.take_length] at this
      rw [← this]
      simp
      omega
    | succ gk =>
      have hlt : i < T.length := by omega
      have d1 : decide ((i : Int) < T.length) = true := by simp; omega
      obtain ⟨b, off, hA, hbb, hcell⟩ := (H.out.below HB.out).at_.resolve_left (by omega)
      subst hA
      have y := hcell i hlt
      obtain ⟨y0, y1, y2, y3, y4, y5, y6, y7⟩ := y.all
      have hT : T.take (i + 1) = T.take i ++ [T[i]] := by rw [List.take_add_one, List.getElem?_eq_getElem hlt]; rfl
      obtain ⟨kl, hkl⟩ := node_keyOf y.wf
      generalize T[i] = n at *
      obtain ⟨w2, hrun, hmap2, hgr⟩ := (HMp.out.alloc (.cells (nodeCells n).toArray 48)).store node_key Tryz.underlying116 (by unfold maxLen; omega) hkl (.int .i64 i) (g := putFn f (nodeVal n) (.int .i64 i)) (putFn_at _ _ _) (fun x hx => putFn_far _ _ _ _ hx)
      simp only [nodeVal, nodeCells] at hrun
      have HT := Lib.hid hT
      have HM2 := Lib.hid hmap2
      have HG := Lib.hid hgr
      clear hcell y hkl hT hmap2 hgr
      have t1 : (0 : Int) ≤ (i : Int) := by omega
      have t2 : (i : Int) < (T.length : Int) := by omega
      go_wp2
      go_roundg gk
      case measure => omega
      case rel =>
        have hsome : (f (nodeVal n)).isSome = true ↔ n ∈ T.take i := (HK.out _).trans ⟨fun ⟨x, hx, e⟩ => nodeVal_inj e ▸ hx, fun hn => ⟨n, hn, rfl⟩⟩
        refine ⟨i + 1, _, _, by omega, by go_num, HM2.out, fun key => ?_, ?_, ?_, ?_, ?_⟩
        · rw [HT.out]
          by_cases hkey : key = nodeVal n
          · subst hkey
            rw [putFn_at]
            simp
          · rw [putFn_far _ _ _ _ hkey, HK.out key]
            simp only [List.mem_append, List.mem_singleton]
            exact ⟨fun ⟨x, hx, e⟩ => ⟨x, .inl hx, e⟩, fun ⟨x, hx, e⟩ => hx.elim (fun hx => ⟨x, hx, e⟩) fun hx => absurd (by rw [← e, hx]) hkey⟩
        · split <;> omega
        · rw [HT.out, List.nodup_append]
          split
          · rename_i hs
            refine ⟨fun e => by omega, fun ⟨_, _, h3⟩ => absurd rfl (h3 n (hsome.1 hs) n (by simp))⟩
          · rename_i hs
            refine ⟨fun e => ⟨HND.out.1 (by omega), by simp, fun a ha b hb => ?_⟩, fun ⟨h1, _, _⟩ => by have := HND.out.2 h1; omega⟩
            rintro rfl
            exact hs (hsome.2 (List.mem_singleton.1 hb ▸ ha))
        · exact grown_below HG.out (HB.out.alloc (by have := HB.out.size; omega) _) (by have := HB.out.size; simp; omega) (fun k e => by injection e with e; omega)
        · exact (HBL.out.alloc _).grown HG.out (fun e => by injection e with e; omega)
def ErrIs (p : Prop) (w : World) (e : Ending) (w' : World) : Prop := ∃ b : Bool, e = .returned (.int .i64 (if b = true then 0 else 2)) ∧ (b = true ↔ p) ∧ Below w.heap.size w w'
theorem Tab.take {w : World} {A : Option Addr} {T : List Nd} (h : Tab w A T) (k : Nat) : Tab w A (T.take k) := by
  refine ⟨by rw [List.length_take]; have := h.len; omega, ?_⟩
  rcases h.at_ with h0 | ⟨b, off, h1, h2, h3⟩
  · exact .inl (by rw [List.length_take]; omega)
  · refine .inr ⟨b, off, h1, h2, fun i hi => ?_⟩
    rw [List.getElem_take]
    exact h3 i (by rw [List.length_take] at hi; omega)
theorem ErrIs.no {p : Prop} {w w' : World} (h : ¬ p) (hb : Below w.heap.size w w') : ErrIs p w (.returned (.int .i64 2)) w' := ⟨false, rfl, ⟨fun e => (by cases e), fun e => absurd e h⟩, hb⟩
theorem ErrIs.yes {p : Prop} {w w' : World} (h : p) (hb : Below w.heap.size w w') : ErrIs p w (.returned (.int .i64 0)) w' := ⟨true, rfl, ⟨fun _ => h, fun _ => rfl⟩, hb⟩
theorem tab_two {T : List Nd} : T.take 2 = twoNd ↔ T[0]? = some trueNd ∧ T[1]? = some zeroNd := by
  rcases T with _ | ⟨a, _ | ⟨b, T⟩⟩
  · simp [twoNd]
  · simp [twoNd]
  · simp [twoNd]
set_option maxRecDepth 100000 in
set_option maxHeartbeats 4000000 in
theorem check_ok {T : List Nd} {w : World} {A : Option Addr} (c : Nat) (hc : T.length ≤ c) (h : Tab w A T) : Calls Tryz.prog 41 #[.agg #[.slice A T.length c]] w (ErrIs (TabOk T) w) := by
  have hlen := h.len
  have hB1 : Below w.heap.size w (w.alloc (.cells #[.slice A T.length c] 33)) := (Below.refl _ w).alloc (Nat.le_refl _) _
  have hbl : Blk (w.alloc (.cells #[.slice A T.length c] 33)) w.heap.size 33 #[.slice A T.length c] := Blk.new w _ _
  have hsz : (w.alloc (.cells #[.slice A T.length c] 33)).heap.size = w.heap.size + 1 := by simp
  have H := Lib.hid h
  have HB1 := Lib.hid hB1
  have HBL := Lib.hid hbl
  have HL1 : Hid (w.heap.size < (w.alloc (.cells #[.slice A T.length c] 33)).heap.size) := Lib.hid (by omega)
  clear h hB1 hbl hsz
  by_cases h2 : T.length < 2
  · have d1 : decide ((T.length : Int) < 2) = true := by simp; omega
    have HN : Hid (¬ TabOk T) := Lib.hid fun ht => by have := ht.len; omega
    clear h2
    go_enter Tryz.func41, Tryz.ntmps41
    go_wp2
    go_quiet (fail)
    go_wp2
    go_ret
    exact ErrIs.no HN.out (below_drewN HB1.out _)
  have d1 : decide ((T.length : Int) < 2) = false := by simp; omega
  have l2 : (2 : Int) ≤ c := by omega
  have l3 : (2 : Nat) ≤ c := by omega
  have HD1 : Hid (Below w.heap.size w (w.alloc (.cells #[.slice A T.length c] 33)).drew) := Lib.hid ⟨HB1.out.os, HB1.out.tape, HB1.out.output, HB1.out.size, HB1.out.block⟩
  have HDL : Hid (Blk (w.alloc (.cells #[.slice A T.length c] 33)).drew w.heap.size 33 #[.slice A T.length c]) := Lib.hid HBL.out
  obtain ⟨b, off, hA, hbb, hcell⟩ := H.out.at_.resolve_left (by omega)
  have HH2 := Lib.hid h2
  clear h2
  have KE : Hid (∀ W A2, Below w.heap.size w W → Tab W A2 twoNd → Calls Tryz.prog 66 #[.slice A 2 c, .slice A2 2 2] W (TestIs (T.take 2 = twoNd) W)) := Lib.hid fun W A2 hb ht => by
    have := eqn_ok c 2 ((H.out.below hb).take 2) ht
    rwa [show (T.take 2).length = 2 by rw [List.length_take]; have := HH2.out; omega] at this
  have hfd : ∀ (W : World) (a : Option Addr) (l c : Nat), (Instr.field 33 (.agg #[.slice a l c]) 0).run Tryz.prog W = .ok (.slice a l c) W := fun _ _ _ _ => by kernel_rfl
  have HC := Lib.hid hcell
  have HA := Lib.hid hA
  clear hcell
  go_enter Tryz.func41, Tryz.ntmps41
  go_wp2
  subst hA
  go_upto_region 3 with (fail)
  go_region_held3 (fun w' => w'.cell? ⟨w.heap.size, 0, none⟩ = some (.slice (some ⟨b, off, none⟩) T.length c)) (go_keep) (first
    | (go_at_call 67; refine (tnew_ok _).mono ?_; rintro e w1 ⟨A2, rfl, ht2, hb2⟩; have hcc := (hb2.cell (p := ⟨w.heap.size, 0, none⟩) HL1.out).trans (HDL.out.cell 0); simp only [List.getElem?_toArray, List.getElem?_cons_zero] at hcc; have HT2 := Lib.hid ht2; have HB2 := Lib.hid hb2; clear ht2 hb2)
    | (go_at_call 66; refine (KE.out _ _ (HD1.out.trans (HB2.out.mono (Nat.le_of_lt HL1.out))) HT2.out).mono ?_; rintro e w3 ⟨r, rfl, hr, hb3⟩; have HR := Lib.hid hr; have HB3 := Lib.hid hb3; have hcd := (hb3.cell (p := ⟨w.heap.size, 0, none⟩) (Nat.lt_of_lt_of_le HL1.out HB2.out.size)).trans hcc; clear hr hb3))
  have HW3 : Hid (Below w.heap.size w w3) := Lib.hid (HD1.out.trans ((HB2.out.mono (Nat.le_of_lt HL1.out)).trans (HB3.out.mono (Nat.le_trans (Nat.le_of_lt HL1.out) HB2.out.size))))
  have hbl3 : Blk w3 w.heap.size 33 #[.slice (some ⟨b, off, none⟩) T.length c] := (HDL.out.below (HB2.out.mono (Nat.le_refl _)) HL1.out).below HB3.out (Nat.lt_of_lt_of_le HL1.out HB2.out.size)
  have HBL3 := Lib.hid hbl3
  clear hbl3
  cases r with
  | false =>
    have HN : Hid (¬ TabOk T) := Lib.hid fun ht => by
      have := HR.out.2 (tab_two.2 ⟨ht.t0, ht.t1⟩)
      cases this
    go_wp2
    go_ret
    exact ErrIs.no HN.out HW3.out
  | true =>
    have HTwo := Lib.hid (tab_two.1 (HR.out.1 rfl))
    clear hcc hcd
    have c3 := HBL3.out.cell 0
    simp only [List.getElem?_toArray, List.getElem?_cons_zero] at c3
    go_wp2
    go_loopg [22] T.length (fun g v wr => ∃ i : Nat, i + g = T.length ∧ v = .int .i64 i ∧ Below w.heap.size w wr ∧ Blk wr w.heap.size 33 #[.slice (some ⟨b, off, none⟩) T.length c] ∧ ∀ (k : Nat) (n : Nd), k < i → T[k]? = some n → Stands n k)
    case atStart => exact ⟨0, by omega, rfl, HW3.out, HBL3.out, fun k n hk => absurd hk (Nat.not_lt_zero _)⟩
    case round =>
      obtain ⟨i, hig, rfl, hbw, hblr, hinv⟩ := hrel
      have HBW := Lib.hid hbw
      have HBR := Lib.hid hblr
      have HI := Lib.hid hinv
      have c4 := hblr.cell 0
      simp only [List.getElem?_toArray, List.getElem?_cons_zero] at c4
      clear hbw hblr hinv
      cases gk with
      | zero =>
        obtain rfl : i = T.length := by omega
        have d2 : decide ((T.length : Int) < T.length) = false := by simp
        go_wp2_with fail
        refine (places_ok c (H.out.below HBW.out)).mono ?_
        rintro e w5 ⟨M, r, rfl, hr, hb5⟩
        have HR5 := Lib.hid hr
        have HB5 := Lib.hid (HBW.out.trans (hb5.mono HBW.out.size))
        clear hr hb5
        cases r with
        | false =>
          go_wp2
          go_ret
          exact ErrIs.no (fun ht => by have := HR5.out.2 ht.once; cases this) HB5.out
        | true =>
          go_wp2
          go_ret
          exact ErrIs.yes ⟨HTwo.out.1, HTwo.out.2, fun k n hk => HI.out k n (List.getElem?_eq_some_iff.1 hk).1 hk, (by have := HR5.out; simpa using this)⟩ HB5.out
      | succ gk =>
        have hlt : i < T.length := by omega
        have d2 : decide ((i : Int) < T.length) = true := by simp; omega
        have t1 : (0 : Int) ≤ (i : Int) := by omega
        have t2 : (i : Int) < (T.length : Int) := by omega
        have KS : Hid (Calls Tryz.prog 68 #[.pointer (some ⟨b, off + i * 8, none⟩), .int .i64 (i : Int)] wr (TestIs (Stands T[i] i) wr)) := Lib.hid (stands_ok T[i] i (by omega) b (off + i * 8) wr ((HC.out i hlt).below HBW.out))
        go_wp2_with fail
        refine KS.out.mono ?_
        rintro e w5 ⟨r, rfl, hr, hb5⟩
        have HR5 := Lib.hid hr
        have HB5 := Lib.hid (HBW.out.trans (hb5.mono HBW.out.size))
        have HBR5 := Lib.hid (HBR.out.below hb5 HBR.out.lt)
        clear hr hb5
        cases r with
        | false =>
          go_wp2
          go_ret
          exact ErrIs.no (fun ht => by have := HR5.out.2 (ht.st i _ (List.getElem?_eq_getElem hlt)); cases this) HB5.out
        | true =>
          go_wp2
          go_roundg gk
          case measure => omega
          case rel =>
            refine ⟨i + 1, by omega, by go_num, HB5.out, HBR5.out, fun k n hk hn => ?_⟩
            rcases Nat.lt_succ_iff_lt_or_eq.1 hk with hk | rfl
            · exact HI.out k n hk hn
            · rw [List.getElem?_eq_getElem hlt] at hn
              injection hn with hn
              subst hn
              exact (by have := HR5.out; simpa using this)
end Go.Proofs.YtkapbdjobfbhhaaGreat

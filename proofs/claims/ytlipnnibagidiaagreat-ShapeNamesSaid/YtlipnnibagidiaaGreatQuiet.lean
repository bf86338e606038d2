/- shape.All: the clauses of all nodes. -/
import Derived.Test.YtlipnnibagidiaaGreatWxB
import Derived.Test.YtlipnnibagidiaaGreatRound
import Derived.Deep.RegionHeldLaw
import Derived.Test.YtlipnnibagidiaaGreatRows
import Derived.WalkKit
import Derived.ProofKit
import Derived.OpenShut
import Derived.ShutString
import Derived.ChangeOld
import Derived.Below
import Derived.ChangeSlices
import Derived.Deep.Grids
import Derived.Test.YtlipnnibagidiaaGreatRowA
import Derived.Test.YtlipnnibagidiaaGreatShP
import Derived.Test.YtlipnnibagidiaaGreatEuD
import Derived.Deep.Fields
import Derived.Laws.IdiomArrays
import Derived.Test.YtlipnnibagidiaaGreatEuA
namespace Go.Proofs.YtlipnnibagidiaaGreat
open Go.RowKit Go.Lib
attribute [local go_sem] Oper.semAt_some

theorem wp_append_run {o : Oper} {a : Act} {K : Act → World → Prop} {Q : Exit → Act → World → Prop} {w w' : World} {s x : Operand} {t : TypeId}
    (ho : o.op = .call { callee := .builtin .append, args := #[s, x], argTypes := #[t, t] }) {u v v' : Value} (hs : a.eval s = u) (hx : a.eval x = v)
    (hrun : (Builtin.append_ #[t, t] o.type #[u, v]).run Tryz.prog w = .ok v' w') (h : K (a.put o.dst v') w') : o.wp Tryz.prog a w K Q := by
  unfold Oper.wp execOp
  simp only [ho, resolve, invoke, builtin, Sem.run_bind, Sem.run_pure, Result.andThen_ok, List.map_toArray, List.map_cons, List.map_nil, hs, hx]
  rw [hrun]
  exact h
/-- What All comes to. -/
def ShAllIs (T : List Nd) (w : World) (e : Ending) (w' : World) : Prop :=
  ∃ v rows, e = .returned (.tuple #[v, .int .i64 0]) ∧ GridV (fun b => w.heap.size ≤ b) w' v rows ∧ rows.map (fun r => r.2.2) = sumP T T.length ∧ Below w.heap.size w w'
set_option maxRecDepth 100000 in
set_option maxHeartbeats 8000000 in
theorem shall_ok {T : List Nd} {w : World} {A : Option Addr} (c : Nat) (hc : T.length ≤ c) (h : Tab w A T) (hw : Well T) (hI : IteOk T) (hT : T.length ≤ 200000) :
    Calls Tryz.prog 19 #[.agg #[.slice A T.length c]] w (ShAllIs T w) := by
  obtain ⟨w0, hw0⟩ : ∃ w0, ((w.alloc (.cells #[.slice A T.length c] 33)).alloc (.cells #[.slice none 0 0] 46)).alloc (.cells #[.int .i64 0] 38) = w0 := ⟨_, rfl⟩
  have HS0 : Hid (w0.heap.size = w.heap.size + 3) := Lib.hid (by rw [← hw0]; simp)
  have HB0 : Hid (Below w.heap.size w w0) := Lib.hid (by rw [← hw0]; exact (((Below.refl _ w).alloc (Nat.le_refl _) _).alloc (by simp) _).alloc (by simp; omega) _)
  have HT0 : Hid (Blk w0 w.heap.size 33 #[.slice A T.length c]) := Lib.hid (by rw [← hw0]; exact ((Blk.new w _ _).alloc _).alloc _)
  have HO0 : Hid (Blk w0 (w.heap.size + 1) 46 #[.slice none 0 0]) := Lib.hid (by rw [← hw0]; exact (Blk.new_at (by simp) _ _).alloc _)
  have HE0 : Hid (Blk w0 (w.heap.size + 1 + 1) 38 #[.int .i64 0]) := Lib.hid (by rw [← hw0]; exact Blk.new_at (by simp) _ _)
  have a0 := HT0.out.cell 0
  simp only [List.getElem?_toArray, List.getElem?_cons_zero] at a0
  have H := Lib.hid h
  have HC := Lib.hid hc
  have HWl := Lib.hid hw
  have HIt := Lib.hid hI
  have HTl := Lib.hid hT
  clear h hc hw hI hT
  refine callsIn_wide.1 (callsIn_of_wp_marks (n := 2) Tryz.func19 rfl trivial (wpIn_wide.2 ?_) rfl)
  simp only [Tryz.ntmps19, List.size_toArray, List.length_cons, List.length_nil, Nat.reduceAdd, Nat.reduceSub, Array.replicate_succ, Array.replicate_zero, List.push_toArray, List.append_toArray, List.nil_append, List.cons_append]
  go_wp2_with fail
  refine (check_ok c HC.out (H.out.below HB0.out)).mono ?_
  rintro e w1 ⟨rr, rfl, hr, hb1⟩
  obtain rfl : rr = true := hr.2 HWl.out.core.ok
  have HB1 := Lib.hid (HB0.out.trans (hb1.mono HB0.out.size))
  have HT1 := Lib.hid (HT0.out.below hb1 HT0.out.lt)
  have HO1 := Lib.hid (HO0.out.below hb1 HO0.out.lt)
  have HE1 := Lib.hid (HE0.out.below hb1 HE0.out.lt)
  have HSZ1 : Hid (w.heap.size + 3 ≤ w1.heap.size) := Lib.hid (by rw [← HS0.out]; exact hb1.size)
  have a1 := HT1.out.cell 0
  simp only [List.getElem?_toArray, List.getElem?_cons_zero] at a1
  clear hr hb1 a0 hw0
  go_wp2_with (go_at_call 47; refine (writers_ok _ _ _).mono ?_; rintro e w3 ⟨rfl, rfl⟩)
  have hG0 : ∀ r, AW w w.heap.size w1.heap.size r A T c 0 (.slice none 0 0) [] (((w1.alloc (.cells #[.slice A T.length c] 33)).alloc (.deferred (some []))).alloc (.loop r)) := fun r => by
    have hl := LoopAt.new (w1.alloc (.cells #[.slice A T.length c] 33)) r
    rw [World.size_alloc] at hl
    have hbw : Below w1.heap.size w1 (((w1.alloc (.cells #[.slice A T.length c] 33)).alloc (.deferred (some []))).alloc (.loop r)) := (((Below.refl _ w1).alloc (Nat.le_refl _) _).alloc (by simp) _).alloc (by simp; omega) _
    exact ⟨hl, HO1.out.below hbw HO1.out.lt, HE1.out.below hbw HE1.out.lt, ((Blk.new w1 _ _).alloc _).alloc _, World.ownsRow_nil _ _ _ _, fun x hx => (by cases hx), (H.out.below HB1.out).below hbw, H.out, HB1.out.trans (hbw.mono HB1.out.size), rfl, HSZ1.out, Nat.le_refl _, rfl⟩
  obtain ⟨B, hB⟩ : ∃ B, w.heap.size = B := ⟨_, rfl⟩
  have HBs := Lib.hid hB
  obtain ⟨L, hL⟩ : ∃ L, w1.heap.size = L := ⟨_, rfl⟩
  obtain ⟨W3, hW3⟩ : ∃ W3, w1.alloc (.cells #[.slice A T.length c] 33) = W3 := ⟨_, rfl⟩
  have hs3 : W3.heap.size = L + 1 := by rw [← hW3, ← hL]; simp
  simp only [hW3] at hG0 ⊢
  rw [hB, hL] at hG0
  rw [hB, hL]
  clear hW3 HT1 HO1 HE1 HSZ1 a1 hL
  refine wpIn_wide.1 (rangeFunc_wide (n := 2) (gf := 85) rfl (fun _ _ => by simp [invoke, go_sem]) fun fn r hr => ?_)
  rw [hs3]
  have hx0 := hG0 r
  clear hG0
  refine callsIn_wide.2 ((writers_iter (A := A) (L + 1 + 1) L c
    (fun i W => ∃ ov rows, AW w B L r A T c i ov rows W) HC.out HWl.out HIt.out (by have := HTl.out; omega) ?_ ?_ _ ?_).mono ?_)
  · rintro i W ⟨ov, rows, hx⟩
    refine ⟨hx.tab, hx.tb, fun b e h0 => Tab.lt (e ▸ hx.tab) h0⟩
  · rintro i W0 W r2 vw ps hi ⟨ov, rows, hx⟩ hr2 hb hs hm
    have e1 := congrArg Loop.tmps hr
    have e2 := congrArg Loop.params hr
    have e3 := congrArg Loop.assign hr
    have e4 := congrArg Loop.body hr
    have e5 := congrArg Loop.state hr
    have e6 := congrArg Loop.pending hr
    simp only [loopRec] at e1 e2 e3 e4 e5 e6
    have hx1 := hx.below hb
    have hll := hx.loop.lt
    have HOw : Hid (∀ g, ov.ownBlock = some g → g < r2) := Lib.hid (fun g hg => Nat.lt_of_lt_of_le (hx.own.lt g hg).2 hr2)
    have HL2 : Hid (L + 3 ≤ r2) := Lib.hid (by omega)
    refine ⟨_, _, _, _, run_yield hx1.loop.rec_ (by rw [e2]; rfl), ?_⟩
    rw [e1, e2, e3, e4]
    clear e1 e2 e3 e4 hr
    refine roundIn_of_wpIn trivial ?_
    simp only [List.zip_toArray, List.zip_cons_cons, List.zip_nil_right, List.foldl_toArray', List.foldl_cons, List.foldl_nil, List.setIfInBounds_toArray, List.set_cons_succ, List.set_cons_zero]
    have hbr := Lib.hid (hx1.loop.begin_ (P := Tryz.prog) e5)
    have hx2 := hx1.putLoop (busyRec r)
    have hne : r2 ≠ L + 2 := by omega
    have hkp := Kept.putObj W (L + 2) (.loop (busyRec r))
    have hs2 : Blk (W.putObj (L + 2) (.loop (busyRec r))) r2 92 #[.slice A T.length c, .int .i64 i, vw, .bool false] := hs.blk.kept hkp hne
    have ho2 : (W.putObj (L + 2) (.loop (busyRec r))).ownsRow (r2 + 1) 27 1 vw ps.length (ps.map encR) := own_kept hs.own hkp (fun g hg => by have := (hs.own.lt g hg).1; omega)
    have hrn2 : RowsN (fun b => r2 + 1 ≤ b) (W.putObj (L + 2) (.loop (busyRec r))) ps := (hs.rn.mono (fun b _ hb => hb.1)).kept hkp (fun b _ hb e => by omega)
    obtain ⟨VA, vc, hvw⟩ := own_slice hs.own
    generalize W.putObj (L + 2) (.loop (busyRec r)) = W2 at *
    have HX2 := Lib.hid hx2
    have HBw := Lib.hid hs2
    have hgv : GridV (fun b => r2 + 1 ≤ b) W2 vw ps := GridV.of_own ho2 hrn2 (fun b hb => hb) (by have := hs.len; omega)
    have hpl : ps.length ≤ 4 := by have h1 := congrArg List.length hm; rw [List.length_map] at h1; rw [h1]; exact shapeP_len T i
    obtain ⟨ov', W6, hrun6, ho6, hg6, hob⟩ := append_rows_any 46 (own_drewN hx2.own 1) (hgv.kept (Kept.of_below (S := fun _ => False) (below_drewN (Below.refl W2.heap.size W2) 1)) (fun _ _ _ e => e)) (by have := hx2.len; have := HTl.out; omega) (by have := hx2.loop.lt; show L + 3 ≤ W2.heap.size; omega)
    have HFin := Lib.hid (hx2.push HOw.out HL2.out hrn2 hm ho6 (grown_undrew hg6) hob)
    have HOA : Hid (∃ OA oc, ov = .slice OA rows.length oc) := Lib.hid (own_slice hx2.own)
    obtain ⟨OA, oc, hov⟩ := HOA.out
    subst hov
    subst hvw
    have s1 : W2.drew.cell? ⟨B + 1, 0, none⟩ = some (.slice OA rows.length oc) := HX2.out.t2.cell 0
    have s2 : W2.drew.cell? ⟨r2, 2, none⟩ = some (.slice VA ps.length vc) := HBw.out.cell 2
    have s3 : W2.cell? ⟨r2, 3, none⟩ = some (.bool false) := HBw.out.cell 3
    have b6 : Blk W6 (B + 1) 46 #[.slice OA rows.length oc] := (show Blk W2.drew (B + 1) 46 #[.slice OA rows.length oc] from HX2.out.t2).grown hg6 (fun e => by have h1 := (HX2.out.own.lt _ e.symm).1; have h2 := HX2.out.hL; omega)
    have f6 := b6.frozen 0
    have c6 := b6.cell 0
    simp only [List.getElem?_toArray, List.getElem?_cons_zero] at c6
    obtain ⟨OA6, oc6, hov6⟩ := own_slice ho6
    subst hov6
    obtain ⟨ln, hln⟩ : ∃ ln, (rows ++ ps).length = ln := ⟨_, rfl⟩
    rw [hln] at hrun6 HFin
    have HG6 := Lib.hid hg6
    clear hx hx0 hx1 hx2 hs hs2 ho2 hrn2 hgv hpl hm hb ho6 hg6 hob hkp HOA hln b6
    gi_wp2
    refine ⟨W2, hbr.out, ?_⟩
    gi_wp2
    have b7 : Blk W6 r2 92 #[.slice A T.length c, .int .i64 i, .slice VA ps.length vc, .bool false] := (show Blk W2.drew r2 92 #[.slice A T.length c, .int .i64 i, .slice VA ps.length vc, .bool false] from HBw.out).grown HG6.out (fun e => by have h1 := HOw.out _ e.symm; omega)
    have HB7 := Lib.hid b7
    have g7 : W6.cell? ⟨r2, 2, none⟩ = some (.slice VA ps.length vc) := b7.cell 2
    have HR2 := Lib.hid (show r2 ≠ B + 1 by have h1 := HX2.out.hL; have h2 := HL2.out; omega)
    clear b7
    refine wpIn_region_round (S := fun W' => W'.cell? ⟨r2, 2, none⟩ = some (.slice VA ps.length vc)) (by kernel_rfl) (by kernel_rfl) s2 (fun hHeld => ?_)
    refine wpAnyH_take (i := 1) (v := .pointer (some ⟨r2, 0, none⟩)) rfl (by kernel_rfl) (by kernel_rfl) (by kernel_rfl) (fun _ _ _ h => h) (Or.inl ⟨by kernel_rfl, fun wS hSw => ?_⟩) (by assumption) ?_
    · go_simp
    try simp only [Act.put, List.setIfInBounds_toArray]
    refine wpAnyH_take (i := 2) (v := .pointer (some ⟨r2, 0, none⟩)) rfl (by kernel_rfl) (by kernel_rfl) (by kernel_rfl) (fun _ _ _ h => h) (Or.inl ⟨by kernel_rfl, fun wS hSw => ?_⟩) (by assumption) ?_
    · go_simp
    try simp only [Act.put]
    refine wpAnyH_take (i := 3) (v := .pointer (some ⟨r2, 2, none⟩)) rfl (by kernel_rfl) (by kernel_rfl) (by kernel_rfl) (fun _ _ _ h => h) (Or.inl ⟨by kernel_rfl, fun wS hSw => ?_⟩) (by assumption) ?_
    · go_simp
    try simp only [Act.put]
    refine wpAnyH_take (i := 4) (v := .slice VA ps.length vc) rfl (by kernel_rfl) (by kernel_rfl) (by kernel_rfl) (fun _ _ _ h => h) (Or.inl ⟨by kernel_rfl, fun wS hSw => ?_⟩) (by assumption) ?_
    · go_simp
    try simp only [Act.put]
    refine wpAnyH_ready (rs := [0]) (by kernel_rfl) (by simp) ?_
    refine AllReadyH.cons rfl (fun K hK => ?_) AllReadyH.nil
    go_simp
    refine hK.out _ _ ?_ (fun hHeld => ?_)
    · exact s2
    clear hK K
    try simp only [Act.put, List.setIfInBounds_toArray, List.set_cons_zero, List.set_cons_succ]
    refine wpAnyH_ready (rs := [5]) (by kernel_rfl) (by simp) ?_
    refine AllReadyH.cons rfl (fun K hK => ?_) AllReadyH.nil
    refine wp_append_run (s := .tmp 15) (x := .tmp 19) rfl rfl rfl hrun6 ?_
    refine hK.out _ _ ?_ (fun hHeld => ?_)
    · exact g7
    clear hK K
    try simp only [Act.put, List.setIfInBounds_toArray]
    refine wpAnyH_ready (rs := [6]) (by kernel_rfl) (by simp) ?_
    refine AllReadyH.cons rfl (fun K hK => ?_) AllReadyH.nil
    go_simp
    refine hK.out _ _ ?_ (fun hHeld => ?_)
    · exact (HB7.out.far (p := ⟨B + 1, 0, none⟩) HR2.out _).cell 2
    clear hK K
    try simp only [Act.put, List.setIfInBounds_toArray, List.set_cons_zero, List.set_cons_succ]
    refine wpAnyH_done (by kernel_rfl) ?_ _
    refine NoOut.normal ?_
    gi_wp2
    exact ⟨_, _, HFin.out.loop.end_ e5 e6, rfl, _, _, HFin.out.putLoop r⟩
  · exact ⟨_, _, hx0⟩
  · have e5 := congrArg Loop.state hr
    have e6 := congrArg Loop.pending hr
    simp only [loopRec] at e5 e6
    clear hr hx0
    rintro e W' ⟨rfl, ov, rows, hx⟩
    refine ⟨none, _, hx.loop.over_ e5 e6, ?_⟩
    have hx7 := hx.putLoop (overRec r)
    have HX7 := Lib.hid hx7
    obtain ⟨OA, oc, hov⟩ := own_slice hx7.own
    subst hov
    have x1 := hx7.t2.cell 0
    have f1 := hx7.t2.frozen 0
    have f2 := hx7.t3.frozen 0
    have x2 : (W'.putObj (L + 2) (.loop (overRec r))).cell? ⟨B + 1 + 1, 0, none⟩ = some (.int .i64 0) := hx7.t3.cell 0
    simp only [List.getElem?_toArray, List.getElem?_cons_zero] at x1
    change (W'.putObj (L + 1 + 1) (.loop (overRec r))).cell? _ = _ at x1 x2
    change (W'.putObj (L + 1 + 1) (.loop (overRec r))).frozen? _ = _ at f1 f2
    change Hid (AW w B L (overRec r) A T c T.length (.slice OA rows.length oc) rows (W'.putObj (L + 1 + 1) (.loop (overRec r)))) at HX7
    clear hx hx7
    generalize W'.putObj (L + 1 + 1) (.loop (overRec r)) = W7 at *
    go_wp2
    change bodyPostM _ _ _ _ _ _ _ ((W7.setCell ⟨B + 1, 0, none⟩ (.slice OA rows.length oc)).setCell ⟨B + 2, 0, none⟩ (.int .i64 0))
    obtain ⟨o1, o2, o3, o4, o5⟩ := HX7.out.fin (.slice OA rows.length oc) (.int .i64 0)
    refine ⟨by simp, .inl ⟨_, _, rfl, run_takeDeferred o1, ?_⟩⟩
    have o3' : (((W7.setCell ⟨B + 1, 0, none⟩ (.slice OA rows.length oc)).setCell ⟨B + 2, 0, none⟩ (.int .i64 0)).putObj (L + 1) (.deferred none)).cell? ⟨B + 1 + 1, 0, none⟩ = some (.int .i64 0) := o3
    refine ⟨.tuple #[.slice OA rows.length oc, .int .i64 0], by simp [results, Tryz.results19, go_sem, o2, o3'], ?_⟩
    have hX := HX7.out
    have hL := hX.hL
    refine ⟨.slice OA rows.length oc, rows, rfl, GridV.of_own (base := L + 3) (own_kept hX.own o5 (fun g hg => by have := (hX.own.lt g hg).1; omega)) ((hX.rn.kept o5 (fun b _ hb e => by omega)).mono (fun b _ hb => by rw [HBs.out]; omega)) (fun b hb => by rw [HBs.out]; omega) (by have := hX.len; have := HTl.out; omega), hX.sum, by rw [HBs.out]; exact o4⟩
end Go.Proofs.YtlipnnibagidiaaGreat

/- Readings of arguments, opened. -/
namespace Go.Proofs.YtlipnnibagidiaaGreat
open Go.ChangeShapes Go.WideShapes Go.ChangeAt Go.RowKit

/-- What a walk is told of a slice of integers that came in: it is nil; or it leads to a row of 'cap' cells, the numbers 'zs' (the first 'len' are its elements, the rest its spare room), each fitting its kind. -/
def IsRow (k : IntKind) (w : World) (a : Option Addr) (len cap : Nat) (zs : List Int) : Prop :=
  (a = none ∧ len = 0 ∧ cap = 0 ∧ zs = []) ∨
  ∃ x, a = some x ∧ len ≤ cap ∧ cap ≤ maxLen ∧ zs.length = cap ∧ (∀ i, i < zs.length → w.cell? (x.add i) = some (.int k (zs.getD i 0))) ∧ ∀ n ∈ zs, (Lit.int k n).wf = true

theorem isRow_of {H : Type} {enc : TypeId × Value → H} {P : Program} {W : World} {b : Nat} {hd : Bool} {t e : TypeId} {k : IntKind} {a : Option Addr} {len cap : Nat} {d : DataW H} {p : List MemPlace}
    (ht : P.underlying t = some (.slice e)) (he : P.underlying e = some (.int k)) (hc : P.cellsOf e = 1) (h : DataW.Trod enc P W b (fun _ => true) hd t (.slice a len cap) d p) : ∃ zs, IsRow k W a len cap zs := by
  obtain ⟨fuel, hf⟩ := h
  rcases open_ints ht he hc hf with ⟨hcs, _⟩ | ⟨x, l, c, zs, hcs, _, hl, hm, hz, _, hcell, hwz⟩
  · simp [Value.cells] at hcs
    obtain ⟨rfl, rfl, rfl⟩ := hcs
    exact ⟨[], .inl ⟨rfl, rfl, rfl, rfl⟩⟩
  · simp [Value.cells] at hcs
    obtain ⟨rfl, rfl, rfl⟩ := hcs
    exact ⟨zs, .inr ⟨_, rfl, hl, hm, by simpa using hz, hcell, hwz⟩⟩
/-- A slice of bools that came in. -/
def IsBools (w : World) (a : Option Addr) (len cap : Nat) (B : Nat → Bool) : Prop :=
  (a = none ∧ len = 0 ∧ cap = 0) ∨ ∃ x, a = some x ∧ len ≤ cap ∧ cap ≤ maxLen ∧ ∀ i, i < cap → w.cell? (x.add i) = some (.bool (B i))

theorem isBools_of {H : Type} {enc : TypeId × Value → H} {P : Program} {W : World} {b : Nat} {hd : Bool} {t e : TypeId} {a : Option Addr} {len cap : Nat} {d : DataW H} {p : List MemPlace}
    (ht : P.underlying t = some (.slice e)) (he : P.underlying e = some .bool) (hc : P.cellsOf e = 1) (h : DataW.Trod enc P W b (fun _ => true) hd t (.slice a len cap) d p) : ∃ B, IsBools W a len cap B := by
  obtain ⟨fuel, hf⟩ := h
  rcases Go.Deep.open_bools ht he hc hf with ⟨hcs, _⟩ | ⟨x, l, c, B, hcs, _, hl, hm, _, hcell⟩
  · simp [Value.cells] at hcs
    obtain ⟨rfl, rfl, rfl⟩ := hcs
    exact ⟨fun _ => false, .inl ⟨rfl, rfl, rfl⟩⟩
  · simp [Value.cells] at hcs
    obtain ⟨rfl, rfl, rfl⟩ := hcs
    exact ⟨B, .inr ⟨_, rfl, hl, hm, hcell⟩⟩
end Go.Proofs.YtlipnnibagidiaaGreat

/- A row of ints that came in. -/
namespace Go.Proofs.YtlipnnibagidiaaGreat
open Go.RowKit Go.ChangeShapes Go.WideShapes Go.ChangeAt

/-- A row of ints that came in. -/
theorem isRow_row {w : World} {a : Option Addr} {len cap : Nat} {z : List Int} (h : IsRow .i64 w a len cap z) (hl : len ≤ 100000) : ∃ L, L.length = len ∧ Row w a L ∧ (a = none → cap = 0) ∧ len ≤ cap ∧ L = z.take len := by
  rcases h with ⟨rfl, rfl, rfl, rfl⟩ | ⟨x, rfl, hc, _, hz, hcell, _⟩
  · exact ⟨[], rfl, ⟨by simp, .inl rfl⟩, fun _ => rfl, Nat.le_refl _, rfl⟩
  · have hlen : (z.take len).length = len := by rw [List.length_take]; omega
    refine ⟨z.take len, hlen, ⟨by omega, ?_⟩, fun e => (by cases e), hc, rfl⟩
    rcases Nat.eq_zero_or_pos len with h0 | h0
    · exact .inl (by rw [hlen]; exact h0)
    · have c0 := hcell 0 (by omega)
      rw [show x.add 0 = x by obtain ⟨b, off, sp⟩ := x; unfold Addr.add; split <;> simp_all] at c0
      have hs : x.spot = none := World.cell?_spot c0
      have hb : x.block < w.heap.size := by
        unfold World.cell? at c0
        cases hh : w.heap[x.block]? with
        | none => simp [hh] at c0
        | some o => exact (Array.getElem?_eq_some_iff.1 hh).1
      obtain ⟨b, off, sp⟩ := x
      obtain rfl : sp = none := hs
      refine .inr ⟨b, off, rfl, hb, fun i hi => ?_⟩
      rw [hlen] at hi
      have h1 := hcell i (by omega)
      rw [show (⟨b, off, none⟩ : Addr).add i = ⟨b, off + i, none⟩ by unfold Addr.add; split <;> simp_all] at h1
      rw [h1, List.getElem_take, List.getD_eq_getElem?_getD, List.getElem?_eq_getElem (by omega)]
      rfl
end Go.Proofs.YtlipnnibagidiaaGreat

/- A table that came in. -/
namespace Go.Proofs.YtlipnnibagidiaaGreat
open Go.RowKit Go.ChangeShapes Go.WideShapes Go.ChangeAt

theorem choose_nd {m : Nat} {p : Nat → Nd → Prop} (h : ∀ i, i < m → ∃ x, p i x) : ∃ f : Nat → Nd, ∀ i, i < m → p i (f i) := by
  refine ⟨fun i => if hi : i < m then (h i hi).choose else default, fun i hi => ?_⟩
  simp only [hi, dif_pos]
  exact (h i hi).choose_spec
/-- The nodes of a slice that came in. -/
def IsNodes (w : World) (a : Option Addr) (len cap : Nat) (f : Nat → Nd) : Prop :=
  (a = none ∧ len = 0) ∨ ∃ x, a = some x ∧ len ≤ cap ∧ cap ≤ maxLen ∧ ∀ i, i < cap → (∀ j, j < 8 → w.cell? ((x.add (i * 8)).add j) = (nodeCells (f i))[j]?) ∧ NdWf (f i)
theorem isNodes_of {H : Type} {enc : TypeId × Value → H} {P : Program} {W : World} {b : Nat} {hd : Bool} {t e ea : TypeId} {f0 f1 f2 f3 f4 f5 : Field} {a : Option Addr} {len cap : Nat} {d : DataW H} {p : List MemPlace}
    (ht : P.underlying t = some (.slice e)) (he : P.underlying e = some (.struct #[f0, f1, f2, f3, f4, f5])) (hc : P.cellsOf e = 8)
    (ho : f0.offset = 0 ∧ f1.offset = 1 ∧ f2.offset = 2 ∧ f3.offset = 5 ∧ f4.offset = 6 ∧ f5.offset = 7)
    (hn : P.cellsOf f0.type = 1 ∧ P.cellsOf f1.type = 1 ∧ P.cellsOf f2.type = 3 ∧ P.cellsOf f3.type = 1 ∧ P.cellsOf f4.type = 1 ∧ P.cellsOf f5.type = 1)
    (g0 : P.underlying f0.type = some (.int .i8)) (g1 : P.underlying f1.type = some (.int .i8)) (g2 : P.underlying f2.type = some (.array 3 ea)) (ga : P.underlying ea = some (.int .i64)) (ca : P.cellsOf ea = 1)
    (g3 : P.underlying f3.type = some (.int .i64)) (g4 : P.underlying f4.type = some (.int .i64)) (g5 : P.underlying f5.type = some (.int .i64))
    (h : DataW.Trod enc P W b (fun _ => true) hd t (.slice a len cap) d p) : ∃ f, IsNodes W a len cap f := by
  obtain ⟨fuel, hf⟩ := h
  rcases Go.Deep.open_slice ht hf with ⟨hcs, _⟩ | ⟨x, l, c, m, n, D, Pl, hcs, _, hl, hm, hmm, _, hx⟩
  · simp [Value.cells] at hcs
    obtain ⟨rfl, rfl, rfl⟩ := hcs
    exact ⟨fun _ => default, .inl ⟨rfl, rfl⟩⟩
  · simp [Value.cells] at hcs
    obtain ⟨rfl, rfl, rfl⟩ := hcs
    obtain rfl : m = cap := by simpa using hmm
    have each : ∀ i, i < m → ∃ q : Nd, (∀ j, j < 8 → W.cell? ((x.add (i * 8)).add j) = (nodeCells q)[j]?) ∧ NdWf q := by
      intro i hi
      obtain ⟨cs', h1, h2⟩ := hx i hi
      rw [hc] at h1
      obtain ⟨_, hlen, hcell⟩ := World.cells?_some h1
      obtain ⟨xs, k, _, _, _, hxl, hfd⟩ := DataW.trod_struct he h2
      match xs, hxl, cs', hlen with
      | [y0, y1, y2, y3, y4, y5], _, [v0, v1, v2, v3, v4, v5, v6, v7], _ =>
        have k0 := hfd 0 f0 rfl
        have k1 := hfd 1 f1 rfl
        have k2 := hfd 2 f2 rfl
        have k3 := hfd 3 f3 rfl
        have k4 := hfd 4 f4 rfl
        have k5 := hfd 5 f5 rfl
        simp [ho.1, ho.2.1, ho.2.2.1, ho.2.2.2.1, ho.2.2.2.2.1, ho.2.2.2.2.2, hn.1, hn.2.1, hn.2.2.1, hn.2.2.2.1, hn.2.2.2.2.1, hn.2.2.2.2.2] at k0 k1 k2 k3 k4 k5
        obtain ⟨n0, e0, _, r0⟩ := DataW.trod_int g0 k0
        obtain ⟨n1, e1, _, r1⟩ := DataW.trod_int g1 k1
        obtain ⟨z0, z1, z2, _, _, l0, l1, l2⟩ := trod_array3 g2 ca k2
        obtain ⟨m0, d0, _, s0⟩ := DataW.trod_int ga l0
        obtain ⟨m1, d1, _, s1⟩ := DataW.trod_int ga l1
        obtain ⟨m2, d2, _, s2⟩ := DataW.trod_int ga l2
        obtain ⟨n3, e3, _, r3⟩ := DataW.trod_int g3 k3
        obtain ⟨n4, e4, _, r4⟩ := DataW.trod_int g4 k4
        obtain ⟨n5, e5, _, r5⟩ := DataW.trod_int g5 k5
        injection e0 with e0
        injection e1 with e1
        injection d0 with d0
        injection d1 with d1
        injection d2 with d2
        injection e3 with e3
        injection e4 with e4
        injection e5 with e5
        subst e0 e1 d0 d1 d2 e3 e4 e5
        have q8 : IntKind.i8.min = -128 := by decide
        have p8 : IntKind.i8.max = 127 := by decide
        have q64 : IntKind.i64.min = -9223372036854775808 := by decide
        simp [Lit.wf, q8, p8, q64] at r0 r1 s0 s1 s2 r3 r4 r5
        refine ⟨⟨n0, n1, m0, m1, m2, n3, n4, n5⟩, fun j hj => ?_, ⟨?_, ?_, fun j => ?_, ?_, ?_, ?_⟩⟩
        · exact hcell j hj
        · exact r0
        · exact r1
        · unfold Nd.arg
          repeat' split
          all_goals first
            | exact s0
            | exact s1
            | exact s2
            | (constructor <;> decide)
        · exact r3
        · exact r4
        · exact r5
    obtain ⟨f, hf⟩ := choose_nd each
    exact ⟨f, .inr ⟨x, rfl, hl, hm, hf⟩⟩
/-- .. as a table. -/
theorem IsNodes.tab {w : World} {a : Option Addr} {len cap : Nat} {f : Nat → Nd} (h : IsNodes w a len cap f) (hl : len ≤ 100000) : Tab w a ((List.range len).map f) := by
  refine ⟨by simpa using hl, ?_⟩
  rcases h with ⟨rfl, rfl⟩ | ⟨x, rfl, hc, _, hx⟩
  · exact .inl rfl
  · rcases Nat.eq_zero_or_pos len with rfl | hp
    · exact .inl rfl
    have c0 := (hx 0 (by omega)).1 0 (by omega)
    have c1 : w.cell? x = some (.int .i8 (f 0).op) := by simpa [Addr.add, nodeCells] using c0
    have hs : x.spot = none := World.cell?_spot c1
    have hb : x.block < w.heap.size := by
      unfold World.cell? at c1
      cases hh : w.heap[x.block]? with
      | none => simp [hh] at c1
      | some o => exact (Array.getElem?_eq_some_iff.1 hh).1
    obtain ⟨b, off, sp⟩ := x
    obtain rfl : sp = none := hs
    refine .inr ⟨b, off, rfl, hb, fun i hi => ?_⟩
    have hi' : i < len := by simpa using hi
    obtain ⟨h1, h2⟩ := hx i (by omega)
    simp only [List.getElem_map, List.getElem_range]
    refine ⟨hb, fun j hj => ?_, h2⟩
    rw [← h1 j hj]
    congr 1
    unfold Addr.add
    split <;> split <;> simp_all [Nat.add_assoc]
theorem IsNodes.cap {w : World} {a : Option Addr} {len cap : Nat} {f : Nat → Nd} (h : IsNodes w a len cap f) : len ≤ cap := by
  rcases h with ⟨rfl, rfl⟩ | ⟨x, rfl, hc, _, hx⟩
  · exact Nat.zero_le _
  · exact hc
/-- A table that came in, whole. -/
structure TabIn where
  A : Option Addr
  len : Nat
  cap : Nat
  f : Nat → Nd
def TabIn.val (x : TabIn) : Value := .agg #[.slice x.A x.len x.cap]
def TabIn.Ok (x : TabIn) (W : World) : Prop := IsNodes W x.A x.len x.cap x.f
set_option maxRecDepth 100000 in
theorem table_in {H : Type} {enc : TypeId × Value → H} {W : World} {base : Nat} {v : Value} {d : DataW H} {p : List MemPlace} (hv : Value.okWide Tryz.prog W .any base 33 v)
    (h : DataW.Trod enc Tryz.prog W 0 (fun _ => true) true 33 v d p) (_hl : ∀ x ∈ p, x.block < W.heap.size) : ∃ x : TabIn, v = x.val ∧ x.Ok W := by
  obtain ⟨cs, rfl, hcs⟩ := okWide_struct Tryz.underlying33 hv
  obtain ⟨fuel, hf⟩ := h
  obtain ⟨xs, n, _, _, _, hxl, hfd⟩ := DataW.trod_struct Tryz.underlying33 hf
  have c1 : Tryz.prog.cellsOf 33 = 1 := by kernel_rfl
  have c2 : Tryz.prog.cellsOf 31 = 1 := by kernel_rfl
  rw [c1] at hcs
  obtain ⟨l⟩ := cs
  match l, hcs, xs, hxl with
  | [v0], _, [y0], _ =>
    have k0 := hfd 0 _ rfl
    simp [c2, Value.cells] at k0
    obtain ⟨A, len, cap, rfl⟩ : ∃ A len cap, v0 = .slice A len cap := by
      rcases DataW.trod_slice Tryz.underlying31 k0 with ⟨e2, _⟩ | ⟨a, len, cap, _, _, _, _, e2, _⟩
      · injection e2 with e2
        exact ⟨none, 0, 0, e2⟩
      · injection e2 with e2
        exact ⟨_, _, _, e2⟩
    obtain ⟨f, hf⟩ := isNodes_of (d := y0.1) (p := y0.2) Tryz.underlying31 Tryz.underlying51 (by kernel_rfl) (by decide) (by decide +kernel) Tryz.underlying44 Tryz.underlying44 Tryz.underlying49 Tryz.underlying3 (by kernel_rfl) Tryz.underlying3 Tryz.underlying3 Tryz.underlying3 (show DataW.Trod enc Tryz.prog W 0 (fun _ => true) true 31 (.slice A len cap) y0.1 y0.2 from ⟨n, k0⟩)
    exact ⟨⟨A, len, cap, f⟩, rfl, hf⟩
end Go.Proofs.YtlipnnibagidiaaGreat

/- A quiet walk, operation by operation: an operation that is wanted has one value in every world of the class; one that is passed over has none. -/
namespace Go.Proofs.YtlipnnibagidiaaGreat
open Go.RowKit

theorem wpQuiet_want {P : Program} {ops : Array Oper} {C : World → Prop} {Q : Act → Prop} {a : Act} {o : Oper} {rest : List Oper} (hw : Region.wanted o (yielded ops a.tmps) = true) (v : Value) (h1 : ∀ w, C w → o.quietAt P a C w v) (h2 : wpQuiet P ops C Q rest (a.put o.dst v)) : wpQuiet P ops C Q (o :: rest) a := by
  unfold wpQuiet
  rw [if_pos hw]
  exact ⟨v, h1, h2⟩
theorem wpQuiet_skip {P : Program} {ops : Array Oper} {C : World → Prop} {Q : Act → Prop} {a : Act} {o : Oper} {rest : List Oper} (hw : Region.wanted o (yielded ops a.tmps) = false) (h2 : wpQuiet P ops C Q rest (a.put o.dst undef)) : wpQuiet P ops C Q (o :: rest) a := by
  unfold wpQuiet
  rw [if_neg (by rw [hw]; decide)]
  exact h2
/-- The same behind a structure: whnf does not run ahead through what is passed over. -/
structure QW (P : Program) (ops : Array Oper) (C : World → Prop) (Q : Act → Prop) (rest : List Oper) (a : Act) : Prop where
  out : wpQuiet P ops C Q rest a
theorem qw_want {P : Program} {ops : Array Oper} {C : World → Prop} {Q : Act → Prop} {a : Act} {o : Oper} {rest : List Oper} (hw : Region.wanted o (yielded ops a.tmps) = true) (v : Value) (h1 : ∀ w, C w → o.quietAt P a C w v) (h2 : QW P ops C Q rest (a.put o.dst v)) : QW P ops C Q (o :: rest) a := ⟨wpQuiet_want hw v h1 h2.out⟩
theorem qw_skip {P : Program} {ops : Array Oper} {C : World → Prop} {Q : Act → Prop} {a : Act} {o : Oper} {rest : List Oper} (hw : Region.wanted o (yielded ops a.tmps) = false) (h2 : QW P ops C Q rest (a.put o.dst undef)) : QW P ops C Q (o :: rest) a := ⟨wpQuiet_skip hw h2.out⟩
theorem qw_end {P : Program} {ops : Array Oper} {C : World → Prop} {Q : Act → Prop} {a : Act} (h : Q a) : QW P ops C Q [] a := ⟨h⟩
theorem QW.lit {P : Program} {C : World → Prop} {Q : Act → Prop} {l : List Oper} {a : Act} (h : QW P l.toArray C Q l a) : wpQuiet P l.toArray C Q l.toArray.toList a := h.out
end Go.Proofs.YtlipnnibagidiaaGreat

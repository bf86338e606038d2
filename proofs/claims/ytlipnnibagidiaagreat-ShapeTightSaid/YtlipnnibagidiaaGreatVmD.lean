/- The plain side of ShapeTight. -/
import Derived.Test.YtlipnnibagidiaaGreatWxB
import Derived.Test.YtlipnnibagidiaaGreatSpS
import Derived.Deep.RegionHeldLaw
namespace Go.Proofs.YtlipnnibagidiaaGreat
open Go.RowKit Go.Lib
attribute [local go_sem] Oper.semAt_some
theorem wp_append_run {o : Oper} {a : Act} {K : Act → World → Prop} {Q : Exit → Act → World → Prop} {w w' : World} {s x : Operand} {t : TypeId}
    (ho : o.op = .call { callee := .builtin .append, args := #[s, x], argTypes := #[t, t] }) {u v v' : Value} (hs : a.eval s = u) (hx : a.eval x = v)
    (hrun : (Builtin.append_ #[t, t] o.type #[u, v]).run Tryz.prog w = .ok v' w') (h : K (a.put o.dst v') w') : o.wp Tryz.prog a w K Q := by
  unfold Oper.wp execOp
  simp only [ho, resolve, invoke, builtin, Sem.run_bind, Sem.run_pure, Result.andThen_ok, List.map_toArray, List.map_cons, List.map_nil, hs, hx]
  rw [hrun]
  exact h
def ShAllIs (T : List Nd) (w : World) (e : Ending) (w' : World) : Prop :=
  ∃ v rows, e = .returned (.tuple #[v, .int .i64 0]) ∧ GridV (fun b => w.heap.size ≤ b) w' v rows ∧ rows.map (fun r => r.2.2) = sumP T T.length ∧ Below w.heap.size w w'
set_option maxRecDepth 100000 in
set_option maxHeartbeats 8000000 in
theorem shall_ok {T : List Nd} {w : World} {A : Option Addr} (c : Nat) (hc : T.length ≤ c) (h : Tab w A T) (hw : Well T) (hI : IteOk T) (hT : T.length ≤ 200000) :
    Calls Tryz.prog 19 #[.agg #[.slice A T.length c]] w (ShAllIs T w) := by
  obtain ⟨w0, hw0⟩ : ∃ w0, ((w.alloc (.cells #[.slice A T.length c] 33)).alloc (.cells #[.slice none 0 0] 46)).alloc (.cells #[.int .i64 0] 38) = w0 := ⟨_, rfl⟩
  have HS0 : Hid (w0.heap.size = w.heap.size + 3) := Lib.hid (by rw [← hw0]; simp)
  have HB0 : Hid (Below w.heap.size w w0) := Lib.hid (by rw [← hw0]; exact (((Below.refl _ w).alloc (Nat.le_refl _) _).alloc (by simp) _).alloc (by simp; omega) _)
  have HT0 : Hid (Blk w0 w.heap.size 33 #[.slice A T.length c]) := Lib.hid (by rw [← hw0]; exact ((Blk.new w _ _).alloc _).alloc _)
  have HO0 : Hid (Blk w0 (w.heap.size + 1) 46 #[.slice none 0 0]) := Lib.hid (by rw [← hw0]; exact (Blk.new_at (by simp) _ _).alloc _)
  have HE0 : Hid (Blk w0 (w.heap.size + 1 + 1) 38 #[.int .i64 0]) := Lib.hid (by rw [← hw0]; exact Blk.new_at (by simp) _ _)
  have a0 := HT0.out.cell 0
  simp only [List.getElem?_toArray, List.getElem?_cons_zero] at a0
  have H := Lib.hid h
  have HC := Lib.hid hc
  have HWl := Lib.hid hw
  have HIt := Lib.hid hI
  have HTl := Lib.hid hT
  clear h hc hw hI hT
  refine callsIn_wide.1 (callsIn_of_wp_marks (n := 2) Tryz.func19 rfl trivial (wpIn_wide.2 ?_) rfl)
  simp only [Tryz.ntmps19, List.size_toArray, List.length_cons, List.length_nil, Nat.reduceAdd, Nat.reduceSub, Array.replicate_succ, Array.replicate_zero, List.push_toArray, List.append_toArray, List.nil_append, List.cons_append]
  go_wp2_with fail
  refine (check_ok c HC.out (H.out.below HB0.out)).mono ?_
  rintro e w1 ⟨rr, rfl, hr, hb1⟩
  obtain rfl : rr = true := hr.2 HWl.out.core.ok
  have HB1 := Lib.hid (HB0.out.trans (hb1.mono HB0.out.size))
  have HT1 := Lib.hid (HT0.out.below hb1 HT0.out.lt)
  have HO1 := Lib.hid (HO0.out.below hb1 HO0.out.lt)
  have HE1 := Lib.hid (HE0.out.below hb1 HE0.out.lt)
  have HSZ1 : Hid (w.heap.size + 3 ≤ w1.heap.size) := Lib.hid (by rw [← HS0.out]; exact hb1.size)
  have a1 := HT1.out.cell 0
  simp only [List.getElem?_toArray, List.getElem?_cons_zero] at a1
  clear hr hb1 a0 hw0
  go_wp2_with (go_at_call 47; refine (writers_ok _ _ _).mono ?_; rintro e w3 ⟨rfl, rfl⟩)
  have hG0 : ∀ r, AW w w.heap.size w1.heap.size r A T c 0 (.slice none 0 0) [] (((w1.alloc (.cells #[.slice A T.length c] 33)).alloc (.deferred (some []))).alloc (.loop r)) := fun r => by
    have hl := LoopAt.new (w1.alloc (.cells #[.slice A T.length c] 33)) r
    rw [World.size_alloc] at hl
    have hbw : Below w1.heap.size w1 (((w1.alloc (.cells #[.slice A T.length c] 33)).alloc (.deferred (some []))).alloc (.loop r)) := (((Below.refl _ w1).alloc (Nat.le_refl _) _).alloc (by simp) _).alloc (by simp; omega) _
    exact ⟨hl, HO1.out.below hbw HO1.out.lt, HE1.out.below hbw HE1.out.lt, ((Blk.new w1 _ _).alloc _).alloc _, World.ownsRow_nil _ _ _ _, fun x hx => (by cases hx), (H.out.below HB1.out).below hbw, H.out, HB1.out.trans (hbw.mono HB1.out.size), rfl, HSZ1.out, Nat.le_refl _, rfl⟩
  obtain ⟨B, hB⟩ : ∃ B, w.heap.size = B := ⟨_, rfl⟩
  have HBs := Lib.hid hB
  obtain ⟨L, hL⟩ : ∃ L, w1.heap.size = L := ⟨_, rfl⟩
  obtain ⟨W3, hW3⟩ : ∃ W3, w1.alloc (.cells #[.slice A T.length c] 33) = W3 := ⟨_, rfl⟩
  have hs3 : W3.heap.size = L + 1 := by rw [← hW3, ← hL]; simp
  simp only [hW3] at hG0 ⊢
  rw [hB, hL] at hG0
  rw [hB, hL]
  clear hW3 HT1 HO1 HE1 HSZ1 a1 hL
  refine wpIn_wide.1 (rangeFunc_wide (n := 2) (gf := 85) rfl (fun _ _ => by simp [invoke, go_sem]) fun fn r hr => ?_)
  rw [hs3]
  have hx0 := hG0 r
  clear hG0
  refine callsIn_wide.2 ((writers_iter (A := A) (L + 1 + 1) L c
    (fun i W => ∃ ov rows, AW w B L r A T c i ov rows W) HC.out HWl.out HIt.out (by have := HTl.out; omega) ?_ ?_ _ ?_).mono ?_)
  · rintro i W ⟨ov, rows, hx⟩
    refine ⟨hx.tab, hx.tb, fun b e h0 => Tab.lt (e ▸ hx.tab) h0⟩
  · rintro i W0 W r2 vw ps hi ⟨ov, rows, hx⟩ hr2 hb hs hm
    have e1 := congrArg Loop.tmps hr
    have e2 := congrArg Loop.params hr
    have e3 := congrArg Loop.assign hr
    have e4 := congrArg Loop.body hr
    have e5 := congrArg Loop.state hr
    have e6 := congrArg Loop.pending hr
    simp only [loopRec] at e1 e2 e3 e4 e5 e6
    have hx1 := hx.below hb
    have hll := hx.loop.lt
    have HOw : Hid (∀ g, ov.ownBlock = some g → g < r2) := Lib.hid (fun g hg => Nat.lt_of_lt_of_le (hx.own.lt g hg).2 hr2)
    have HL2 : Hid (L + 3 ≤ r2) := Lib.hid (by omega)
    refine ⟨_, _, _, _, run_yield hx1.loop.rec_ (by rw [e2]; rfl), ?_⟩
    rw [e1, e2, e3, e4]
    clear e1 e2 e3 e4 hr
    refine roundIn_of_wpIn trivial ?_
    simp only [List.zip_toArray, List.zip_cons_cons, List.zip_nil_right, List.foldl_toArray', List.foldl_cons, List.foldl_nil, List.setIfInBounds_toArray, List.set_cons_succ, List.set_cons_zero]
    have hbr := Lib.hid (hx1.loop.begin_ (P := Tryz.prog) e5)
    have hx2 := hx1.putLoop (busyRec r)
    have hne : r2 ≠ L + 2 := by omega
    have hkp := Kept.putObj W (L + 2) (.loop (busyRec r))
    have hs2 : Blk (W.putObj (L + 2) (.loop (busyRec r))) r2 92 #[.slice A T.length c, .int .i64 i, vw, .bool false] := hs.blk.kept hkp hne
    have ho2 : (W.putObj (L + 2) (.loop (busyRec r))).ownsRow (r2 + 1) 27 1 vw ps.length (ps.map encR) := own_kept hs.own hkp (fun g hg => by have := (hs.own.lt g hg).1; omega)
    have hrn2 : RowsN (fun b => r2 + 1 ≤ b) (W.putObj (L + 2) (.loop (busyRec r))) ps := (hs.rn.mono (fun b _ hb => hb.1)).kept hkp (fun b _ hb e => by omega)
    obtain ⟨VA, vc, hvw⟩ := own_slice hs.own
    generalize W.putObj (L + 2) (.loop (busyRec r)) = W2 at *
    have HX2 := Lib.hid hx2
    have HBw := Lib.hid hs2
    have hgv : GridV (fun b => r2 + 1 ≤ b) W2 vw ps := GridV.of_own ho2 hrn2 (fun b hb => hb) (by have := hs.len; omega)
    have hpl : ps.length ≤ 4 := by have h1 := congrArg List.length hm; rw [List.length_map] at h1; rw [h1]; exact shapeP_len T i
    obtain ⟨ov', W6, hrun6, ho6, hg6, hob⟩ := append_rows_any 46 (own_drewN hx2.own 1) (hgv.kept (Kept.of_below (S := fun _ => False) (below_drewN (Below.refl W2.heap.size W2) 1)) (fun _ _ _ e => e)) (by have := hx2.len; have := HTl.out; omega) (by have := hx2.loop.lt; show L + 3 ≤ W2.heap.size; omega)
    have HFin := Lib.hid (hx2.push HOw.out HL2.out hrn2 hm ho6 (grown_undrew hg6) hob)
    have HOA : Hid (∃ OA oc, ov = .slice OA rows.length oc) := Lib.hid (own_slice hx2.own)
    obtain ⟨OA, oc, hov⟩ := HOA.out
    subst hov
    subst hvw
    have s1 : W2.drew.cell? ⟨B + 1, 0, none⟩ = some (.slice OA rows.length oc) := HX2.out.t2.cell 0
    have s2 : W2.drew.cell? ⟨r2, 2, none⟩ = some (.slice VA ps.length vc) := HBw.out.cell 2
    have s3 : W2.cell? ⟨r2, 3, none⟩ = some (.bool false) := HBw.out.cell 3
    have b6 : Blk W6 (B + 1) 46 #[.slice OA rows.length oc] := (show Blk W2.drew (B + 1) 46 #[.slice OA rows.length oc] from HX2.out.t2).grown hg6 (fun e => by have h1 := (HX2.out.own.lt _ e.symm).1; have h2 := HX2.out.hL; omega)
    have f6 := b6.frozen 0
    have c6 := b6.cell 0
    simp only [List.getElem?_toArray, List.getElem?_cons_zero] at c6
    obtain ⟨OA6, oc6, hov6⟩ := own_slice ho6
    subst hov6
    obtain ⟨ln, hln⟩ : ∃ ln, (rows ++ ps).length = ln := ⟨_, rfl⟩
    rw [hln] at hrun6 HFin
    have HG6 := Lib.hid hg6
    clear hx hx0 hx1 hx2 hs hs2 ho2 hrn2 hgv hpl hm hb ho6 hg6 hob hkp HOA hln b6
    gi_wp2
    refine ⟨W2, hbr.out, ?_⟩
    gi_wp2
    have b7 : Blk W6 r2 92 #[.slice A T.length c, .int .i64 i, .slice VA ps.length vc, .bool false] := (show Blk W2.drew r2 92 #[.slice A T.length c, .int .i64 i, .slice VA ps.length vc, .bool false] from HBw.out).grown HG6.out (fun e => by have h1 := HOw.out _ e.symm; omega)
    have HB7 := Lib.hid b7
    have g7 : W6.cell? ⟨r2, 2, none⟩ = some (.slice VA ps.length vc) := b7.cell 2
    have HR2 := Lib.hid (show r2 ≠ B + 1 by have h1 := HX2.out.hL; have h2 := HL2.out; omega)
    clear b7
    refine wpIn_region_round (S := fun W' => W'.cell? ⟨r2, 2, none⟩ = some (.slice VA ps.length vc)) (by kernel_rfl) (by kernel_rfl) s2 (fun hHeld => ?_)
    refine wpAnyH_take (i := 1) (v := .pointer (some ⟨r2, 0, none⟩)) rfl (by kernel_rfl) (by kernel_rfl) (by kernel_rfl) (fun _ _ _ h => h) (Or.inl ⟨by kernel_rfl, fun wS hSw => ?_⟩) (by assumption) ?_
    · go_simp
    try simp only [Act.put, List.setIfInBounds_toArray]
    refine wpAnyH_take (i := 2) (v := .pointer (some ⟨r2, 0, none⟩)) rfl (by kernel_rfl) (by kernel_rfl) (by kernel_rfl) (fun _ _ _ h => h) (Or.inl ⟨by kernel_rfl, fun wS hSw => ?_⟩) (by assumption) ?_
    · go_simp
    try simp only [Act.put]
    refine wpAnyH_take (i := 3) (v := .pointer (some ⟨r2, 2, none⟩)) rfl (by kernel_rfl) (by kernel_rfl) (by kernel_rfl) (fun _ _ _ h => h) (Or.inl ⟨by kernel_rfl, fun wS hSw => ?_⟩) (by assumption) ?_
    · go_simp
    try simp only [Act.put]
    refine wpAnyH_take (i := 4) (v := .slice VA ps.length vc) rfl (by kernel_rfl) (by kernel_rfl) (by kernel_rfl) (fun _ _ _ h => h) (Or.inl ⟨by kernel_rfl, fun wS hSw => ?_⟩) (by assumption) ?_
    · go_simp
    try simp only [Act.put]
    refine wpAnyH_ready (rs := [0]) (by kernel_rfl) (by simp) ?_
    refine AllReadyH.cons rfl (fun K hK => ?_) AllReadyH.nil
    go_simp
    refine hK.out _ _ ?_ (fun hHeld => ?_)
    · exact s2
    clear hK K
    try simp only [Act.put, List.setIfInBounds_toArray, List.set_cons_zero, List.set_cons_succ]
    refine wpAnyH_ready (rs := [5]) (by kernel_rfl) (by simp) ?_
    refine AllReadyH.cons rfl (fun K hK => ?_) AllReadyH.nil
    refine wp_append_run (s := .tmp 15) (x := .tmp 19) rfl rfl rfl hrun6 ?_
    refine hK.out _ _ ?_ (fun hHeld => ?_)
    · exact g7
    clear hK K
    try simp only [Act.put, List.setIfInBounds_toArray]
    refine wpAnyH_ready (rs := [6]) (by kernel_rfl) (by simp) ?_
    refine AllReadyH.cons rfl (fun K hK => ?_) AllReadyH.nil
    go_simp
    refine hK.out _ _ ?_ (fun hHeld => ?_)
    · exact (HB7.out.far (p := ⟨B + 1, 0, none⟩) HR2.out _).cell 2
    clear hK K
    try simp only [Act.put, List.setIfInBounds_toArray, List.set_cons_zero, List.set_cons_succ]
    refine wpAnyH_done (by kernel_rfl) ?_ _
    refine NoOut.normal ?_
    gi_wp2
    exact ⟨_, _, HFin.out.loop.end_ e5 e6, rfl, _, _, HFin.out.putLoop r⟩
  · exact ⟨_, _, hx0⟩
  · have e5 := congrArg Loop.state hr
    have e6 := congrArg Loop.pending hr
    simp only [loopRec] at e5 e6
    clear hr hx0
    rintro e W' ⟨rfl, ov, rows, hx⟩
    refine ⟨none, _, hx.loop.over_ e5 e6, ?_⟩
    have hx7 := hx.putLoop (overRec r)
    have HX7 := Lib.hid hx7
    obtain ⟨OA, oc, hov⟩ := own_slice hx7.own
    subst hov
    have x1 := hx7.t2.cell 0
    have f1 := hx7.t2.frozen 0
    have f2 := hx7.t3.frozen 0
    have x2 : (W'.putObj (L + 2) (.loop (overRec r))).cell? ⟨B + 1 + 1, 0, none⟩ = some (.int .i64 0) := hx7.t3.cell 0
    simp only [List.getElem?_toArray, List.getElem?_cons_zero] at x1
    change (W'.putObj (L + 1 + 1) (.loop (overRec r))).cell? _ = _ at x1 x2
    change (W'.putObj (L + 1 + 1) (.loop (overRec r))).frozen? _ = _ at f1 f2
    change Hid (AW w B L (overRec r) A T c T.length (.slice OA rows.length oc) rows (W'.putObj (L + 1 + 1) (.loop (overRec r)))) at HX7
    clear hx hx7
    generalize W'.putObj (L + 1 + 1) (.loop (overRec r)) = W7 at *
    go_wp2
    change bodyPostM _ _ _ _ _ _ _ ((W7.setCell ⟨B + 1, 0, none⟩ (.slice OA rows.length oc)).setCell ⟨B + 2, 0, none⟩ (.int .i64 0))
    obtain ⟨o1, o2, o3, o4, o5⟩ := HX7.out.fin (.slice OA rows.length oc) (.int .i64 0)
    refine ⟨by simp, .inl ⟨_, _, rfl, run_takeDeferred o1, ?_⟩⟩
    have o3' : (((W7.setCell ⟨B + 1, 0, none⟩ (.slice OA rows.length oc)).setCell ⟨B + 2, 0, none⟩ (.int .i64 0)).putObj (L + 1) (.deferred none)).cell? ⟨B + 1 + 1, 0, none⟩ = some (.int .i64 0) := o3
    refine ⟨.tuple #[.slice OA rows.length oc, .int .i64 0], by simp [results, Tryz.results19, go_sem, o2, o3'], ?_⟩
    have hX := HX7.out
    have hL := hX.hL
    refine ⟨.slice OA rows.length oc, rows, rfl, GridV.of_own (base := L + 3) (own_kept hX.own o5 (fun g hg => by have := (hX.own.lt g hg).1; omega)) ((hX.rn.kept o5 (fun b _ hb e => by omega)).mono (fun b _ hb => by rw [HBs.out]; omega)) (fun b hb => by rw [HBs.out]; omega) (by have := hX.len; have := HTl.out; omega), hX.sum, by rw [HBs.out]; exact o4⟩
end Go.Proofs.YtlipnnibagidiaaGreat
namespace Go.Proofs.YtlipnnibagidiaaGreat
open Go.RowKit Go.Lib
def BoolL (T : List Nd) (x : Int) : Prop := InT T x ∧ (ndAt T (x / 2)).sort = 0
theorem BoolL.neg {T : List Nd} {x : Int} (h : BoolL T x) : BoolL T (negL x) := ⟨h.1.neg, by rw [(negL_facts h.1.1).2.1]; exact h.2⟩
theorem litP_bool {T : List Nd} (h : Well T) {id : Int} (h0 : 0 ≤ id) (h1 : id < T.length) (hs : (ndAt T id).sort = 0) : BoolL T (litP T id) := ⟨litP_in h h0 h1 hs, (litP_facts h h0 h1 hs).2.2.1⟩
theorem clausesP_bool {T : List Nd} (h : Well T) (hI : IteOk T) {id : Int} (h0 : 0 ≤ id) (h1 : id < T.length) : ∀ c ∈ clausesP T id, ∀ x ∈ c, BoolL T x := by
  have hst := at_of h h0 h1
  unfold clausesP
  dsimp only
  split
  · rename_i ho
    have hr := h.srt _ (ndAt_mem h0 h1) (by omega)
    rw [ho] at hr
    have hs : (ndAt T id).sort = 0 := by simpa [opSort] using hr.symm
    have e : 2 * id / 2 = id := by omega
    simp only [List.forall_mem_cons, List.not_mem_nil, false_implies, implies_true, and_true]
    exact ⟨⟨by omega, by rw [e]; exact h1⟩, by rw [e]; exact hs⟩
  split
  · rename_i ho
    obtain ⟨s0, s1, s2⟩ := srt_and h h0 h1 (.inl ho)
    obtain ⟨⟨p0, p1⟩, q0, q1⟩ := hst.two (.inr (.inr (.inl ho)))
    have t2 := litP_bool h h0 h1 s0
    have ia := litP_bool h p0 (by omega) s1
    have ib := litP_bool h q0 (by omega) s2
    simp only [List.forall_mem_cons, List.not_mem_nil, false_implies, implies_true, and_true]
    exact ⟨⟨t2.neg, ia⟩, ⟨t2.neg, ib⟩, t2, ia.neg, ib.neg⟩
  split
  · rename_i ho
    obtain ⟨s0, s1, s2⟩ := srt_and h h0 h1 (.inr ho)
    obtain ⟨⟨p0, p1⟩, q0, q1⟩ := hst.two (.inr (.inr (.inr ho)))
    have t2 := litP_bool h h0 h1 s0
    have ia := litP_bool h p0 (by omega) s1
    have ib := litP_bool h q0 (by omega) s2
    simp only [List.forall_mem_cons, List.not_mem_nil, false_implies, implies_true, and_true]
    exact ⟨⟨t2, ia.neg⟩, ⟨t2, ib.neg⟩, t2.neg, ia, ib⟩
  split
  · rename_i ho
    split
    rotate_left
    · intro c hc
      cases hc
    rename_i hs
    obtain ⟨s0, s1⟩ := srt_eq h h0 h1 ho
    obtain ⟨⟨p0, p1⟩, q0, q1⟩ := hst.two (.inl ho)
    have t2 := litP_bool h h0 h1 s0
    have ia := litP_bool h p0 (by omega) hs
    have ib := litP_bool h q0 (by omega) (by rw [← s1]; exact hs)
    simp only [List.forall_mem_cons, List.not_mem_nil, false_implies, implies_true, and_true]
    exact ⟨⟨t2.neg, ia.neg, ib⟩, ⟨t2.neg, ia, ib.neg⟩, ⟨t2, ia, ib⟩, t2, ia.neg, ib.neg⟩
  split
  · rename_i ho
    obtain ⟨s0, s1, s2⟩ := srt_ite h h0 h1 ho
    have hl := hst.len_of (lo := 3) (by rw [ho]; decide)
    have p0 : 0 ≤ (ndAt T id).a0 ∧ (ndAt T id).a0 < id := hst.arg_lt 0 (by omega) (by rw [hl]; decide)
    have p1 : 0 ≤ (ndAt T id).a1 ∧ (ndAt T id).a1 < id := hst.arg_lt 1 (by omega) (by rw [hl]; decide)
    have p2 : 0 ≤ (ndAt T id).a2 ∧ (ndAt T id).a2 < id := hst.arg_lt 2 (by omega) (by rw [hl]; decide)
    have ia := litP_bool h p0.1 (by omega) s0
    split
    · rename_i hs
      have t2 := litP_bool h h0 h1 hs
      have ib := litP_bool h p1.1 (by omega) (by rw [s1, hs])
      have ic := litP_bool h p2.1 (by omega) (by rw [s2, hs])
      simp only [List.forall_mem_cons, List.not_mem_nil, false_implies, implies_true, and_true]
      exact ⟨⟨t2.neg, ia.neg, ib⟩, ⟨t2.neg, ia, ic⟩, ⟨t2, ia.neg, ib.neg⟩, t2, ia, ic.neg⟩
    · rename_i hs
      obtain ⟨idN, rfl⟩ : ∃ n : Nat, id = n := ⟨id.toNat, by omega⟩
      have hget : T[idN]? = some (ndAt T (idN : Int)) := by rw [ndAt_nat (by omega)]; exact List.getElem?_eq_getElem (by omega)
      obtain ⟨k1, k2⟩ := hI idN _ hget ho
      have bi := fun a ha => base_ne h (i := (idN : Int)) (a := a) ⟨h0, h1⟩ ho ha
      split
      · rename_i hs1
        obtain ⟨m1, m2, m3⟩ := k1.1 hs1
        obtain ⟨m4, m5, m6⟩ := k2.1 hs1
        have f : ∀ b : Int, 0 ≤ b ∧ b < (idN : Int) → diffNd (idN : Int) (baseT T b).1 (difN T idN b) ∈ T → diffNd (baseT T b).1 (idN : Int) (difN T b idN) ∈ T → BoolL T (diffP T idN b) ∧ BoolL T (diffP T b idN) := fun b hb g1 g2 => by
          obtain ⟨b1, _⟩ := bi b hb
          have u1 := litT_facts g1
          have u2 := litT_facts g2
          unfold diffP
          rw [b1]
          exact ⟨⟨⟨u1.1, u1.2.1⟩, by rw [u1.2.2]; rfl⟩, ⟨u2.1, u2.2.1⟩, by rw [u2.2.2]; rfl⟩
        obtain ⟨f1, f3⟩ := f _ p1 m2 m3
        obtain ⟨f5, f7⟩ := f _ p2 m5 m6
        simp only [List.forall_mem_cons, List.not_mem_nil, false_implies, implies_true, and_true]
        exact ⟨⟨ia.neg, f1⟩, ⟨ia.neg, f3⟩, ⟨ia, f5⟩, ia, f7⟩
      · rename_i hs1
        have f : ∀ b : Int, 0 ≤ b ∧ b < (idN : Int) → eqNd (min (idN : Int) b) (max (idN : Int) b) ∈ T → BoolL T (sameP T idN b) := fun b hb g1 => by
          have u1 := litT_facts g1
          unfold sameP
          exact ⟨⟨u1.1, u1.2.1⟩, by rw [u1.2.2]; rfl⟩
        have f1 := f _ p1 (k1.2 hs hs1)
        have f5 := f _ p2 (k2.2 hs hs1)
        simp only [List.forall_mem_cons, List.not_mem_nil, false_implies, implies_true, and_true]
        exact ⟨⟨ia.neg, f1⟩, ia, f5⟩
  · intro c hc
    cases hc
theorem onA_told {T : List Nd} {val : Int → Int} {x : Int} (h : BoolL T x) : onA ((List.range T.length).map (toldF T val)) x = true ↔ onV val x := by
  obtain ⟨⟨h0, h1⟩, hs⟩ := h
  obtain ⟨q, hq⟩ : ∃ q : Nat, x / 2 = q := ⟨(x / 2).toNat, by omega⟩
  unfold onA onV
  rw [hq] at hs h1 ⊢
  rw [Int.toNat_natCast, List.getD_eq_getElem?_getD, List.getElem?_map, List.getElem?_range (by omega), decide_eq_true_iff]
  show toldF T val q = 1 + x % 2 ↔ _
  unfold toldF
  rw [if_pos hs]
  omega
theorem toldF_range {T : List Nd} {val : Int → Int} (h : Sem T val) : ∀ x ∈ (List.range T.length).map (toldF T val), 0 ≤ x ∧ x ≤ 2 := by
  intro x hx
  obtain ⟨k, hk, rfl⟩ := List.mem_map.1 hx
  have hk' := List.mem_range.1 hk
  unfold toldF
  by_cases hs : (ndAt T (k : Int)).sort = 0
  · rw [if_pos hs]
    have := h.bool k (by omega) (by omega) hs
    omega
  · rw [if_neg hs]
    decide
theorem sumP_mem {T : List Nd} {n : Nat} {c : List Int} (h : c ∈ sumP T n) : ∃ k : Nat, k < n ∧ c ∈ shapeP T (k : Int) := by
  unfold sumP at h
  obtain ⟨k, hk, hc⟩ := List.mem_flatMap.1 h
  exact ⟨k, List.mem_range.1 hk, hc⟩
theorem shapeP_bool {T : List Nd} (h : Well T) (hI : IteOk T) {id : Int} (h0 : 0 ≤ id) (h1 : id < T.length) : ∀ c ∈ shapeP T id, ∀ x ∈ c, BoolL T x := by
  intro c hc x hx
  obtain ⟨d, hd, rfl⟩ := List.mem_map.1 hc
  exact clausesP_bool h hI h0 h1 d hd x ((mem_make d x).1 hx).1
theorem shapeP_hold {T : List Nd} (h : Well T) (hI : IteOk T) {val : Int → Int} (hv : Sem T val) {id : Int} (h0 : 0 ≤ id) (h1 : id < T.length) : ∀ c ∈ shapeP T id, ∃ x ∈ c, onA ((List.range T.length).map (toldF T val)) x = true := by
  intro c hc
  obtain ⟨d, hd, rfl⟩ := List.mem_map.1 hc
  obtain ⟨x, hx, ho⟩ := clausesP_hold h hI hv h0 h1 d hd
  have hb := clausesP_bool h hI h0 h1 d hd x hx
  exact ⟨x, (mem_make d x).2 ⟨hx, hb.1.1⟩, (onA_told hb).2 ho⟩
end Go.Proofs.YtlipnnibagidiaaGreat
namespace Go.Proofs.YtlipnnibagidiaaGreat
open Go.RowKit Go.Lib Go.ChangeShapes Go.WideShapes Go.ChangeAt
theorem vchoose_list {α : Type} : ∀ {n : Nat} {p : Nat → α → Prop}, (∀ i, i < n → ∃ x, p i x) → ∃ l : List α, ∃ h : l.length = n, ∀ i (hi : i < n), p i (l[i]'(h ▸ hi))
  | 0, _, _ => ⟨[], rfl, fun i hi => absurd hi (Nat.not_lt_zero _)⟩
  | n + 1, p, h => by
    obtain ⟨l, hl, hp⟩ := vchoose_list (n := n) (p := fun i x => p (i + 1) x) (fun i hi => h (i + 1) (Nat.succ_lt_succ hi))
    obtain ⟨x, hx⟩ := h 0 (Nat.succ_pos n)
    refine ⟨x :: l, by simp [hl], fun i hi => ?_⟩
    cases i with
    | zero => exact hx
    | succ i => exact hp i (Nat.lt_of_succ_lt_succ hi)
theorem vcell_spot {w : World} {a : Addr} {v : Value} (h : w.cell? a = some v) : a.spot = none := by
  unfold World.cell? at h
  split at h
  · split at h
    · cases h
    · rename_i hs
      cases hsp : a.spot with
      | none => rfl
      | some _ => rw [hsp] at hs; exact absurd rfl hs
  · cases h
theorem vadd_nought (a : Addr) : a.add 0 = a := by
  obtain ⟨b, o, s⟩ := a
  unfold Addr.add
  split <;> simp_all
def ElAt (W : World) (A : Option Addr) (sz i : Nat) (cs : List Value) : Prop := ∃ b off, A = some ⟨b, off, none⟩ ∧ b < W.heap.size ∧ ∀ j, j < sz → W.cell? ⟨b, off + i * sz + j, none⟩ = cs[j]?
theorem list_open {H : Type} {enc : TypeId × Value → H} {W : World} {b : Nat} {hd : Bool} {α : Type} {t e : TypeId} {sz fuel : Nat} (Q : α → List Value → Prop) (hsz : 0 < sz) (ht : Tryz.prog.underlying t = some (.slice e)) (hc : Tryz.prog.cellsOf e = sz)
    (hop : ∀ m, m < fuel → ∀ cs r, DataW.trod enc Tryz.prog W b (fun _ => true) hd m e cs = some r → ∃ x, Q x cs) {v : Value} {r : DataW H × List MemPlace} (h : DataW.trod enc Tryz.prog W b (fun _ => true) hd fuel t [v] = some r) :
    ∃ (A : Option Addr) (c : Nat) (l : List α), v = .slice A l.length c ∧ l.length ≤ 9223372036854775807 ∧ ∀ i (hi : i < l.length), ∃ cs, cs.length = sz ∧ Q l[i] cs ∧ ElAt W A sz i cs := by
  rcases DataW.trod_slice ht h with ⟨e2, _⟩ | ⟨a, len, cap, elems, rest, m, hm, e2, _, _, hlc, hcm, hel, hget, _⟩
  · injection e2 with e2
    exact ⟨none, 0, [], e2, by simp, fun i hi => absurd hi (by simp)⟩
  · injection e2 with e2
    rw [hc] at hget
    have each : ∀ i, i < len → ∃ z : α, ∃ cs, cs.length = sz ∧ Q z cs ∧ ∀ j, j < sz → W.cell? ((a.add (i * sz)).add j) = cs[j]? := fun i hi => by
      have h1 := hget i hi
      rw [List.getElem?_eq_getElem (by rw [hel]; exact hi)] at h1
      obtain ⟨cs', h2, h3⟩ := Option.bind_eq_some_iff.1 h1
      obtain ⟨_, hl, hcell⟩ := World.cells?_some h2
      obtain ⟨x, hx⟩ := hop m (by omega) cs' _ h3
      exact ⟨x, cs', hl, hx, hcell⟩
    obtain ⟨l, hl, hp⟩ := vchoose_list each
    refine ⟨some a, cap, l, by rw [hl]; exact e2, by rw [hl]; unfold maxLen at hcm; omega, fun i hi => ?_⟩
    obtain ⟨cs, h1, h2, h3⟩ := hp i (by omega)
    refine ⟨cs, h1, h2, ?_⟩
    obtain ⟨cs0, g1, _, g3⟩ := hp 0 (by omega)
    have h00 := g3 0 hsz
    rw [List.getElem?_eq_getElem (by omega), Nat.zero_mul, vadd_nought, vadd_nought] at h00
    have hsp2 : a.spot = none := vcell_spot h00
    have h0 := h3 0 hsz
    rw [List.getElem?_eq_getElem (by omega)] at h0
    obtain ⟨b', off, sp⟩ := a
    dsimp only at hsp2
    subst hsp2
    have hadd : ∀ o j, (⟨b', o, none⟩ : Addr).add j = ⟨b', o + j, none⟩ := fun o j => by unfold Addr.add; split <;> simp_all
    have hlt := World.block_lt_of_cell? _ _ h0
    rw [hadd, hadd] at hlt
    refine ⟨b', off, rfl, hlt, fun j hj => ?_⟩
    have := h3 j hj
    rwa [hadd, hadd] at this
theorem i64_of {n : Int} (h : (Lit.int .i64 n).wf = true) : I64 n := by
  have q64 : IntKind.i64.min = -9223372036854775808 := by decide
  have p64 : IntKind.i64.max = 9223372036854775807 := by decide
  simp [Lit.wf, q64, p64] at h
  exact ⟨h.1, h.2⟩
section
variable {H : Type} {enc : TypeId × Value → H} {W : World} {b : Nat} {hd : Bool}
theorem int_open {fuel : Nat} {cs : List Value} {r : DataW H × List MemPlace} (h : DataW.trod enc Tryz.prog W b (fun _ => true) hd fuel 3 cs = some r) : ∃ n : Int, cs = [.int .i64 n] ∧ I64 n := by
  obtain ⟨n, e, _, hw⟩ := DataW.trod_int Tryz.underlying3 h
  exact ⟨n, e, i64_of hw⟩
theorem str_open {fuel : Nat} {cs : List Value} {r : DataW H × List MemPlace} (h : DataW.trod enc Tryz.prog W b (fun _ => true) hd fuel 9 cs = some r) : ∃ s : ByteArray, cs = [.string s] ∧ s.size ≤ 9223372036854775807 := by
  obtain ⟨s, e, _, hw⟩ := DataW.trod_string Tryz.underlying9 h
  exact ⟨s, e, by unfold maxLen at hw; omega⟩
theorem tri_open {fuel : Nat} {c0 c1 c2 : Value} {r : DataW H × List MemPlace} (h : DataW.trod enc Tryz.prog W b (fun _ => true) hd fuel 49 [c0, c1, c2] = some r) : ∃ n0 n1 n2 : Int, c0 = .int .i64 n0 ∧ c1 = .int .i64 n1 ∧ c2 = .int .i64 n2 ∧ I64 n0 ∧ I64 n1 ∧ I64 n2 := by
  obtain ⟨z0, z1, z2, _, _, l0, l1, l2⟩ := trod_array3 Tryz.underlying49 (by kernel_rfl) h
  obtain ⟨m0, d0, s0⟩ := int_open l0
  obtain ⟨m1, d1, s1⟩ := int_open l1
  obtain ⟨m2, d2, s2⟩ := int_open l2
  injection d0 with d0
  injection d1 with d1
  injection d2 with d2
  exact ⟨m0, m1, m2, d0, d1, d2, s0, s1, s2⟩
set_option maxRecDepth 100000 in
theorem fun_open {fuel : Nat} {cs : List Value} {r : DataW H × List MemPlace} (h : DataW.trod enc Tryz.prog W b (fun _ => true) hd fuel 149 cs = some r) : ∃ f : FnM, cs = f.cells ∧ f.Wf := by
  obtain ⟨xs, n, rfl, hr, hlen, hxl, hfd⟩ := DataW.trod_struct Tryz.underlying149 h
  have cA : Tryz.prog.cellsOf 149 = 6 := by kernel_rfl
  have cS : Tryz.prog.cellsOf 9 = 1 := by kernel_rfl
  have cI : Tryz.prog.cellsOf 3 = 1 := by kernel_rfl
  have cT : Tryz.prog.cellsOf 49 = 3 := by kernel_rfl
  rw [cA] at hlen
  match cs, hlen, xs, hxl with
  | [v0, v1, v2, v3, v4, v5], _, [y0, y1, y2, y3], _ =>
    have k0 := hfd 0 _ rfl
    have k1 := hfd 1 _ rfl
    have k2 := hfd 2 _ rfl
    have k3 := hfd 3 _ rfl
    simp [cS] at k0
    simp [cI] at k1
    simp [cT] at k2
    simp [cI] at k3
    obtain ⟨s, e0, _⟩ := str_open k0
    obtain ⟨n1, e1, w1⟩ := int_open k1
    obtain ⟨m0, m1, m2, rfl, rfl, rfl, s0, s1, s2⟩ := tri_open k2
    obtain ⟨n3, e3, w3⟩ := int_open k3
    injection e0 with e0
    injection e1 with e1
    injection e3 with e3
    subst e0 e1 e3
    exact ⟨⟨s, n1, m0, m1, m2, n3⟩, rfl, ⟨w1, s0, s1, s2, w3⟩⟩
set_option maxRecDepth 100000 in
theorem rw_open {fuel : Nat} {cs : List Value} {r : DataW H × List MemPlace} (h : DataW.trod enc Tryz.prog W b (fun _ => true) hd fuel 153 cs = some r) : ∃ f : RwM, cs = [.int .i64 f.a0, .int .i64 f.a1, .int .i64 f.a2, .int .i64 f.val] ∧ I64 f.a0 ∧ I64 f.a1 ∧ I64 f.a2 ∧ I64 f.val := by
  obtain ⟨xs, n, rfl, hr, hlen, hxl, hfd⟩ := DataW.trod_struct Tryz.underlying153 h
  have cA : Tryz.prog.cellsOf 153 = 4 := by kernel_rfl
  have cI : Tryz.prog.cellsOf 3 = 1 := by kernel_rfl
  have cT : Tryz.prog.cellsOf 49 = 3 := by kernel_rfl
  rw [cA] at hlen
  match cs, hlen, xs, hxl with
  | [v0, v1, v2, v3], _, [y0, y1], _ =>
    have k0 := hfd 0 _ rfl
    have k1 := hfd 1 _ rfl
    simp [cT] at k0
    simp [cI] at k1
    obtain ⟨m0, m1, m2, rfl, rfl, rfl, s0, s1, s2⟩ := tri_open k0
    obtain ⟨n3, e3, w3⟩ := int_open k1
    injection e3 with e3
    subst e3
    exact ⟨⟨m0, m1, m2, n3⟩, rfl, s0, s1, s2, w3⟩
def FvIn (W : World) (f : FvM) : Prop := I64 f.els ∧ f.rows.length ≤ 9223372036854775807 ∧ (∀ r ∈ f.rows, I64 r.val) ∧ ∀ k (hk : k < f.rows.length), ∃ b off, f.R = some ⟨b, off, none⟩ ∧ b < W.heap.size ∧ RwAt W b (off + k * 4) f.rows[k]
set_option maxRecDepth 100000 in
theorem fv_open {fuel : Nat} {cs : List Value} {r : DataW H × List MemPlace} (h : DataW.trod enc Tryz.prog W b (fun _ => true) hd fuel 84 cs = some r) : ∃ f : FvM, cs = [.slice f.R f.rows.length f.rc, .int .i64 f.els] ∧ FvIn W f := by
  obtain ⟨xs, n, rfl, hr, hlen, hxl, hfd⟩ := DataW.trod_struct Tryz.underlying84 h
  have cA : Tryz.prog.cellsOf 84 = 2 := by kernel_rfl
  have cI : Tryz.prog.cellsOf 3 = 1 := by kernel_rfl
  have cL : Tryz.prog.cellsOf 82 = 1 := by kernel_rfl
  rw [cA] at hlen
  match cs, hlen, xs, hxl with
  | [v0, v1], _, [y0, y1], _ =>
    have k0 := hfd 0 _ rfl
    have k1 := hfd 1 _ rfl
    simp [cL] at k0
    simp [cI] at k1
    obtain ⟨n1, e1, w1⟩ := int_open k1
    injection e1 with e1
    subst e1
    obtain ⟨A, c, l, rfl, hll, hat⟩ := list_open (fun (f : RwM) cs => cs = [.int .i64 f.a0, .int .i64 f.a1, .int .i64 f.a2, .int .i64 f.val] ∧ I64 f.a0 ∧ I64 f.a1 ∧ I64 f.a2 ∧ I64 f.val) (sz := 4) (by decide) Tryz.underlying82 (by kernel_rfl) (fun m _ cs r h => rw_open h) k0
    refine ⟨⟨A, c, l, n1⟩, rfl, w1, hll, fun q hq => ?_, fun k hk => ?_⟩
    · obtain ⟨i, hi, rfl⟩ := List.getElem_of_mem hq
      obtain ⟨_, _, ⟨_, _, _, _, h5⟩, _⟩ := hat i hi
      exact h5
    · obtain ⟨cs, _, ⟨rfl, q0, q1, q2, _⟩, b', off, e, hlt, hc⟩ := hat k hk
      exact ⟨b', off, e, hlt, hc 0 (by decide), hc 1 (by decide), hc 2 (by decide), hc 3 (by decide), q0, q1, q2⟩
end
def WldV.val (v : WldV) : Value := .agg v.cells
def WldV.Ok (v : WldV) (W : World) : Prop := WldAt W v ∧ WldWf v
set_option maxRecDepth 100000 in
theorem world_in {H : Type} {enc : TypeId × Value → H} {W : World} {base : Nat} {v : Value} {d : DataW H} {p : List MemPlace} (hv : Value.okWide Tryz.prog W .any base 30 v)
    (h : DataW.Trod enc Tryz.prog W 0 (fun _ => true) true 30 v d p) (_hl : ∀ x ∈ p, x.block < W.heap.size) : ∃ x : WldV, v = x.val ∧ x.Ok W := by
  obtain ⟨cs, rfl, hcs⟩ := okWide_struct Tryz.underlying30 hv
  obtain ⟨fuel, hf⟩ := h
  obtain ⟨xs, n, _, _, _, hxl, hfd⟩ := DataW.trod_struct Tryz.underlying30 hf
  have cA : Tryz.prog.cellsOf 30 = 2 := by kernel_rfl
  have c0 : Tryz.prog.cellsOf 27 = 1 := by kernel_rfl
  have c1 : Tryz.prog.cellsOf 28 = 1 := by kernel_rfl
  rw [cA] at hcs
  obtain ⟨l⟩ := cs
  match l, hcs, xs, hxl with
  | [v0, v1], _, [y0, y1], _ =>
    have k0 := hfd 0 _ rfl
    have k1 := hfd 1 _ rfl
    simp [c0, Value.cells] at k0
    simp [c1, Value.cells] at k1
    obtain ⟨A0, d0, l0, rfl, hl0, hat0⟩ := list_open (fun (x : Int) cs => cs = [.int .i64 x] ∧ I64 x) (sz := 1) (by decide) Tryz.underlying27 (by kernel_rfl) (fun m _ cs r h => int_open h) k0
    obtain ⟨A1, d1, l1, rfl, hl1, hat1⟩ := list_open (fun (f : FvM) cs => cs = [.slice f.R f.rows.length f.rc, .int .i64 f.els] ∧ FvIn W f) (sz := 2) (by decide) Tryz.underlying28 (by kernel_rfl) (fun m _ cs r h => fv_open h) k1
    have hin : ∀ f ∈ l1, FvIn W f := fun f hf => by
      obtain ⟨i, hi, rfl⟩ := List.getElem_of_mem hf
      obtain ⟨_, _, ⟨_, h5⟩, _⟩ := hat1 i hi
      exact h5
    refine ⟨⟨A0, d0, l0, A1, d1, l1⟩, rfl, ⟨hl0, hl1, fun i hi => ?_, fun i hi => ?_, fun f hf => ⟨(hin f hf).2.1, (hin f hf).2.2.2⟩⟩, ⟨fun f hf => (hin f hf).1, fun f hf => (hin f hf).2.2.1⟩⟩
    · obtain ⟨cs, _, ⟨rfl, _⟩, b', off, e, hlt, hc⟩ := hat0 i hi
      have := hc 0 (by decide)
      rw [Nat.mul_one] at this
      exact ⟨b', off, e, hlt, this⟩
    · obtain ⟨cs, _, ⟨rfl, _⟩, b', off, e, hlt, hc⟩ := hat1 i hi
      exact ⟨b', off, e, hlt, hc 0 (by decide), hc 1 (by decide)⟩
section
variable {H : Type} {enc : TypeId × Value → H} {W : World} {b : Nat} {hd : Bool}
set_option maxRecDepth 100000 in
theorem sxl_open : ∀ (fuel : Nat) (cs : List Value) (r : DataW H × List MemPlace), DataW.trod enc Tryz.prog W b (fun _ => true) hd fuel 79 cs = some r → ∃ y : X3, cs = [.int .i8 y.k, .string y.t, .slice y.A y.n y.c] ∧ SxL W y := by
  intro fuel
  induction fuel using Nat.strongRecOn with
  | ind fuel ih =>
  intro cs r h
  obtain ⟨xs, n, rfl, hr, hlen, hxl, hfd⟩ := DataW.trod_struct Tryz.underlying79 h
  have cA : Tryz.prog.cellsOf 79 = 3 := by kernel_rfl
  have c8 : Tryz.prog.cellsOf 44 = 1 := by kernel_rfl
  have cS : Tryz.prog.cellsOf 9 = 1 := by kernel_rfl
  have cL : Tryz.prog.cellsOf 77 = 1 := by kernel_rfl
  rw [cA] at hlen
  match cs, hlen, xs, hxl with
  | [v0, v1, v2], _, [y0, y1, y2], _ =>
    have k0 := hfd 0 _ rfl
    have k1 := hfd 1 _ rfl
    have k2 := hfd 2 _ rfl
    simp [c8] at k0
    simp [cS] at k1
    simp [cL] at k2
    obtain ⟨k, e0, _, _⟩ := DataW.trod_int Tryz.underlying44 k0
    obtain ⟨s, e1, hs⟩ := str_open k1
    injection e0 with e0
    injection e1 with e1
    subst e0 e1
    obtain ⟨A, c, l, rfl, hll, hat⟩ := list_open (fun (y : X3) cs => cs = [.int .i8 y.k, .string y.t, .slice y.A y.n y.c] ∧ SxL W y) (sz := 3) (by decide) Tryz.underlying77 cA (fun m hm cs r h => ih m (by omega) cs r h) k2
    refine ⟨⟨k, s, A, l.length, c⟩, rfl, ?_⟩
    rcases Nat.eq_zero_or_pos l.length with h0 | h0
    · exact .mk _ 0 0 (fun _ => ⟨k, s, A, l.length, c⟩) hs hll (fun h => absurd h (by show ¬ 0 < l.length; omega)) (fun i hi => absurd hi (by show ¬ i < l.length; omega)) (fun i hi => absurd hi (by show ¬ i < l.length; omega))
    · obtain ⟨_, _, _, b0, o0, hA, hlt, _⟩ := hat 0 h0
      have hel : ∀ i (hi : i < l.length), (W.cell? ⟨b0, o0 + i * 3, none⟩ = some (.int .i8 l[i].k) ∧ W.cell? ⟨b0, o0 + i * 3 + 1, none⟩ = some (.string l[i].t) ∧ W.cell? ⟨b0, o0 + i * 3 + 2, none⟩ = some (.slice l[i].A l[i].n l[i].c)) ∧ SxL W l[i] := fun i hi => by
        obtain ⟨cs, _, ⟨rfl, hx⟩, b1, o1, hA1, _, hc⟩ := hat i hi
        rw [hA] at hA1
        injection hA1 with hA1
        injection hA1 with e1 e2 _
        subst e1 e2
        exact ⟨⟨hc 0 (by decide), hc 1 (by decide), hc 2 (by decide)⟩, hx⟩
      refine .mk _ b0 o0 (fun i => if h : i < l.length then l[i] else ⟨k, s, A, l.length, c⟩) hs hll (fun _ => ⟨hA, hlt⟩) (fun i hi => ?_) (fun i hi => ?_)
      · have hi' : i < l.length := hi
        simp only [hi', dif_pos]
        exact (hel i hi').1
      · have hi' : i < l.length := hi
        simp only [hi', dif_pos]
        exact (hel i hi').2
set_option maxRecDepth 100000 in
theorem par_open {fuel : Nat} {cs : List Value} {r : DataW H × List MemPlace} (h : DataW.trod enc Tryz.prog W b (fun _ => true) hd fuel 207 cs = some r) : ∃ f : ByteArray × Int, cs = [.string f.1, .int .i64 f.2] ∧ I64 f.2 := by
  obtain ⟨xs, n, rfl, hr, hlen, hxl, hfd⟩ := DataW.trod_struct Tryz.underlying207 h
  have cA : Tryz.prog.cellsOf 207 = 2 := by kernel_rfl
  have cS : Tryz.prog.cellsOf 9 = 1 := by kernel_rfl
  have cI : Tryz.prog.cellsOf 3 = 1 := by kernel_rfl
  rw [cA] at hlen
  match cs, hlen, xs, hxl with
  | [v0, v1], _, [y0, y1], _ =>
    have k0 := hfd 0 _ rfl
    have k1 := hfd 1 _ rfl
    simp [cS] at k0
    simp [cI] at k1
    obtain ⟨s, e0, _⟩ := str_open k0
    obtain ⟨n1, e1, w1⟩ := int_open k1
    injection e0 with e0
    injection e1 with e1
    subst e0 e1
    exact ⟨⟨s, n1⟩, rfl, w1⟩
set_option maxRecDepth 100000 in
theorem mac_open {fuel : Nat} {cs : List Value} {r : DataW H × List MemPlace} (h : DataW.trod enc Tryz.prog W b (fun _ => true) hd fuel 81 cs = some r) : ∃ m : MacM, cs = m.cells ∧ I64 m.res ∧ MacIn W m := by
  obtain ⟨xs, n, rfl, hr, hlen, hxl, hfd⟩ := DataW.trod_struct Tryz.underlying81 h
  have cA : Tryz.prog.cellsOf 81 = 6 := by kernel_rfl
  have cS : Tryz.prog.cellsOf 9 = 1 := by kernel_rfl
  have cI : Tryz.prog.cellsOf 3 = 1 := by kernel_rfl
  have cL : Tryz.prog.cellsOf 76 = 1 := by kernel_rfl
  have cX : Tryz.prog.cellsOf 79 = 3 := by kernel_rfl
  rw [cA] at hlen
  match cs, hlen, xs, hxl with
  | [v0, v1, v2, v3, v4, v5], _, [y0, y1, y2, y3], _ =>
    have k0 := hfd 0 _ rfl
    have k1 := hfd 1 _ rfl
    have k2 := hfd 2 _ rfl
    have k3 := hfd 3 _ rfl
    simp [cS] at k0
    simp [cL] at k1
    simp [cI] at k2
    simp [cX] at k3
    obtain ⟨s, e0, _⟩ := str_open k0
    obtain ⟨n2, e2, w2⟩ := int_open k2
    obtain ⟨y, e3, hy⟩ := sxl_open _ _ _ k3
    injection e0 with e0
    injection e2 with e2
    injection e3 with e3 e4
    injection e4 with e4 e5
    injection e5 with e5
    subst e0 e2 e3 e4 e5
    obtain ⟨A, c, l, rfl, hll, hat⟩ := list_open (fun (f : ByteArray × Int) cs => cs = [.string f.1, .int .i64 f.2] ∧ I64 f.2) (sz := 2) (by decide) Tryz.underlying76 (by kernel_rfl) (fun m _ cs r h => par_open h) k1
    refine ⟨⟨s, A, l.length, c, n2, y⟩, rfl, w2, hll, fun i hi => ?_, hy⟩
    obtain ⟨cs, _, ⟨rfl, q⟩, b', off, e, hlt, hc⟩ := hat i hi
    exact ⟨b', off, l[i].1, l[i].2, e, hlt, hc 0 (by decide), hc 1 (by decide), q⟩
end
def SigV.val (g : SigV) : Value := .agg g.cells
def SigV.Ok (g : SigV) (W : World) : Prop := SigAt W g ∧ SigDeep W g
set_option maxRecDepth 100000 in
theorem sig_in {H : Type} {enc : TypeId × Value → H} {W : World} {base : Nat} {v : Value} {d : DataW H} {p : List MemPlace} (hv : Value.okWide Tryz.prog W .any base 26 v)
    (h : DataW.Trod enc Tryz.prog W 0 (fun _ => true) true 26 v d p) (_hl : ∀ x ∈ p, x.block < W.heap.size) : ∃ x : SigV, v = x.val ∧ x.Ok W := by
  obtain ⟨cs, rfl, hcs⟩ := okWide_struct Tryz.underlying26 hv
  obtain ⟨fuel, hf⟩ := h
  obtain ⟨xs, n, _, _, _, hxl, hfd⟩ := DataW.trod_struct Tryz.underlying26 hf
  have cA : Tryz.prog.cellsOf 26 = 3 := by kernel_rfl
  have c0 : Tryz.prog.cellsOf 22 = 1 := by kernel_rfl
  have c1 : Tryz.prog.cellsOf 23 = 1 := by kernel_rfl
  have c2 : Tryz.prog.cellsOf 24 = 1 := by kernel_rfl
  rw [cA] at hcs
  obtain ⟨l⟩ := cs
  match l, hcs, xs, hxl with
  | [v0, v1, v2], _, [y0, y1, y2], _ =>
    have k0 := hfd 0 _ rfl
    have k1 := hfd 1 _ rfl
    have k2 := hfd 2 _ rfl
    simp [c0, Value.cells] at k0
    simp [c1, Value.cells] at k1
    simp [c2, Value.cells] at k2
    obtain ⟨A0, d0, l0, rfl, hl0, hat0⟩ := list_open (fun (x : ByteArray) cs => cs = [.string x] ∧ x.size ≤ 9223372036854775807) (sz := 1) (by decide) Tryz.underlying22 (by kernel_rfl) (fun m _ cs r h => str_open h) k0
    obtain ⟨A1, d1, l1, rfl, hl1, hat1⟩ := list_open (fun (f : FnM) cs => cs = f.cells ∧ f.Wf) (sz := 6) (by decide) Tryz.underlying23 (by kernel_rfl) (fun m _ cs r h => fun_open h) k1
    obtain ⟨A2, d2, l2, rfl, hl2, hat2⟩ := list_open (fun (f : MacM) cs => cs = f.cells ∧ I64 f.res ∧ MacIn W f) (sz := 6) (by decide) Tryz.underlying24 (by kernel_rfl) (fun m _ cs r h => mac_open h) k2
    refine ⟨⟨A0, d0, l0, A1, d1, l1, A2, d2, l2⟩, rfl, ⟨hl0, hl1, hl2, fun i hi => ?_, fun i hi => ?_, fun i hi => ?_⟩, fun m hm => ?_⟩
    · obtain ⟨cs, _, ⟨rfl, _⟩, b', off, e, hlt, hc⟩ := hat0 i hi
      have := hc 0 (by decide)
      rw [Nat.mul_one] at this
      exact ⟨b', off, e, hlt, this⟩
    · obtain ⟨cs, _, ⟨rfl, hw⟩, b', off, e, hlt, hc⟩ := hat1 i hi
      exact ⟨b', off, e, hlt, hc 0 (by decide), hc 1 (by decide), hc 2 (by decide), hc 3 (by decide), hc 4 (by decide), hc 5 (by decide), hw⟩
    · obtain ⟨cs, _, ⟨rfl, hw, _⟩, b', off, e, hlt, hc⟩ := hat2 i hi
      exact ⟨b', off, e, hlt, hc 0 (by decide), hc 1 (by decide), hc 2 (by decide), hc 3 (by decide), hc 4 (by decide), hc 5 (by decide), hw⟩
    · obtain ⟨i, hi, rfl⟩ := List.getElem_of_mem hm
      obtain ⟨_, _, ⟨_, _, h5⟩, _⟩ := hat2 i hi
      exact h5
end Go.Proofs.YtlipnnibagidiaaGreat
namespace Go.Proofs.YtlipnnibagidiaaGreat
open Go.RowKit Go.Lib
theorem sort_bool_op {T : List Nd} (h : Well T) {id : Int} (h0 : 0 ≤ id) (h1 : id < T.length) (ho : (ndAt T id).op = 0) : (ndAt T id).sort = 0 := by
  have hr := h.srt _ (ndAt_mem h0 h1) (by omega)
  rw [ho] at hr
  simpa [opSort] using hr.symm
theorem kindM_at {T : List Nd} {k : Nat} (hk : k < T.length) : kindM T k = if (ndAt T k).sort ≠ 0 then 0 else if (ndAt T k).op = 6 then kindEq (sortM T (ndAt T k).a0) else kindOp (ndAt T k).op := by
  unfold kindM
  rw [sortM_in hk, ndAt_nat hk, Int.toNat_natCast, List.getElem?_eq_getElem hk]
theorem sortM_at {T : List Nd} {x : Int} (h0 : 0 ≤ x) (h1 : x < T.length) : sortM T x = (ndAt T x).sort := by
  obtain ⟨k, rfl⟩ : ∃ k : Nat, x = k := ⟨x.toNat, by omega⟩
  rw [sortM_in (by omega), ndAt_nat (by omega)]
theorem kind_conn {T : List Nd} (h : Well T) {k : Nat} (hk : k < T.length) (h4 : (ndAt T k).op ≠ 4) (h5 : (ndAt T k).op ≠ 5) : (kindM T k = 3 ∨ kindM T k = 1) ↔ Conn14 T k := by
  have hst := at_of h (id := (k : Int)) (by omega) (by omega)
  rw [kindM_at hk]
  unfold Conn14
  by_cases hs : (ndAt T k).sort = 0
  rotate_left
  · rw [if_pos hs]
    constructor
    · intro e; omega
    · rintro (e | e | e | ⟨e, _⟩ | ⟨_, e⟩)
      · exact absurd (sort_bool_op h (by omega) (by omega) e) hs
      · exact absurd (srt_and h (by omega) (by omega) (.inl e)).1 hs
      · exact absurd (srt_and h (by omega) (by omega) (.inr e)).1 hs
      · exact absurd (srt_eq h (by omega) (by omega) e).1 hs
      · exact absurd e hs
  rw [if_neg (by omega)]
  by_cases h6 : (ndAt T k).op = 6
  · rw [if_pos h6]
    obtain ⟨⟨p0, p1⟩, _⟩ := hst.two (.inl h6)
    rw [sortM_at p0 (by omega)]
    rcases kindEq_cases ((ndAt T (ndAt T k).a0).sort) with ⟨a, b⟩ | ⟨a, b⟩ | ⟨a, b⟩ | ⟨a, b⟩ <;> omega
  · rw [if_neg h6]
    unfold kindOp
    rcases arity_ops hst with e | e | e | e | e | e | e | e | e | e | e | e | e | e <;> rw [e] at h4 h5 h6 ⊢ <;> simp [hs] <;> omega
theorem ite_rows {T : List Nd} {k : Nat} (hc : ¬ Conn14 T k) : (shapeP T k).length = 0 ↔ (ndAt T k).op ≠ 7 := by
  unfold shapeP
  rw [List.length_map]
  unfold Conn14 at hc
  unfold clausesP
  dsimp only
  by_cases h7 : (ndAt T k).op = 7
  · have hs : (ndAt T k).sort ≠ 0 := fun e => hc (by omega)
    rw [if_neg (by omega), if_neg (by omega), if_neg (by omega), if_neg (by omega), if_pos h7, if_neg hs]
    split <;> simp [h7]
  · rw [if_neg (by omega), if_neg (by omega), if_neg (by omega)]
    by_cases h6 : (ndAt T k).op = 6
    · rw [if_pos h6, if_neg (by omega)]
      simp [h7]
    · rw [if_neg h6, if_neg h7]
      simp [h7]
theorem conn_sort {T : List Nd} (h : Well T) {k : Nat} (hk : k < T.length) (hc : Conn14 T k) : (ndAt T k).sort = 0 := by
  rcases hc with e | e | e | ⟨e, _⟩ | ⟨_, e⟩
  · exact sort_bool_op h (by omega) (by omega) e
  · exact (srt_and h (by omega) (by omega) (.inl e)).1
  · exact (srt_and h (by omega) (by omega) (.inr e)).1
  · exact (srt_eq h (by omega) (by omega) e).1
  · exact e
theorem toldF_flip {T : List Nd} {val : Int → Int} {k : Nat} (hs : (ndAt T k).sort = 0) : updI (toldF T val) k (3 - toldF T val k) = toldF T (flipV val k) := by
  funext i
  unfold updI toldF flipV
  by_cases e : i = k
  · subst e
    simp only [if_true, if_pos hs]
    omega
  · have e' : ¬ (i : Int) = k := by omega
    rw [if_neg e]
    simp only [if_neg e']
theorem toldF_range2 {T : List Nd} {val : Int → Int} (h : Sem T val) {k : Nat} (hk : k < T.length) (hs : (ndAt T k).sort = 0) : ∀ x ∈ (List.range T.length).map (toldF T (flipV val k)), 0 ≤ x ∧ x ≤ 2 := by
  intro x hx
  obtain ⟨i, hi, rfl⟩ := List.mem_map.1 hx
  have hi' := List.mem_range.1 hi
  unfold toldF flipV
  by_cases e : (i : Int) = k
  · have := h.bool k (by omega) (by omega) hs
    rw [e]
    simp only [if_true, if_pos hs]
    omega
  · simp only [if_neg e]
    exact toldF_range h _ (List.mem_map.2 ⟨i, hi, rfl⟩)
theorem shapeP_tight {T : List Nd} (h : Well T) (hI : IteOk T) {val : Int → Int} (hv : Sem T val) {k : Nat} (hk : k < T.length) (hc : Conn14 T k) : ¬ ∀ c ∈ shapeP T k, ∃ x ∈ c, onA ((List.range T.length).map (toldF T (flipV val k))) x = true := by
  intro ha
  obtain ⟨c, hc1, hc2⟩ := clausesP_tight h hv (by omega) (by omega) hc
  obtain ⟨x, hx, ho⟩ := ha (makeM c) (List.mem_map.2 ⟨c, hc1, rfl⟩)
  obtain ⟨hx1, _⟩ := (mem_make c x).1 hx
  exact hc2 x hx1 ((onA_told (clausesP_bool h hI (by omega) (by omega) c hc1 x hx1)).1 ho)
end Go.Proofs.YtlipnnibagidiaaGreat

/- Whether a table fits a signature. -/
import Derived.Test.YtkapbdjobfbhhaaGreatVxJ
import Derived.Test.YtkapbdjobfbhhaaGreatOpA
import Derived.Laws.AppendOwn
import Derived.Deep.RegionHeld3
namespace Go.Proofs.YtkapbdjobfbhhaaGreat
open Go.RowKit Go.Lib
theorem FnAt.argc {w : World} {b o : Nat} {f : FnM} (h : FnAt w b o f) {i : Nat} (hi : i < 3) : w.cell? ⟨b, o + 2 + i, none⟩ = some (.int .i64 (f.arg i)) := by
  match i, hi with
  | 0, _ => exact h.c2
  | 1, _ => exact h.c3
  | 2, _ => exact h.c4
def App06Is (g : SigV) (fn : Int) (w : World) (e : Ending) (w' : World) : Prop := ∃ s r, e = .returned (.tuple #[.int .i64 s, .int .i64 r]) ∧ (r = 0 → ∃ (i : Nat) (h : i < g.funs.length), fn = i ∧ s = g.funs[i].res) ∧ Below w.heap.size w w'
theorem App06Is.no {g : SigV} {fn s r : Int} {w w' : World} (hr : r ≠ 0) (h : Below w.heap.size w w') : App06Is g fn w (.returned (.tuple #[.int .i64 s, .int .i64 r])) w' := ⟨s, r, rfl, fun e => absurd e hr, h⟩
set_option maxRecDepth 100000 in
set_option maxHeartbeats 8000000 in
theorem app06_ok {w : World} {g : SigV} {A : Option Addr} {L : List Int} (c : Nat) (hg : SigAt w g) (hd : SigDeep w g) (hL : Row w A L) (h3 : L.length ≤ 3) (fn : Int) :
    Calls Tryz.prog 63 #[.agg g.cells, .int .i64 fn, .slice A L.length c] w (App06Is g fn w) := by
  have HB0 := Lib.hid (sig_box w g)
  have HG0 := Lib.hid (Blk.new w 26 g.cells)
  have H := Lib.hid (hg.below HB0.out)
  have HLr := Lib.hid (hL.below HB0.out)
  have KC := Lib.hid (lcheck_ok H.out (hd.below HB0.out))
  have HX := Lib.hid (fun W (hW : Below (w.alloc (.cells g.cells 26)).heap.size (w.alloc (.cells g.cells 26)) W) => sig_blk (HG0.out.below hW HG0.out.lt))
  have hn1 := hg.n1
  obtain ⟨x0, x1, x2⟩ := sig_blk HG0.out
  clear hg hd hL
  obtain ⟨A0, c0, S, A1, c1, F, A2, c2, M⟩ := g
  unfold SigV.cells at *
  simp only at *
  go_enter Tryz.func63, Tryz.ntmps63
  go_upto_region 1 with fail
  generalize w.alloc (.cells #[.slice A0 S.length c0, .slice A1 F.length c1, .slice A2 M.length c2] 26) = w0 at *
  go_wp2_with fail
  refine KC.out.mono ?_
  rintro e w1 ⟨r, rfl, hlen, hb1⟩
  have HB1 := Lib.hid hb1
  have HBB := Lib.hid (HB0.out.trans (hb1.mono HB0.out.size))
  obtain ⟨z0, z1, z2⟩ := HX.out w1 hb1
  clear hb1 hlen x0 x1 x2 KC
  by_cases hr : r = 0
  rotate_left
  · have e1 : (r != 0) = true := bne_iff_ne.2 hr
    clear hr
    go_wp2
    refine bodyPost_ret (v := .tuple #[.int .i64 0, .int .i64 2]) (by simp [results, Tryz.results63, go_sem]) rfl (App06Is.no (by decide) HBB.out)
  have e1 : (r != 0) = false := by rw [hr]; rfl
  clear hr
  by_cases h1 : fn < 0
  · have e2 : decide (fn < 0) = true := decide_eq_true h1
    clear h1
    go_wp2
    refine bodyPost_ret (v := .tuple #[.int .i64 0, .int .i64 2]) (by simp [results, Tryz.results63, go_sem]) rfl (App06Is.no (by decide) HBB.out)
  have e2 : decide (fn < 0) = false := decide_eq_false h1
  obtain ⟨k, rfl⟩ : ∃ k : Nat, fn = k := ⟨fn.toNat, by omega⟩
  clear h1 e2
  have e2 : decide ((k : Int) < 0) = false := decide_eq_false (by omega)
  by_cases h2 : k < F.length
  rotate_left
  · have e3 : decide ((k : Int) ≥ (F.length : Int)) = true := decide_eq_true (by omega)
    have e3' : decide ((F.length : Int) ≤ (k : Int)) = true := decide_eq_true (by omega)
    have e3'' : decide (F.length ≤ k) = true := decide_eq_true (by omega)
    clear h2
    go_wp2
    refine bodyPost_ret (v := .tuple #[.int .i64 0, .int .i64 2]) (by simp [results, Tryz.results63, go_sem]) rfl (App06Is.no (by decide) HBB.out)
  have e3 : decide ((k : Int) ≥ (F.length : Int)) = false := decide_eq_false (by omega)
  have e3' : decide ((F.length : Int) ≤ (k : Int)) = false := decide_eq_false (by omega)
  have e3'' : decide (F.length ≤ k) = false := decide_eq_false (by omega)
  have t1 : (0 : Int) ≤ (k : Int) := by omega
  have t2 : (k : Int) < (F.length : Int) := by omega
  obtain ⟨b, off, hA, hb, hat⟩ := (H.out.below HB1.out).f k h2
  have HYes : Hid (∀ w', Below w.heap.size w w' → App06Is ⟨A0, c0, S, A1, c1, F, A2, c2, M⟩ (k : Int) w (.returned (.tuple #[.int .i64 F[k].res, .int .i64 0])) w') := Lib.hid (fun w' h => ⟨_, _, rfl, fun _ => ⟨k, h2, rfl, rfl⟩, h⟩)
  have HArg : Hid (∀ i, i < 3 → w1.cell? ⟨b, off + k * 6 + 2 + i, none⟩ = some (.int .i64 (F[k].arg i))) := Lib.hid (fun i hi => hat.argc hi)
  have f1 := hat.c1
  have f5 := hat.c5
  dsimp only at hA f1 f5 HArg HYes
  generalize F[k] = f at *
  obtain ⟨nm, len, a0, a1, a2, res⟩ := f
  simp only at f1 f5 HYes
  have HAq := Lib.hid hA
  rw [hA] at z1 HX
  have HNo : Hid (∀ r, r ≠ 0 → ∀ w', Below w.heap.size w w' → App06Is ⟨A0, c0, S, A1, c1, F, A2, c2, M⟩ (k : Int) w (.returned (.tuple #[.int .i64 0, .int .i64 r])) w') := Lib.hid (fun r hr w' h => App06Is.no hr h)
  clear hat hA hb h2
  by_cases h4 : (L.length : Int) = len
  rotate_left
  · have e4 : ((L.length : Int) != len) = true := bne_iff_ne.2 h4
    clear h4
    go_wp2
    refine bodyPost_ret (v := .tuple #[.int .i64 0, .int .i64 2]) (by simp [results, Tryz.results63, go_sem]) rfl (HNo.out 2 (by decide) _ HBB.out)
  subst h4
  have e4 : ((L.length : Int) != (L.length : Int)) = false := by simp
  go_wp2
  go_loopg [8] L.length (fun g v wr => ∃ (i q : Nat), i + g = L.length ∧ v = .int .i64 i ∧ wr = w1.drewN q)
  case atStart => exact ⟨0, 0, by omega, rfl, rfl⟩
  case round =>
    obtain ⟨i, q, hig, rfl, rfl⟩ := hrel
    cases gk with
    | zero =>
      obtain rfl : i = L.length := by omega
      have d1 : decide ((L.length : Int) < L.length) = false := by simp
      have HBq := Lib.hid (below_drewN HBB.out q)
      go_wp2
      refine bodyPost_ret (v := .tuple #[.int .i64 res, .int .i64 0]) (by simp [results, Tryz.results63, go_sem]) rfl (HYes.out _ HBq.out)
    | succ gk =>
      have hlt : i < L.length := by omega
      have d1 : decide ((i : Int) < L.length) = true := by simp; omega
      have u1 : (0 : Int) ≤ (i : Int) := by omega
      have u2 : (i : Int) < (L.length : Int) := by omega
      have u3 : (i : Int) < (3 : Int) := by omega
      obtain ⟨b2, off2, hA2, hb2, hc2⟩ := (HLr.out.below HB1.out).at_.resolve_left (by omega)
      have y0 := hc2 i hlt
      have y1 := HArg.out i (by omega)
      subst hA2
      have HBq := Lib.hid (below_drewN (below_drewN HBB.out q) 1)
      clear hc2
      generalize L[i] = x at *
      generalize FnM.arg ⟨nm, (L.length : Int), a0, a1, a2, res⟩ i = ai at *
      by_cases hx : x = ai
      · have e5 : (x != ai) = false := by rw [hx]; simp
        clear hx
        go_wp2
        go_quiet (fail)
        go_wp2
        go_roundg gk
        case measure => omega
        case rel => exact ⟨i + 1, _, by omega, by go_num, rfl⟩
      · have e5 : (x != ai) = true := bne_iff_ne.2 hx
        clear hx
        go_wp2
        go_quiet (fail)
        go_wp2
        refine bodyPost_ret (v := .tuple #[.int .i64 0, .int .i64 33]) (by simp [results, Tryz.results63, go_sem]) rfl (HNo.out 33 (by decide) _ (below_drewN (below_drewN HBB.out q) _))
structure RX (w : World) (B : Nat) (g : SigV) (A : Option Addr) (T : List Nd) (c : Nat) (n : Nd) (j : Nat) (sv : Value) (W : World) : Prop where
  sg : Blk W B 26 g.cells
  t : Blk W (B + 1) 33 #[.slice A T.length c]
  nd : Blk W (B + 2) 48 (nodeCells n).toArray
  hB : w.heap.size = B
  tab0 : Tab w A T
  own : W.ownsRow (B + 3) 3 1 sv j (((List.range n.len.toNat).take j).map fun k => Value.int .i64 (ndAt T (n.arg k)).sort)
  bel : Below B w W
theorem RX.push {w W W2 : World} {B : Nat} {g : SigV} {A : Option Addr} {T : List Nd} {c j : Nat} {n : Nd} {sv : Value} (h : RX w B g A T c n j sv W) (hj : j < n.len.toNat) {x : Int} (hx : (ndAt T (n.arg j)).sort = x) {q cap k : Nat}
    (ho : W2.ownsRow (B + 3) 3 1 (.slice (some ⟨q, 0, none⟩) (j + 1) cap) (j + 1) (((List.range n.len.toNat).take j).map (fun k => Value.int .i64 (ndAt T (n.arg k)).sort) ++ #[Value.int .i64 x].toList)) {cs : Obj} (hg : ((W.alloc cs).drewN k).grownBy W2 sv.ownBlock) : RX w B g A T c n (j + 1) (.slice (some ⟨q, 0, none⟩) (j + 1) cap) W2 := by
  have hk0 : Kept (fun b => some b = sv.ownBlock) W ((W.alloc cs).drewN k) := Kept.of_below (S := fun b => some b = sv.ownBlock) (below_drewN ((Below.refl _ W).alloc (Nat.le_refl _) _) k)
  have hk := hk0.grown hg (fun k e => .inl e.symm)
  have hob : ∀ b, some b = sv.ownBlock → B + 3 ≤ b := fun b e => (h.own.lt b e.symm).1
  have hsz := h.bel.size
  have hB := h.hB
  refine ⟨h.sg.kept hk (fun e => by have := hob _ e; omega), h.t.kept hk (fun e => by have := hob _ e; omega), h.nd.kept hk (fun e => by have := hob _ e; omega), h.hB, h.tab0, ?_, h.bel.trans (hk.below (by omega) (fun k e => by have := hob k e; omega))⟩
  rw [List.take_add_one, List.getElem?_range hj, List.map_append]
  simpa [hx] using ho
def RuleIs (g : SigV) (T : List Nd) (n : Nd) (w : World) (e : Ending) (w' : World) : Prop := ∃ s r, e = .returned (.tuple #[.int .i64 s, .int .i64 r]) ∧ (r = 0 → (n.op = 13 → ∃ (i : Nat) (h : i < g.funs.length), n.fn = i ∧ s = g.funs[i].res) ∧ (n.op ≠ 13 → opL n.op (argSorts T n) = some s)) ∧ Below w.heap.size w w'
set_option maxRecDepth 100000 in
set_option maxHeartbeats 8000000 in
theorem rule_ok {g : SigV} {T : List Nd} {w : World} {A : Option Addr} {n : Nd} (c : Nat) (hg : SigAt w g) (hd : SigDeep w g) (hT : TabOk T) (h : Tab w A T) (hn : n ∈ T) :
    Calls Tryz.prog 35 #[.agg g.cells, .agg #[.slice A T.length c], nodeVal n] w (RuleIs g T n w) := by
  have hlen := h.len
  obtain ⟨i0, hi0, hz0, hz1, hz2⟩ := info_parts int_info
  obtain ⟨at_, hat_, _, hst⟩ := hT.stands hn
  have HT := Lib.hid hT
  have H := Lib.hid h
  have HG := Lib.hid hg
  have HD := Lib.hid hd
  have HST := Lib.hid hst
  have HAt := Lib.hid hat_
  obtain ⟨w0, hw0⟩ : ∃ w0, ((w.alloc (.cells g.cells 26)).alloc (.cells #[.slice A T.length c] 33)).alloc (.cells #[.int .i8 n.op, .int .i8 n.len, .int .i64 n.a0, .int .i64 n.a1, .int .i64 n.a2, .int .i64 n.sort, .int .i64 n.fn, .int .i64 n.num] 48) = w0 := ⟨_, rfl⟩
  obtain ⟨B, hB⟩ : ∃ B, w.heap.size = B := ⟨_, rfl⟩
  have HR0 : Hid (RX w B g A T c n 0 (.slice none 0 0) w0) := Lib.hid (by
    rw [← hw0, ← hB]
    exact ⟨((Blk.new w _ _).alloc _).alloc _, (Blk.new_at (by simp) _ _).alloc _, Blk.new_at (by simp) _ _, rfl, h, World.ownsRow_nil _ _ _ _, (((Below.refl _ w).alloc (Nat.le_refl _) _).alloc (by simp) _).alloc (by simp; omega) _⟩)
  have HBs := Lib.hid hB
  have hl0 : 0 ≤ n.len ∧ n.len ≤ 3 := hst.len
  obtain ⟨ln, hln⟩ : ∃ ln : Nat, n.len = ln := ⟨n.len.toNat, by omega⟩
  have HLN := Lib.hid hln
  have hln3 : ln ≤ 3 := by omega
  have HGC : Hid (g.cells = #[.slice g.A0 g.sorts.length g.c0, .slice g.A1 g.funs.length g.c1, .slice g.A2 g.macs.length g.c2]) := Lib.hid rfl
  have HYes : Hid (∀ s r w', (r = 0 → (n.op = 13 → ∃ (i : Nat) (h : i < g.funs.length), n.fn = i ∧ s = g.funs[i].res) ∧ (n.op ≠ 13 → opL n.op (argSorts T n) = some s)) → Below B w w' → RuleIs g T n w (.returned (.tuple #[.int .i64 s, .int .i64 r])) w') := Lib.hid (fun s r w' h1 h2 => ⟨s, r, rfl, h1, by rw [hB]; exact h2⟩)
  rw [HGC.out] at hw0 ⊢
  have HW0 := Lib.hid hw0
  clear h hg hd hT hn hst hat_ hl0 hln hw0
  unfold nodeVal nodeCells
  go_enter Tryz.func35, Tryz.ntmps35
  go_upto_region 1 with fail
  rw [HW0.out]
  clear HW0 hB
  go_wp2
  go_loopg [9, 8] ln (fun gg v vs W => ∃ (j : Nat) (sv : Value), j + gg = ln ∧ v = .int .i64 j ∧ sv = vs ∧ RX w B g A T c n j sv W)
  case atStart => exact ⟨0, _, by omega, rfl, rfl, HR0.out⟩
  case round =>
    obtain ⟨j, sv, hjg, rfl, rfl, hx⟩ := hrel
    have HX := Lib.hid hx
    obtain ⟨m0, m1, m2, m3, m4, m6⟩ : wr.cell? ⟨B + 1 + 1, 0, none⟩ = some (.int .i8 n.op) ∧ wr.cell? ⟨B + 1 + 1, 1, none⟩ = some (.int .i8 n.len) ∧ wr.cell? ⟨B + 1 + 1, 2, none⟩ = some (.int .i64 n.a0) ∧ wr.cell? ⟨B + 1 + 1, 3, none⟩ = some (.int .i64 n.a1) ∧ wr.cell? ⟨B + 1 + 1, 4, none⟩ = some (.int .i64 n.a2) ∧ wr.cell? ⟨B + 1 + 1, 6, none⟩ = some (.int .i64 n.fn) := ⟨hx.nd.cell 0, hx.nd.cell 1, hx.nd.cell 2, hx.nd.cell 3, hx.nd.cell 4, hx.nd.cell 6⟩
    have s0 := hx.t.cell 0
    simp only [List.getElem?_toArray, List.getElem?_cons_zero] at s0
    obtain ⟨g0, g1, g2⟩ := sig_blk hx.sg
    rw [HLN.out] at m1
    have hw8 : IntKind.i64.wrap (ln : Int) = ln := by have : ln ≤ 3 := hln3; unfold IntKind.wrap; simp [IntKind.bits, IntKind.signed]; omega
    clear hx
    cases gk with
    | zero =>
      obtain rfl : j = ln := by omega
      have f1 : decide ((j : Int) < (j : Int)) = false := by simp
      obtain ⟨SA, sc, hsv⟩ := own_slice HX.out.own
      subst hsv
      have hlnN : n.len.toNat = j := by have := HLN.out; omega
      have hO : OwnL wr (B + 3) (.slice SA j sc) (argSorts T n) := by
        have := HX.out.own
        rw [List.take_of_length_le (by rw [List.length_range]; omega)] at this
        unfold OwnL argSorts
        rw [List.length_map, List.length_range, List.map_map, hlnN]
        rw [hlnN] at this
        exact this
      have hlA : (argSorts T n).length = j := by unfold argSorts; rw [List.length_map, List.length_range, hlnN]
      have HRow := Lib.hid (hO.rowS (by omega)).1
      have HlA := Lib.hid hlA
      have hbB : Below w.heap.size w wr := by rw [HBs.out]; exact HX.out.bel
      by_cases h13 : n.op = 13
      · have e1 : (n.op == 13) = true := beq_iff_eq.2 h13
        have KA := Lib.hid (app06_ok sc (HG.out.below hbB) (HD.out.below hbB) HRow.out (by rw [HlA.out]; exact hln3) n.fn)
        rw [hlA] at KA
        rw [HGC.out] at KA
        have H13 := Lib.hid h13
        clear hO hlA hlnN h13 hbB m2 m3 m4
        go_wp2_with fail
        refine KA.out.mono ?_
        rintro e w2 ⟨s, r, rfl, hyes, hb2⟩
        have HB2 : Hid (Below B w w2) := Lib.hid (HX.out.bel.trans (hb2.mono (by have := HX.out.bel.size; rw [HBs.out] at this; exact this)))
        have HYs := Lib.hid hyes
        clear hyes hb2
        by_cases hr : r = 0
        · have e2 : (r != 0) = false := by rw [hr]; rfl
          have HF := Lib.hid (HYs.out hr)
          clear hr
          go_wp2
          refine bodyPost_ret (v := .tuple #[.int .i64 s, .int .i64 0]) (by simp [results, Tryz.results35, go_sem]) rfl (HYes.out s 0 w2 (fun _ => ⟨fun _ => HF.out, fun e => absurd H13.out e⟩) HB2.out)
        · have e2 : (r != 0) = true := bne_iff_ne.2 hr
          clear hr
          go_wp2
          refine bodyPost_ret (v := .tuple #[.int .i64 0, .int .i64 33]) (by simp [results, Tryz.results35, go_sem]) rfl (HYes.out 0 33 w2 (fun e => absurd e (by decide)) HB2.out)
      · have e1 : (n.op == 13) = false := beq_eq_false_iff_ne.2 h13
        have H13 := Lib.hid h13
        have KO := op_ok (op := n.op) sc (by
          unfold Op12
          have h6 := H13.out
          rcases arity_ops HST.out with e | e | e | e | e | e | e | e | e | e | e | e | e | e
          all_goals first
            | exact absurd e h6
            | omega) HRow.out (fun x hx => by
          unfold argSorts at hx
          obtain ⟨k, hk, rfl⟩ := List.mem_map.1 hx
          have hk' := List.mem_range.1 hk
          have ha := HST.out.arg_lt k (by omega) (by have := HLN.out; omega)
          obtain ⟨_, _, _, hst⟩ := HT.out.stands (ndAt_mem (T := T) ha.1 (by have := HAt.out; omega))
          exact hst.srt.1)
        rw [hlA] at KO
        have KO := Lib.hid KO
        clear hO hlA hlnN h13 hbB m2 m3 m4
        go_wp2_with fail
        refine KO.out.mono ?_
        rintro e w2 ⟨s, er, rfl, hso, hno, hb2⟩
        have HB2 : Hid (Below B w w2) := Lib.hid (HX.out.bel.trans (hb2.mono (by have := HX.out.bel.size; rw [HBs.out] at this; exact this)))
        have HRes : Hid (er = 0 → opL n.op (argSorts T n) = some s) := Lib.hid (fun e => by
          cases ho : opL n.op (argSorts T n) with
          | none => exact absurd e (hno ho)
          | some q => rw [(hso q ho).1])
        clear hso hno hb2
        go_wp2
        refine bodyPost_ret (v := .tuple #[.int .i64 s, .int .i64 er]) (by simp [results, Tryz.results35, go_sem]) rfl (HYes.out s er w2 (fun e => ⟨fun h => absurd h H13.out, fun _ => HRes.out e⟩) HB2.out)
    | succ g2 =>
      have hjl : j < ln := by omega
      have f1 : decide ((j : Int) < (ln : Int)) = true := by simp; omega
      have hja : (j : Int) < n.len := by rw [HLN.out]; omega
      have hai := HST.out.arg_lt j (by omega) hja
      obtain ⟨k, hk⟩ : ∃ k : Nat, n.arg j = k := ⟨(n.arg j).toNat, by omega⟩
      have hkl : k < T.length := by have := HAt.out; omega
      have HK := Lib.hid hk
      obtain ⟨b2, off2, hA2, hgb, hgc⟩ := (H.out.below (by rw [HBs.out]; exact HX.out.bel)).at_.resolve_left (by omega)
      subst hA2
      obtain ⟨_, _, _, _, _, z5, _, _⟩ := (hgc k hkl).all
      have HND := Lib.hid (ndAt_nat (T := T) hkl)
      have k1 : (0 : Int) ≤ (k : Int) := by omega
      have k2 : (k : Int) < (T.length : Int) := by omega
      have hjN : j < n.len.toNat := by have := HLN.out; omega
      have HJN := Lib.hid hjN
      have HSZ := Lib.hid HX.out.nd.lt
      have z2 : wr.cell? ⟨B + 1 + 1, 2 + j, none⟩ = some (.int .i64 (k : Int)) := by
        rw [← hk]
        rcases (show j = 0 ∨ j = 1 ∨ j = 2 by omega) with rfl | rfl | rfl
        · exact m2
        · exact m3
        · exact m4
      have tk1 : (0 : Int) ≤ (j : Int) := by omega
      have tk2 : (j : Int) < (ln : Int) := by omega
      have tk3 : (j : Int) < 3 := by omega
      have tk4 : (2 : Int) + (j : Int) < 5 := by omega
      clear hgc hja hai hjN m2 m3 m4 m6 m0
      generalize T[k] = m at *
      have h1c : Hid (∀ u ∈ #[Value.int .i64 m.sort].toList, u.oneCell' = true) := Lib.hid (by simp [Value.oneCell'])
      go_wp2
      go_region_law (refine step_push _ rfl (.tmp 19) (.tmp 29) 27 rfl (B + 3) 3 i0 (.int .i64 0) 1 8 Tryz.underlying27 hi0 hz0 hz1 hz2 rfl (by decide) sv j _ rfl (own_drewN (HX.out.own.alloc _) _) wr.heap.size #[.int .i64 m.sort] rfl (Blk.new _ _ _) rfl h1c.out (by omega) (by omega) (by have := HSZ.out; omega) (fun g2' cap3 w2 hown1 hgrow hat hlt1 => ?_))
      all_goals
        have hp := HX.out.push HJN.out (x := m.sort) (by rw [HK.out, HND.out]) hown1 hgrow
        have HP := Lib.hid hp
        clear hp hown1 hgrow hat hlt1
      all_goals go_wp2
      all_goals
        go_roundg g2
        case measure => omega
        case rel => exact ⟨j + 1, _, by omega, by go_num, rfl, HP.out⟩
def RuleOk (g : SigV) (T : List Nd) (n : Nd) : Prop := (n.op = 13 → ∃ (i : Nat) (h : i < g.funs.length), n.fn = i ∧ n.sort = g.funs[i].res) ∧ (n.op ≠ 13 → opL n.op (argSorts T n) = some n.sort)
def TableIs (g : SigV) (T : List Nd) (w : World) (e : Ending) (w' : World) : Prop := ∃ r, e = .returned (.int .i64 r) ∧ (r = 0 → TabOk T ∧ ∀ n ∈ T, RuleOk g T n) ∧ Below w.heap.size w w'
theorem TableIs.no {g : SigV} {T : List Nd} {r : Int} {w w' : World} (hr : r ≠ 0) (h : Below w.heap.size w w') : TableIs g T w (.returned (.int .i64 r)) w' := ⟨r, rfl, fun e => absurd e hr, h⟩
set_option maxRecDepth 100000 in
set_option maxHeartbeats 8000000 in
theorem table06_ok {g : SigV} {T : List Nd} {w : World} {A : Option Addr} (c : Nat) (hg : SigAt w g) (hd : SigDeep w g) (h : Tab w A T) :
    Calls Tryz.prog 19 #[.agg g.cells, .agg #[.slice A T.length c]] w (TableIs g T w) := by
  have hlen := h.len
  obtain ⟨w0, hw0⟩ : ∃ w0, (w.alloc (.cells g.cells 26)).alloc (.cells #[.slice A T.length c] 33) = w0 := ⟨_, rfl⟩
  have HB0 : Hid (Below w.heap.size w w0) := Lib.hid (by rw [← hw0]; exact (sig_box w g).alloc (sig_box w g).size _)
  have HG0 : Hid (Blk w0 w.heap.size 26 g.cells) := Lib.hid (by rw [← hw0]; exact (Blk.new w 26 g.cells).alloc _)
  have HT0 : Hid (Blk w0 (w.heap.size + 1) 33 #[.slice A T.length c]) := Lib.hid (by rw [← hw0]; exact Blk.new_at (by simp) _ _)
  have HX : Hid (∀ W, Below w0.heap.size w0 W → (W.cell? ⟨w.heap.size, 0, none⟩ = some (.slice g.A0 g.sorts.length g.c0) ∧ W.cell? ⟨w.heap.size, 1, none⟩ = some (.slice g.A1 g.funs.length g.c1) ∧ W.cell? ⟨w.heap.size, 2, none⟩ = some (.slice g.A2 g.macs.length g.c2)) ∧ W.cell? ⟨w.heap.size + 1, 0, none⟩ = some (.slice A T.length c)) := Lib.hid (fun W hW => ⟨sig_blk (HG0.out.below hW HG0.out.lt), (HT0.out.below hW HT0.out.lt).cell 0⟩)
  have HTab := Lib.hid (h.below HB0.out)
  have HSg := Lib.hid (hg.below HB0.out)
  have HSd := Lib.hid (hd.below HB0.out)
  have KC := Lib.hid (lcheck_ok HSg.out HSd.out)
  have KT := Lib.hid (fun W (hW : Below w0.heap.size w0 W) => rcheck_ok c (HTab.out.below hW))
  have KR := Lib.hid (fun W (hW : Below w0.heap.size w0 W) (hT : TabOk T) (n : Nd) (hn : n ∈ T) => rule_ok c (HSg.out.below hW) (HSd.out.below hW) hT (HTab.out.below hW) hn)
  have HGC : Hid (g.cells = #[.slice g.A0 g.sorts.length g.c0, .slice g.A1 g.funs.length g.c1, .slice g.A2 g.macs.length g.c2]) := Lib.hid rfl
  obtain ⟨⟨x0, x1, x2⟩, x3⟩ := HX.out w0 (Below.refl _ _)
  rw [HGC.out] at hw0 KC KR ⊢
  have HW0 := Lib.hid hw0
  clear hw0 HG0 HT0 hg hd h
  go_enter Tryz.func19, Tryz.ntmps19
  go_upto_region 1 with fail
  rw [HW0.out]
  clear HW0
  go_wp2_with fail
  refine KC.out.mono ?_
  rintro e w1 ⟨r, rfl, hlen2, hb1⟩
  have HB1 := Lib.hid hb1
  obtain ⟨⟨y0, y1, y2⟩, y3⟩ := HX.out w1 hb1
  clear hb1 hlen2 x0 x1 x2 x3 KC
  by_cases hr : r = 0
  rotate_left
  · have e1 : (r != 0) = true := bne_iff_ne.2 hr
    clear hr
    go_wp2
    go_ret
    exact TableIs.no (by decide) (HB0.out.trans (HB1.out.mono HB0.out.size))
  have e1 : (r != 0) = false := by rw [hr]; rfl
  clear hr
  go_wp2_with fail
  refine (KT.out _ HB1.out).mono ?_
  rintro e w2 ⟨rt, rfl, hrt, hb2⟩
  have HB2 := Lib.hid (HB1.out.trans (hb2.mono HB1.out.size))
  have HRt := Lib.hid hrt
  obtain ⟨⟨x0, x1, x2⟩, x3⟩ := HX.out w2 HB2.out
  clear hb2 hrt y0 y1 y2 y3
  cases rt with
  | false =>
    go_wp2
    go_ret
    exact TableIs.no (by decide) (HB0.out.trans (HB2.out.mono HB0.out.size))
  | true =>
    have HTOk : Hid (TabOk T) := Lib.hid (HRt.out.1 rfl)
    go_wp2
    clear x0 x1 x2 x3
    go_loopg [5] T.length (fun g' v wr => ∃ i : Nat, i + g' = T.length ∧ v = .int .i64 i ∧ (∀ n ∈ T.take i, RuleOk g T n) ∧ Below w0.heap.size w0 wr)
    case atStart => exact ⟨0, by omega, rfl, fun n hn => (by rw [List.take_zero] at hn; cases hn), HB2.out⟩
    case round =>
      obtain ⟨i, hig, rfl, hall, hb⟩ := hrel
      have HB := Lib.hid hb
      have HA := Lib.hid hall
      obtain ⟨⟨x0, x1, x2⟩, x3⟩ := HX.out wr hb
      clear hb hall
      cases gk with
      | zero =>
        obtain rfl : i = T.length := by omega
        have d1 : decide ((T.length : Int) < T.length) = false := by simp
        go_wp2
        go_ret
        exact ⟨0, rfl, fun _ => ⟨HTOk.out, fun n hn => HA.out n (by rw [List.take_length]; exact hn)⟩, HB0.out.trans (HB.out.mono HB0.out.size)⟩
      | succ gk =>
        have hlt : i < T.length := by omega
        have d1 : decide ((i : Int) < T.length) = true := by simp; omega
        have t1 : (0 : Int) ≤ (i : Int) := by omega
        have t2 : (i : Int) < (T.length : Int) := by omega
        obtain ⟨b, off, hA, hbb, hcell⟩ := HTab.out.at_.resolve_left (by omega)
        have HD1 := Lib.hid (HB.out.trans ((below_drewN (Below.refl wr.heap.size wr) 1).mono HB.out.size))
        have HNext : Hid (RuleOk g T T[i] → ∀ n ∈ T.take (i + 1), RuleOk g T n) := Lib.hid (fun e n hn => by
          rw [List.take_add_one, List.getElem?_eq_getElem hlt] at hn
          rcases List.mem_append.1 hn with hn | hn
          · exact HA.out n hn
          · simp at hn
            rw [hn]
            exact e)
        have KX := Lib.hid (KR.out wr.drew HD1.out HTOk.out T[i] (List.getElem_mem hlt))
        have hcs := (hcell i hlt).all
        have HFx : Hid (∀ W, Below w0.heap.size w0 W → ((W.cell? ⟨w.heap.size, 0, none⟩ = some (.slice g.A0 g.sorts.length g.c0) ∧ W.cell? ⟨w.heap.size, 1, none⟩ = some (.slice g.A1 g.funs.length g.c1) ∧ W.cell? ⟨w.heap.size, 2, none⟩ = some (.slice g.A2 g.macs.length g.c2)) ∧ W.cell? ⟨w.heap.size + 1, 0, none⟩ = some (.slice (some ⟨b, off, none⟩) T.length c)) ∧ W.cell? ⟨b, off + i * 8, none⟩ = some (.int .i8 T[i].op) ∧ W.cell? ⟨b, off + i * 8 + 1, none⟩ = some (.int .i8 T[i].len) ∧ W.cell? ⟨b, off + i * 8 + 2, none⟩ = some (.int .i64 T[i].a0) ∧ W.cell? ⟨b, off + i * 8 + 3, none⟩ = some (.int .i64 T[i].a1) ∧ W.cell? ⟨b, off + i * 8 + 4, none⟩ = some (.int .i64 T[i].a2) ∧ W.cell? ⟨b, off + i * 8 + 5, none⟩ = some (.int .i64 T[i].sort) ∧ W.cell? ⟨b, off + i * 8 + 6, none⟩ = some (.int .i64 T[i].fn) ∧ W.cell? ⟨b, off + i * 8 + 7, none⟩ = some (.int .i64 T[i].num)) := Lib.hid (fun W hW => by
          obtain ⟨k0, k1, k2, k3, k4, k5, k6, k7⟩ := hcs
          exact ⟨by rw [← hA]; exact HX.out W hW, (hW.cell (p := ⟨b, off + i * 8, none⟩) hbb).trans k0, (hW.cell (p := ⟨b, off + i * 8 + 1, none⟩) hbb).trans k1, (hW.cell (p := ⟨b, off + i * 8 + 2, none⟩) hbb).trans k2, (hW.cell (p := ⟨b, off + i * 8 + 3, none⟩) hbb).trans k3, (hW.cell (p := ⟨b, off + i * 8 + 4, none⟩) hbb).trans k4, (hW.cell (p := ⟨b, off + i * 8 + 5, none⟩) hbb).trans k5, (hW.cell (p := ⟨b, off + i * 8 + 6, none⟩) hbb).trans k6, (hW.cell (p := ⟨b, off + i * 8 + 7, none⟩) hbb).trans k7⟩)
        subst hA
        unfold nodeVal nodeCells at KX
        generalize T[i] = n at *
        obtain ⟨⟨⟨x0, x1, x2⟩, x3⟩, k0, k1, k2, k3, k4, k5, k6, k7⟩ := HFx.out wr.drew HD1.out
        clear hcell hcs hbb
        go_upto_region 6 with fail
        go_region_held3 (fun w' => w'.cell? ⟨w.heap.size, 0, none⟩ = some (.slice g.A0 g.sorts.length g.c0) ∧ w'.cell? ⟨w.heap.size, 1, none⟩ = some (.slice g.A1 g.funs.length g.c1) ∧ w'.cell? ⟨w.heap.size, 2, none⟩ = some (.slice g.A2 g.macs.length g.c2) ∧ w'.cell? ⟨w.heap.size + 1, 0, none⟩ = some (.slice (some ⟨b, off, none⟩) T.length c) ∧ w'.cell? ⟨b, off + i * 8, none⟩ = some (.int .i8 n.op) ∧ w'.cell? ⟨b, off + i * 8 + 1, none⟩ = some (.int .i8 n.len) ∧ w'.cell? ⟨b, off + i * 8 + 2, none⟩ = some (.int .i64 n.a0) ∧ w'.cell? ⟨b, off + i * 8 + 3, none⟩ = some (.int .i64 n.a1) ∧ w'.cell? ⟨b, off + i * 8 + 4, none⟩ = some (.int .i64 n.a2) ∧ w'.cell? ⟨b, off + i * 8 + 5, none⟩ = some (.int .i64 n.sort) ∧ w'.cell? ⟨b, off + i * 8 + 6, none⟩ = some (.int .i64 n.fn) ∧ w'.cell? ⟨b, off + i * 8 + 7, none⟩ = some (.int .i64 n.num)) (go_keep) ((go_at_call 35; refine KX.out.mono ?_; rintro e w3 ⟨s, er, rfl, hs, hb3⟩; have HB3 := Lib.hid (HD1.out.trans (hb3.mono HD1.out.size)); have HS := Lib.hid hs; obtain ⟨⟨⟨y0, y1, y2⟩, y3⟩, z0, z1, z2, z3, z4, z5, z6, z7⟩ := HFx.out w3 HB3.out; clear hs hb3 x0 x1 x2 x3 k0 k1 k2 k3 k4 k5 k6 k7))
        by_cases he : er = 0
        rotate_left
        · have e2 : (er != 0) = true := bne_iff_ne.2 he
          clear he
          go_wp2
          go_ret
          exact TableIs.no (by decide) (HB0.out.trans (HB3.out.mono HB0.out.size))
        have e2 : (er != 0) = false := by rw [he]; rfl
        have HE := Lib.hid (HS.out he)
        clear he
        by_cases hs : s = n.sort
        rotate_left
        · have e3 : (s != n.sort) = true := bne_iff_ne.2 hs
          clear hs
          go_wp2
          go_ret
          exact TableIs.no (by decide) (HB0.out.trans (HB3.out.mono HB0.out.size))
        have e3 : (s != n.sort) = false := by rw [hs]; simp
        have HN := Lib.hid (HNext.out (by have h := HE.out; rw [hs] at h; exact h))
        clear hs
        go_wp2
        go_roundg gk
        case measure => omega
        case rel => exact ⟨i + 1, by omega, by go_num, HN.out, HB3.out⟩
end Go.Proofs.YtkapbdjobfbhhaaGreat

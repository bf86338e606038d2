/- gantryref12.walk: a node's image is put, its arguments' ahead. -/
import Derived.Test.YtlipnnibagidiaaGreatWaA
namespace Go.Proofs.YtlipnnibagidiaaGreat
open Go.RowKit Go.Lib
theorem Keeps.set2 {I I1 : List Int} (h : Keeps I I1) {k : Nat} (x : Int) (hn : ∀ y, I[k]? = some y → y < 0) : Keeps I (I1.set k x) := by
  refine ⟨by rw [List.length_set]; exact h.len, fun i y e h0 => ?_⟩
  rw [List.getElem?_set]
  by_cases hik : k = i
  · subst hik
    have := hn y e
    omega
  · rw [if_neg hik]
    exact h.at_ i y e h0
structure WX (w : World) (wk g ic : Nat) (A : Option Addr) (T : List Nd) (c : Nat) (CA : Option Addr) (C : List Nd) (I : List Int) (most : Int) (n : Nd) (j : Nat) (sv : Value) (V : List Int) (CA1 : Option Addr) (C1 : List Nd) (cc1 : Nat) (I1 : List Int) (W : World) : Prop where
  ws : WS W wk g ic A T CA1 C1 cc1 I1 most
  ext : Ext C C1
  keeps : Keeps I I1
  len : V.length = j
  args : ArgImgs n I1 V
  t : Blk W w.heap.size 33 #[.slice A T.length c]
  nd : Blk W (w.heap.size + 1) 51 (nodeCells n).toArray
  own : OwnL W (w.heap.size + 2) sv V
  kept : Kept (WkG wk g) w W
  fr : Fr CA C w CA1
  cown : ∀ b, CA1 = some b → 0 < C1.length → some b.block ≠ sv.ownBlock
  low : wk < w.heap.size ∧ g < w.heap.size ∧ ∀ b, A = some b → 0 < T.length → b.block < w.heap.size
section
variable {w W W2 : World} {wk g ic : Nat} {A : Option Addr} {T : List Nd} {c : Nat} {CA : Option Addr} {C : List Nd} {I : List Int} {most : Int} {n : Nd} {j : Nat} {sv : Value} {V : List Int} {CA1 : Option Addr} {C1 : List Nd} {cc1 : Nat} {I1 : List Int}
theorem WX.walked {CA2 : Option Addr} {C2 : List Nd} {cc2 : Nat} {I2 : List Int} {a : Nat} (h : WX w wk g ic A T c CA C I most n j sv V CA1 C1 cc1 I1 W) (hk : Kept (WkG wk g) W.drew W2) (ho : WkOut wk g ic A T CA1 C1 I1 most a W.drew W2 CA2 C2 cc2 I2) : WX w wk g ic A T c CA C I most n j sv V CA2 C2 cc2 I2 W2 := by
  have h0 : Kept (WkG wk g) W W2 := ⟨hk.os, hk.tape, hk.output, hk.size, hk.block⟩
  have hl := h.low
  have hb : ∀ b, WkG wk g b → b < w.heap.size := fun b e => by rcases e with rfl | rfl <;> omega
  refine ⟨ho.ws, h.ext.trans ho.ext, h.keeps.trans ho.keeps, h.len, h.args.keeps ho.keeps, h.t.kept h0 (fun e => by have := hb _ e; omega), h.nd.kept h0 (fun e => by have := hb _ e; omega), own_kept h.own h0 (fun b e hb' => by have := hb _ hb'; have := (h.own.lt b e).1; omega), h.kept.trans h0, fun b e => ?_, fun b e h0 e2 => ?_, h.low⟩
  · rcases ho.fr b e with ⟨e1, _⟩ | h1
    · exact h.fr b e1
    · exact .inr (Nat.le_trans h.kept.size h1)
  · rcases ho.fr b e with ⟨e1, h1⟩ | h1
    · exact h.cown b e1 h1 e2
    · have := (h.own.lt b.block e2.symm).2
      have h1' : W.heap.size ≤ b.block := h1
      omega
theorem WX.cells (h : WX w wk g ic A T c CA C I most n j sv V CA1 C1 cc1 I1 W) (hk : Kept (WkG wk g) W.drew W2) : W2.cell? ⟨w.heap.size, 0, none⟩ = some (.slice A T.length c) ∧ ∀ i, W2.cell? ⟨w.heap.size + 1, i, none⟩ = (nodeCells n).toArray[i]? := by
  have h0 : Kept (WkG wk g) W W2 := ⟨hk.os, hk.tape, hk.output, hk.size, hk.block⟩
  have hl := h.low
  have hb : ∀ b, WkG wk g b → b < w.heap.size := fun b e => by rcases e with rfl | rfl <;> omega
  exact ⟨(h.t.kept h0 (fun e => by have := hb _ e; omega)).cell 0, fun i => (h.nd.kept h0 (fun e => by have := hb _ e; omega)).cell i⟩
theorem WX.cells9 (h : WX w wk g ic A T c CA C I most n j sv V CA1 C1 cc1 I1 W) (hb : Below W.heap.size W W2) : W2.cell? ⟨wk, 0, none⟩ = some (.slice CA1 C1.length cc1) ∧ W2.cell? ⟨w.heap.size + 1, 0, none⟩ = some (.int .i8 n.op) ∧ W2.cell? ⟨w.heap.size + 1, 1, none⟩ = some (.int .i8 n.len) ∧ W2.cell? ⟨w.heap.size + 1, 2, none⟩ = some (.int .i64 n.a0) ∧ W2.cell? ⟨w.heap.size + 1, 3, none⟩ = some (.int .i64 n.a1) ∧ W2.cell? ⟨w.heap.size + 1, 4, none⟩ = some (.int .i64 n.a2) ∧ W2.cell? ⟨w.heap.size + 1, 5, none⟩ = some (.int .i64 n.sort) ∧ W2.cell? ⟨w.heap.size + 1, 6, none⟩ = some (.int .i64 n.fn) ∧ W2.cell? ⟨w.heap.size + 1, 7, none⟩ = some (.int .i64 n.num) := by
  have hn := h.nd.below hb h.nd.lt
  exact ⟨(h.ws.below hb).blk.cell 0, hn.cell 0, hn.cell 1, hn.cell 2, hn.cell 3, hn.cell 4, hn.cell 5, hn.cell 6, hn.cell 7⟩
theorem WX.push (h : WX w wk g ic A T c CA C I most n j sv V CA1 C1 cc1 I1 W) {x : Int} (h0 : 0 ≤ x) (h1 : 0 ≤ n.arg j) (h2 : I1[(n.arg j).toNat]? = some x) {q cap k : Nat} (ho : W2.ownsRow (w.heap.size + 2) 3 1 (.slice (some ⟨q, 0, none⟩) (j + 1) cap) (j + 1) (V.map (Value.int .i64) ++ #[Value.int .i64 x].toList)) {cs : Obj} (hg : ((W.alloc cs).drewN k).grownBy W2 sv.ownBlock) (hat : sv.ownBlock = some q ∨ q = ((W.alloc cs).drewN k).heap.size) :
    WX w wk g ic A T c CA C I most n (j + 1) (.slice (some ⟨q, 0, none⟩) (j + 1) cap) (V ++ [x]) CA1 C1 cc1 I1 W2 := by
  have hk0 : Kept (fun b => some b = sv.ownBlock) W ((W.alloc cs).drewN k) := Kept.of_below (S := fun b => some b = sv.ownBlock) (below_drewN ((Below.refl _ W).alloc (Nat.le_refl _) _) k)
  have hk := hk0.grown hg (fun k e => .inl e.symm)
  have hob : ∀ b, some b = sv.ownBlock → w.heap.size + 2 ≤ b := fun b e => (h.own.lt b e.symm).1
  have hlen := h.len
  have hl := h.low
  have hsz : ((W.alloc cs).drewN k).heap.size = W.heap.size + 1 := by
    show (W.alloc cs).heap.size = _
    simp
  refine ⟨h.ws.kept hk (fun e => by have := hob _ e; omega) (fun e => by have := hob _ e; omega) (fun b e h0 e2 => by have := hob _ e2; have := hl.2.2 b e h0; omega) (fun b e h0 e2 => h.cown b e h0 e2), h.ext, h.keeps, by rw [List.length_append, hlen]; rfl, ?_, h.t.kept hk (fun e => by have := hob _ e; omega), h.nd.kept hk (fun e => by have := hob _ e; omega), ?_, ?_, h.fr, fun b e h0 e2 => ?_, h.low⟩
  · exact h.args.push h0 (by rw [hlen]; exact h1) (by rw [hlen]; exact h2)
  · unfold OwnL
    rw [List.length_append, hlen, List.map_append]
    exact ho
  · exact h.kept.then_ hk (fun i hi e => by have := hob i e; omega)
  · injection e2 with e2
    rcases hat with ha | ha
    · exact h.cown b e h0 (by rw [ha]; exact congrArg some e2)
    · have h3 : b.block < W.heap.size := Tab.lt (e ▸ h.ws.ctab) h0
      have e3 : b.block = q := e2
      omega
end
set_option maxRecDepth 100000 in
set_option maxHeartbeats 8000000 in
theorem walk_ok {T : List Nd} (hT : TabOk T) (hf : fitT T) (hl : T.length ≤ 100000) {A : Option Addr} (c : Nat) (most : Int) (hm : most < 50000) : ∀ (id : Nat), id < T.length → ∀ (w : World) (wk g ic : Nat) (CA : Option Addr) (C : List Nd) (cc : Nat) (I : List Int), WS w wk g ic A T CA C cc I most →
    Calls Tryz.prog 43 #[.pointer (some ⟨wk, 0, none⟩), .agg #[.slice A T.length c], .int .i64 (id : Nat), .int .i64 most] w (WalkIs wk g ic A T CA C I most id w) := by
  obtain ⟨i0, hi0, hz0, hz1, hz2⟩ := info_parts int_info
  intro id
  induction id using Nat.strongRecOn with
  | ind id ih =>
  intro hid w wk g ic CA C cc I h
  have HT := zzh hT
  have HFt := zzh hf
  have IH := zzh ih
  have H := zzh h
  have HM := zzh hm
  have HLen := zzh hl
  have hiI : id < I.length := by rw [h.img.len]; exact hid
  have hHL := zzh h.lt
  have HAL : Hid (∀ b, A = some b → 0 < T.length → b.block < w.heap.size) := zzh (fun b e h0 => Tab.lt (e ▸ h.tab) h0)
  have HB1 : Hid (Below w.heap.size w (w.alloc (.cells #[.slice A T.length c] 33))) := zzh ((Below.refl _ w).alloc (Nat.le_refl _) _)
  have HBT := zzh (Blk.new w 33 #[.slice A T.length c])
  have H1 := zzh (h.below HB1.out)
  have a1 := H1.out.blk.cell 1
  have i1 := H1.out.cell hiI
  simp only [zzg, zzi, zzj] at a1
  have t1 : (0 : Int) ≤ (id : Int) := by omega
  have t2 : (id : Int) < (T.length : Int) := by omega
  clear h hf hT ih hl hm
  obtain ⟨x0, hx0⟩ : ∃ x0, I[id] = x0 := ⟨_, rfl⟩
  have HX0 : Hid (I[id]? = some x0) := zzh (by rw [List.getElem?_eq_getElem hiI, hx0])
  rw [hx0] at i1
  clear hx0 hiI
  go_enter Tryz.func43, Tryz.ntmps43
  by_cases h0 : 0 ≤ x0
  · have d1 : decide (x0 ≥ 0) = true := by simp; omega
    have d1' : decide (0 ≤ x0) = true := by simp; omega
    have HX1 := zzh h0
    clear h0
    go_wp2
    go_ret
    exact ⟨0, rfl, fun _ => ⟨CA, C, cc, I, H1.out, .refl H.out.well, .refl I, ⟨x0, HX0.out, HX1.out⟩, fun b e => .inl ⟨e, H.out.pos⟩⟩, Kept.of_below HB1.out⟩
  have d1 : decide (x0 ≥ 0) = false := by simp; omega
  have d1' : decide (0 ≤ x0) = false := by simp; omega
  have HX1 := zzh h0
  clear h0
  have HST := zzh (HT.out.st id T[id] (List.getElem?_eq_getElem hid))
  have HMem : Hid (T[id] ∈ T) := zzh (List.getElem_mem hid)
  have HWf := zzh (H.out.tab.wfs T[id] HMem.out)
  have HND : Hid (ndAt T (id : Nat) = T[id]) := zzh (ndAt_nat hid)
  obtain ⟨b, off, hA, hbb, hcell⟩ := H1.out.tab.at_.resolve_left (by omega)
  obtain ⟨y0, y1, y2, y3, y4, y5, y6, y7⟩ := (hcell id hid).all
  have HID := zzh hid
  subst hA
  clear hcell
  generalize T[id] = n at *
  have hbN : Below w.heap.size w ((w.alloc (.cells #[.slice (some ⟨b, off, none⟩) T.length c] 33)).alloc (.cells #[.int .i8 n.op, .int .i8 n.len, .int .i64 n.a0, .int .i64 n.a1, .int .i64 n.a2, .int .i64 n.sort, .int .i64 n.fn, .int .i64 n.num] 51)) := HB1.out.alloc (by simp) _
  obtain ⟨ln, hln⟩ : ∃ ln : Nat, n.len = ln := ⟨n.len.toNat, by have := HST.out.len; omega⟩
  have HLN := zzh hln
  have hln3 : ln ≤ 3 := by have := HST.out.len; omega
  have hX0 : WX w wk g ic (some ⟨b, off, none⟩) T c CA C I most n 0 (.slice none 0 0) [] CA C cc I ((w.alloc (.cells #[.slice (some ⟨b, off, none⟩) T.length c] 33)).alloc (.cells #[.int .i8 n.op, .int .i8 n.len, .int .i64 n.a0, .int .i64 n.a1, .int .i64 n.a2, .int .i64 n.sort, .int .i64 n.fn, .int .i64 n.num] 51)) :=
    ⟨H.out.below hbN, .refl H.out.well, .refl I, rfl, .nil _ _, HBT.out.alloc _, Blk.new_at (by simp) _ _, World.ownsRow_nil _ _ _ _, Kept.of_below hbN, fun b e => .inl ⟨e, H.out.pos⟩, fun b e h0 e2 => (by cases e2), hHL.out.1, hHL.out.2, HAL.out⟩
  have HX := zzh hX0
  clear hX0 hbN hln
  have hw8 : IntKind.i64.wrap n.len = n.len := by have := HST.out.len; unfold IntKind.wrap; simp [IntKind.bits, IntKind.signed]; omega
  have HW8 := zzh hw8
  clear hw8
  go_wp2
  go_loopg [11, 10] ln (fun gg v vs W => ∃ (j : Nat) (sv : Value) (V : List Int) (CA1 : Option Addr) (C1 : List Nd) (cc1 : Nat) (I1 : List Int), j + gg = ln ∧ v = .int .i64 j ∧ sv = vs ∧ WX w wk g ic (some ⟨b, off, none⟩) T c CA C I most n j sv V CA1 C1 cc1 I1 W)
  case atStart => exact ⟨0, _, _, _, _, _, _, by omega, rfl, rfl, HX.out⟩
  case round =>
    obtain ⟨j, sv, V, CA1, C1, cc1, I1, hjg, rfl, rfl, hx⟩ := hrel
    clear HX a1 i1 y0 y1 y2 y3 y4 y5 y6 y7
    have HX := zzh hx
    have s0 : wr.cell? ⟨w.heap.size, 0, none⟩ = some (.slice (some ⟨b, off, none⟩) T.length c) := hx.t.cell 0
    obtain ⟨m0, m1, m2, m3, m4, m5, m6, m7⟩ : wr.cell? ⟨w.heap.size + 1, 0, none⟩ = some (.int .i8 n.op) ∧ wr.cell? ⟨w.heap.size + 1, 1, none⟩ = some (.int .i8 n.len) ∧ wr.cell? ⟨w.heap.size + 1, 2, none⟩ = some (.int .i64 n.a0) ∧ wr.cell? ⟨w.heap.size + 1, 3, none⟩ = some (.int .i64 n.a1) ∧ wr.cell? ⟨w.heap.size + 1, 4, none⟩ = some (.int .i64 n.a2) ∧ wr.cell? ⟨w.heap.size + 1, 5, none⟩ = some (.int .i64 n.sort) ∧ wr.cell? ⟨w.heap.size + 1, 6, none⟩ = some (.int .i64 n.fn) ∧ wr.cell? ⟨w.heap.size + 1, 7, none⟩ = some (.int .i64 n.num) := ⟨hx.nd.cell 0, hx.nd.cell 1, hx.nd.cell 2, hx.nd.cell 3, hx.nd.cell 4, hx.nd.cell 5, hx.nd.cell 6, hx.nd.cell 7⟩
    have k0 : wr.cell? ⟨wk, 0, none⟩ = some (.slice CA1 C1.length cc1) := hx.ws.blk.cell 0
    have hw8 := HW8.out
    clear hx
    cases gk with
    | zero =>
      obtain rfl : j = ln := by omega
      have f1 : decide ((j : Int) < n.len) = false := by rw [HLN.out]; simp
      obtain ⟨SA, sc, hsv⟩ := own_slice HX.out.own
      subst hsv
      have hvl := HX.out.len
      have HRow := zzh ((HX.out.own).row (by omega)).1
      have HAO := zzh (args_ok HFt.out HX.out.ws.img HMem.out HST.out HWf.out (by rw [hvl, HLN.out]) HX.out.args)
      have KI : Hid (∀ W, Below wr.heap.size wr W → Calls Tryz.prog 74 #[.agg #[.slice CA1 C1.length cc1], .agg #[.int .i8 n.op, .int .i8 n.len, .int .i64 n.a0, .int .i64 n.a1, .int .i64 n.a2, .int .i64 n.sort, .int .i64 n.fn, .int .i64 n.num], .slice SA V.length sc, .int .i64 most] W (OutT CA1 C1 (ImgQ C1 most n.sort) W)) :=
        zzh (fun W hW => cimage_ok cc1 sc most HX.out.ws.well HX.out.ws.ite (HRow.out.below hW) HAO.out HX.out.ws.cap (HX.out.ws.ctab.below hW) (by have := HX.out.ws.most_; have := HM.out; omega) HM.out)
      have X1 : Hid (Below wr.heap.size wr wr.drew) := zzh (below_drewN (Below.refl _ wr) 1)
      have X2 : Hid (Below wr.heap.size wr (wr.alloc (.cells #[.slice none 0 0] 33)).drew) := zzh (below_drewN ((Below.refl _ wr).alloc (Nat.le_refl _) _) 1)
      have HIt : Hid (id < I1.length) := zzh (by rw [HX.out.ws.img.len]; exact HID.out)
      clear hvl s0
      go_upto_region 12 with (fail)
      go_region_held3 (fun w' => w'.cell? ⟨wk, 0, none⟩ = some (.slice CA1 C1.length cc1) ∧ w'.cell? ⟨w.heap.size + 1, 0, none⟩ = some (.int .i8 n.op) ∧ w'.cell? ⟨w.heap.size + 1, 1, none⟩ = some (.int .i8 n.len) ∧ w'.cell? ⟨w.heap.size + 1, 2, none⟩ = some (.int .i64 n.a0) ∧ w'.cell? ⟨w.heap.size + 1, 3, none⟩ = some (.int .i64 n.a1) ∧ w'.cell? ⟨w.heap.size + 1, 4, none⟩ = some (.int .i64 n.a2) ∧ w'.cell? ⟨w.heap.size + 1, 5, none⟩ = some (.int .i64 n.sort) ∧ w'.cell? ⟨w.heap.size + 1, 6, none⟩ = some (.int .i64 n.fn) ∧ w'.cell? ⟨w.heap.size + 1, 7, none⟩ = some (.int .i64 n.num)) (go_keep) (first
        | (go_at_call 74; refine (KI.out _ X1.out).mono ?_; rintro e w2 ⟨CA2, c2, C2, x, er, rfl, ht, hc2, hf, hq, hb⟩; have HT2 := zzh ht; have HC2 := zzh hc2; have HF2 := zzh hf; have HQ2 := zzh hq; have HB2 := zzh (X1.out.trans (hb.mono X1.out.size)); obtain ⟨b0, b1, b2, b3, b4, b5, b6, b7, b8⟩ := HX.out.cells9 HB2.out; clear ht hc2 hf hq hb)
        | (go_at_call 74; refine (KI.out _ X2.out).mono ?_; rintro e w2 ⟨CA2, c2, C2, x, er, rfl, ht, hc2, hf, hq, hb⟩; have HT2 := zzh ht; have HC2 := zzh hc2; have HF2 := zzh hf; have HQ2 := zzh hq; have HB2 := zzh (X2.out.trans (hb.mono X2.out.size)); obtain ⟨b0, b1, b2, b3, b4, b5, b6, b7, b8⟩ := HX.out.cells9 HB2.out; have hx := (show Blk (wr.alloc (.cells #[.slice none 0 0] 33)).drew wr.heap.size 33 #[.slice none 0 0] from Blk.new wr _ _).below hb (by simp); have HXN := zzh hx; have cx := hx.cell 0; have fx := hx.frozen 0; simp only [zzg, zzi] at cx; obtain ⟨d0, d1, d2, d3, d4, d5, d6, d7, d8⟩ := HX.out.cells9 (HB2.out.setCell (p := ⟨wr.heap.size, 0, none⟩) (Nat.le_refl _) (.slice CA2 C2.length c2)); clear hx; clear ht hc2 hf hq hb))
      have HBf : Hid (Below wr.heap.size wr (w2.alloc (.cells #[.slice CA2 C2.length c2] 33))) := zzh (HB2.out.alloc HB2.out.size _)
      have HTf : Hid (Tab (w2.alloc (.cells #[.slice CA2 C2.length c2] 33)) CA2 C2) := zzh (HT2.out.alloc _)
      have HFf : Hid (Fr CA1 C1 wr CA2) := zzh HF2.out
      have cP : (w2.alloc (.cells #[.slice CA2 C2.length c2] 33)).cell? ⟨w2.heap.size, 0, none⟩ = some (.slice CA2 C2.length c2) := (Blk.new w2 _ _).cell 0
      clear b0 b1 b2 b3 b4 b5 b6 b7 b8
      generalize w2.alloc (.cells #[.slice CA2 C2.length c2] 33) = Wf at *
      rotate_left
      have HBf : Hid (Below wr.heap.size wr (w2.setCell ⟨wr.heap.size, 0, none⟩ (.slice CA2 C2.length c2))) := zzh (HB2.out.setCell (p := ⟨wr.heap.size, 0, none⟩) (Nat.le_refl _) _)
      have HTf : Hid (Tab (w2.setCell ⟨wr.heap.size, 0, none⟩ (.slice CA2 C2.length c2)) CA2 C2) := zzh (HT2.out.kept0 (Kept.set1 w2 wr.heap.size 0 _) (fun b e h0 => by
        rcases HF2.out b e with ⟨e1, h1⟩ | h1
        · have := Tab.lt (e1 ▸ HX.out.ws.ctab) h1
          omega
        · simp at h1
          omega))
      have HFf : Hid (Fr CA1 C1 wr CA2) := zzh (fun b e => (HF2.out b e).imp (fun h => h) fun h => by simp at h; omega)
      have cP : (w2.setCell ⟨wr.heap.size, 0, none⟩ (.slice CA2 C2.length c2)).cell? ⟨wr.heap.size, 0, none⟩ = some (.slice CA2 C2.length c2) := by
        have := (HXN.out.set_ 0 (.slice CA2 C2.length c2)).cell 0
        simp only [zzg, zzi, zza, zzb] at this
        exact this
      clear b0 b1 b2 b3 b4 b5 b6 b7 b8 d0 d1 d2 d3 d4 d5 d6 d7 d8 cx fx
      generalize w2.setCell ⟨wr.heap.size, 0, none⟩ (.slice CA2 C2.length c2) = Wf at *
      rotate_left
      all_goals
        by_cases he : er = 0
        rotate_left
        · have e1 : (er != 0) = true := by simpa using he
          have HE := zzh he
          clear he
          go_wp2
          go_ret
          exact ⟨er, rfl, fun e => absurd e HE.out, HX.out.kept.trans (Kept.of_below HBf.out)⟩
        · subst he
          obtain ⟨hqi, hqm⟩ := HQ2.out rfl
          have HQI := zzh hqi
          have HWp := zzh (HX.out.ws.put HBf.out HTf.out HC2.out HFf.out (k := id) (x := x) (by rw [HND.out]; exact hqi) hqm)
          have hwf := HX.out.ws.below HBf.out
          have v0 : Wf.cell? ⟨wk, 0, none⟩ = some (.slice CA1 C1.length cc1) := hwf.blk.cell 0
          have v0f : Wf.frozen? ⟨wk, 0, none⟩ = false := hwf.blk.frozen 0
          have hb1 := hwf.blk.set_ 0 (.slice CA2 C2.length c2)
          simp only [zza, zzb] at hb1
          have v2 : (Wf.setCell ⟨wk, 0, none⟩ (.slice CA2 C2.length c2)).cell? ⟨wk, 1, none⟩ = some (.slice (some ⟨g, 0, none⟩) T.length ic) := hb1.cell 1
          have ho1 := own_kept hwf.own' (Kept.set1 Wf wk 0 (.slice CA2 C2.length c2)) (fun b e hb => by injection e with e; subst e; exact hwf.ne hb.symm)
          obtain ⟨z, hz⟩ : ∃ z, I1[id]? = some z := ⟨I1[id]'HIt.out, List.getElem?_eq_getElem HIt.out⟩
          have v3 : (Wf.setCell ⟨wk, 0, none⟩ (.slice CA2 C2.length c2)).cell? ⟨g, id, none⟩ = some (.int .i64 z) := by
            rw [ho1.cellAt id (by have := HID.out; omega), List.getElem?_map, hz]
            rfl
          have v4 : (Wf.setCell ⟨wk, 0, none⟩ (.slice CA2 C2.length c2)).frozen? ⟨g, id, none⟩ = false := ho1.frozenAt id
          clear hqi hqm hwf hb1 ho1 hz m0 m1 m2 m3 m4 m5 m6 m7 k0 hw8
          go_wp2
          go_ret
          exact ⟨0, rfl, fun _ => ⟨CA2, C2, c2, I1.set id x, HWp.out, HX.out.ext.trans HQI.out.img.ext, HX.out.keeps.set2 x (fun y e => by rw [HX0.out] at e; injection e with e; have := HX1.out; omega), ⟨x, by rw [List.getElem?_set, if_pos rfl, if_pos HIt.out], HQI.out.img.lo⟩, fun b e => (HFf.out b e).elim (fun h => HX.out.fr b h.1) (fun h => .inr (Nat.le_trans HX.out.kept.size h))⟩, ((HX.out.kept.trans (Kept.of_below HBf.out)).setCell (p := ⟨wk, 0, none⟩) (.inl (.inl rfl)) _).setCell (p := ⟨g, id, none⟩) (.inl (.inr rfl)) _⟩
    | succ g2 =>
      have hjl : j < ln := by omega
      have f1 : decide ((j : Int) < n.len) = true := by rw [HLN.out]; simp; omega
      have hja : (j : Int) < n.len := by rw [HLN.out]; omega
      have hai := HST.out.arg_lt j (by omega) hja
      obtain ⟨k, hk⟩ : ∃ k : Nat, n.arg j = k := ⟨(n.arg j).toNat, by omega⟩
      have hkl : k < id := by omega
      have HK := zzh hk
      have HKL := zzh hkl
      have HZ : Hid ((nodeCells n).toArray[2 + j]? = some (.int .i64 (k : Int))) := zzh (by
        rw [← hk]
        rcases (show j = 0 ∨ j = 1 ∨ j = 2 by omega) with rfl | rfl | rfl <;> rfl)
      have z2 : wr.cell? ⟨w.heap.size + 1, 2 + j, none⟩ = some (.int .i64 (k : Int)) := by rw [HX.out.nd.cell, HZ.out]
      have tk1 : (0 : Int) ≤ (j : Int) := by omega
      have tk2 : (j : Int) < n.len := hja
      have tk3 : (j : Int) < 3 := by omega
      have tk4 : (2 : Int) + (j : Int) < 5 := by omega
      have KW := zzh (IH.out k hkl (by have := HID.out; omega) wr.drew wk g ic CA1 C1 cc1 I1 (HX.out.ws.below (below_drewN (Below.refl _ wr) 1)))
      clear m0 m2 m3 m4 m5 m6 m7 hja hai hk hkl k0
      go_upto_region 8 with (fail)
      go_region_held3 (fun w' => w'.cell? ⟨w.heap.size, 0, none⟩ = some (.slice (some ⟨b, off, none⟩) T.length c) ∧ w'.cell? ⟨w.heap.size + 1, 2 + j, none⟩ = some (.int .i64 (k : Int))) (go_keep) ((go_at_call 43; refine KW.out.mono ?_; rintro e w2 ⟨er, rfl, ho, hk⟩; have HO := zzh ho; have HK2 := zzh hk; obtain ⟨b0, b1⟩ := HX.out.cells hk; have b2 := b1 (2 + j); rw [HZ.out] at b2; clear ho hk b1))
      by_cases he : er = 0
      rotate_left
      · have e1 : (er != 0) = true := by simpa using he
        have HE := zzh he
        clear he
        go_wp2
        go_ret
        exact ⟨er, rfl, fun e => absurd e HE.out, HX.out.kept.trans ⟨HK2.out.os, HK2.out.tape, HK2.out.output, HK2.out.size, HK2.out.block⟩⟩
      subst he
      obtain ⟨CA2, C2, cc2, I2, hwo⟩ := HO.out rfl
      obtain ⟨x, hxa, hx0⟩ := hwo.img
      have HXA := zzh (And.intro hxa hx0)
      have HX2 := zzh (HX.out.walked HK2.out hwo)
      have q1 : w2.cell? ⟨wk, 1, none⟩ = some (.slice (some ⟨g, 0, none⟩) T.length ic) := hwo.ws.blk.cell 1
      have q3 : w2.cell? ⟨g, k, none⟩ = some (.int .i64 x) := by
        obtain ⟨hl2, e2⟩ := List.getElem?_eq_some_iff.1 hxa
        have := hwo.ws.cell hl2
        rw [e2] at this
        exact this
      have u1 : (0 : Int) ≤ (k : Int) := by omega
      have u2 : (k : Int) < (T.length : Int) := by have := HID.out; have := HKL.out; omega
      have HO2 : Hid (w2.ownsRow (w.heap.size + 2) 3 1 sv j (V.map (Value.int .i64))) := zzh (by
        have := HX2.out.own
        unfold OwnL at this
        rwa [HX2.out.len] at this)
      have HSZ := zzh HX2.out.nd.lt
      clear hwo hxa hx0 HO s0 z2 m1 KW b0
      have h1c : Hid (∀ u ∈ #[Value.int .i64 x].toList, u.oneCell' = true) := zzh (by simp [Value.oneCell'])
      go_wp2
      go_region_law (refine step_push _ rfl (.tmp 47) (.tmp 58) 27 rfl (w.heap.size + 2) 3 i0 (.int .i64 0) 1 8 Tryz.underlying27 hi0 hz0 hz1 hz2 rfl (by decide) sv j _ rfl (own_drewN (HO2.out.alloc _) _) w2.heap.size #[.int .i64 x] rfl (Blk.new _ _ _) rfl h1c.out (by omega) (by omega) (by have := HSZ.out; omega) (fun q cap3 w3 hown1 hgrow hat hlt1 => ?_))
      all_goals
        have hp := HX2.out.push HXA.out.2 (by rw [HK.out]; omega) (by rw [HK.out]; exact HXA.out.1) hown1 hgrow hat
        have HP := zzh hp
        clear hp hown1 hgrow hat hlt1
      all_goals go_wp2
      all_goals
        go_roundg g2
        case measure => omega
        case rel => exact ⟨j + 1, _, _, _, _, _, _, by omega, by go_num, rfl, HP.out⟩
end Go.Proofs.YtlipnnibagidiaaGreat

/- What a function's value is, exactly. -/
import Derived.Test.YtkapbdjobfbhhaaGreatVxM
import Derived.Test.YtkapbdjobfbhhaaGreatVlP
namespace Go.Proofs.YtkapbdjobfbhhaaGreat
open Go.RowKit Go.Lib
def setT (r : RwM) (i : Nat) (x : Int) : RwM := if i = 0 then ⟨x, r.a1, r.a2, r.val⟩ else if i = 1 then ⟨r.a0, x, r.a2, r.val⟩ else ⟨r.a0, r.a1, x, r.val⟩
theorem setT_cells (r : RwM) {i : Nat} (h : i < 3) (x : Int) : r.tri.setIfInBounds i (.int .i64 x) = (setT r i x).tri := by
  match i, h with
  | 0, _ => rfl
  | 1, _ => rfl
  | 2, _ => rfl
def TriIn (r : RwM) : Prop := I64 r.a0 ∧ I64 r.a1 ∧ I64 r.a2
theorem setT_in {r : RwM} (h : TriIn r) {i : Nat} (hi : i < 3) {x : Int} (hx : I64 x) : TriIn (setT r i x) := by
  match i, hi with
  | 0, _ => exact ⟨hx, h.2.1, h.2.2⟩
  | 1, _ => exact ⟨h.1, hx, h.2.2⟩
  | 2, _ => exact ⟨h.1, h.2.1, hx⟩
structure QX (w : World) (B : Nat) (g : SigV) (wl : WldV) (r : RwM) (W : World) : Prop where
  sg : Blk W B 26 g.cells
  wd : Blk W (B + 1) 30 wl.cells
  res : Blk W (B + 1 + 1) 46 #[.int .i64 0, .int .i64 0, .int .i64 0]
  ar : Blk W (B + 1 + 1 + 1) 46 r.tri
  hB : w.heap.size = B
  bel : Below w.heap.size w W
theorem QX.below {w W W' : World} {B : Nat} {g : SigV} {wl : WldV} {r : RwM} (h : QX w B g wl r W) (hb : Below W.heap.size W W') : QX w B g wl r W' :=
  ⟨h.sg.below hb h.sg.lt, h.wd.below hb h.wd.lt, h.res.below hb h.res.lt, h.ar.below hb h.ar.lt, h.hB, h.bel.trans (hb.mono h.bel.size)⟩
theorem QX.set {w W : World} {B : Nat} {g : SigV} {wl : WldV} {r : RwM} (h : QX w B g wl r W) {i : Nat} (hi : i < 3) (x : Int) : QX w B g wl (setT r i x) (W.setCell ⟨B + 1 + 1 + 1, i, none⟩ (.int .i64 x)) := by
  have hk := Kept.set1 W (B + 1 + 1 + 1) i (.int .i64 x)
  have h4 := h.ar.set_ i (.int .i64 x)
  rw [setT_cells r hi] at h4
  have hB := h.hB
  exact ⟨h.sg.kept hk (by omega), h.wd.kept hk (by omega), h.res.kept hk (by omega), h4, h.hB, h.bel.trans (hk.below h.bel.size (fun q e => by omega))⟩
theorem QX.fin {w W : World} {B : Nat} {g : SigV} {wl : WldV} {r : RwM} (h : QX w B g wl r W) (a b c : Int) :
    ((((W.setCell ⟨B + 1 + 1, 0, none⟩ (.int .i64 a)).setCell ⟨B + 1 + 1, 1, none⟩ (.int .i64 b)).setCell ⟨B + 1 + 1, 2, none⟩ (.int .i64 c)).cell? ⟨B + 1 + 1, 0, none⟩ = some (.int .i64 a)) ∧
    ((((W.setCell ⟨B + 1 + 1, 0, none⟩ (.int .i64 a)).setCell ⟨B + 1 + 1, 1, none⟩ (.int .i64 b)).setCell ⟨B + 1 + 1, 2, none⟩ (.int .i64 c)).cell? ⟨B + 1 + 1, 1, none⟩ = some (.int .i64 b)) ∧
    ((((W.setCell ⟨B + 1 + 1, 0, none⟩ (.int .i64 a)).setCell ⟨B + 1 + 1, 1, none⟩ (.int .i64 b)).setCell ⟨B + 1 + 1, 2, none⟩ (.int .i64 c)).cell? ⟨B + 1 + 1, 2, none⟩ = some (.int .i64 c)) ∧
    Below w.heap.size w (((W.setCell ⟨B + 1 + 1, 0, none⟩ (.int .i64 a)).setCell ⟨B + 1 + 1, 1, none⟩ (.int .i64 b)).setCell ⟨B + 1 + 1, 2, none⟩ (.int .i64 c)) := by
  have hB := h.hB
  have h3 := ((h.res.set_ 0 (.int .i64 a)).set_ 1 (.int .i64 b)).set_ 2 (.int .i64 c)
  exact ⟨h3.cell 0, h3.cell 1, h3.cell 2, ((h.bel.setCell (by simp; omega) _).setCell (by simp; omega) _).setCell (by simp; omega) _⟩
structure WldWf (wl : WldV) : Prop where
  els : ∀ f ∈ wl.funs, I64 f.els
  val : ∀ f ∈ wl.funs, ∀ r ∈ f.rows, I64 r.val
def AppV (g : SigV) (wl : WldV) (fn x : Int) : Prop := I64 x ∧ (x = 0 ∨ ∃ (k : Nat) (h : k < g.funs.length), fn = k ∧ isM g.sorts.length wl.sizes g.funs[k].res x = true)
theorem AppV.zero (g : SigV) (wl : WldV) (fn : Int) : AppV g wl fn 0 := ⟨⟨by decide, by decide⟩, .inl rfl⟩
def triU (L : List Int) : Nat → RwM
  | 0 => ⟨0, 0, 0, 0⟩
  | i + 1 => setT (triU L i) i (L.getD i 0)
def triL (L : List Int) : RwM := triU L L.length
structure AskP (g : SigV) (wl : WldV) (qs : Nat → Bool) (sf : Nat → Nat → ByteArray) (zf : Nat → Nat → Int) (fn : Int) (L : List Int) : Prop where
  may : MayP g wl qs sf zf
  fit : ∃ (k : Nat) (h : k < g.funs.length), fn = k ∧ (L.length : Int) = g.funs[k].len ∧ fitsM g.sorts.length wl.sizes g.funs[k] (triL L) = true
def AskX (P : Prop) (t : RwM) (w : World) (e : Ending) (w' : World) : Prop := ∃ (r : RwM) (er : Int), e = .returned (.tuple #[.agg #[.int .i64 r.a0, .int .i64 r.a1, .int .i64 r.a2], .int .i64 er]) ∧ SayN er P ∧ (er = 0 → TriIn r ∧ r = t) ∧ Below w.heap.size w w'
theorem AskX.no {P : Prop} {t : RwM} {er : Int} (r : RwM) {w w' : World} (he : er ≠ 0) (hn : ¬ P) (h : Below w.heap.size w w') : AskX P t w (.returned (.tuple #[.agg #[.int .i64 r.a0, .int .i64 r.a1, .int .i64 r.a2], .int .i64 er])) w' := ⟨r, er, rfl, ⟨fun e => absurd e he, fun p => absurd p hn⟩, fun e => absurd e he, h⟩
set_option maxRecDepth 100000 in
set_option maxHeartbeats 8000000 in
theorem xasked_ok {w : World} {g : SigV} {wl : WldV} {qs : Nat → Bool} {sf : Nat → Nat → ByteArray} {zf : Nat → Nat → Int} {A : Option Addr} {L : List Int} (c : Nat) (hg : SigAt w g) (hd : SigX w g qs sf zf) (hw : WldAt w wl) (hL : Row w A L) (h3 : L.length ≤ 3) (hI : ∀ x ∈ L, I64 x) (fn : Int) :
    Calls Tryz.prog 65 #[.agg g.cells, .agg wl.cells, .int .i64 fn, .slice A L.length c] w (AskX (AskP g wl qs sf zf fn L) (triL L) w) := by
  obtain ⟨B, hB⟩ : ∃ B, w.heap.size = B := ⟨_, rfl⟩
  obtain ⟨w0, hw0⟩ : ∃ w0, (((w.alloc (.cells g.cells 26)).alloc (.cells wl.cells 30)).alloc (.cells #[.int .i64 0, .int .i64 0, .int .i64 0] 46)).alloc (.cells #[.int .i64 0, .int .i64 0, .int .i64 0] 46) = w0 := ⟨_, rfl⟩
  have HQ0 : Hid (QX w B g wl ⟨0, 0, 0, 0⟩ w0) := Lib.hid (by
    rw [← hw0, ← hB]
    exact ⟨(((Blk.new w 26 g.cells).alloc _).alloc _).alloc _, ((Blk.new_at (by simp) _ _).alloc _).alloc _, (Blk.new_at (by simp) _ _).alloc _, Blk.new_at (by simp) _ _, rfl, ((((Below.refl _ w).alloc (Nat.le_refl _) _).alloc (by simp) _).alloc (by simp; omega) _).alloc (by simp; omega) _⟩)
  have HG := Lib.hid hg
  have HLr := Lib.hid hL
  have HIn := Lib.hid hI
  have hn1 := hg.n1
  have HWf := Lib.hid hg.wf
  have HGC : Hid (g.cells = #[.slice g.A0 g.sorts.length g.c0, .slice g.A1 g.funs.length g.c1, .slice g.A2 g.macs.length g.c2]) := Lib.hid rfl
  have HVC : Hid (wl.cells = #[.slice wl.A0 wl.sizes.length wl.c0, .slice wl.A1 wl.funs.length wl.c1]) := Lib.hid rfl
  have KM := Lib.hid (fun W (hW : Below w.heap.size w W) => xmay09_ok (hg.below hW) (hd.below hW) (hw.below hW))
  have KF := Lib.hid (fun W (hW : Below w.heap.size w W) (f : FnM) (r : RwM) (hf : f.Wf) (hl : g.sorts.length ≤ 4) => fits09_ok g r (hw.below hW) (by omega) hf)
  have HAskI : Hid (∀ (k : Nat) (h : k < g.funs.length), fn = k → AskP g wl qs sf zf fn L → (L.length : Int) = g.funs[k].len ∧ fitsM g.sorts.length wl.sizes g.funs[k] (triL L) = true) := Lib.hid (fun k h e hp => by
    obtain ⟨k', h', e', h1, h2⟩ := hp.fit
    obtain rfl : k' = k := by omega
    exact ⟨h1, h2⟩)
  have HAskF : Hid (AskP g wl qs sf zf fn L → ∃ k : Nat, k < g.funs.length ∧ fn = k) := Lib.hid (fun hp => by
    obtain ⟨k', h', e', _⟩ := hp.fit
    exact ⟨k', h', e'⟩)
  have HAskM : Hid (AskP g wl qs sf zf fn L → MayP g wl qs sf zf) := Lib.hid (fun hp => hp.may)
  have HAskY : Hid (∀ (k : Nat) (h : k < g.funs.length), fn = k → MayP g wl qs sf zf → (L.length : Int) = g.funs[k].len → fitsM g.sorts.length wl.sizes g.funs[k] (triL L) = true → AskP g wl qs sf zf fn L) := Lib.hid (fun k h e h1 h2 h3 => ⟨h1, k, h, e, h2, h3⟩)
  obtain ⟨Ask, hAsk⟩ : ∃ P, AskP g wl qs sf zf fn L = P := ⟨_, rfl⟩
  obtain ⟨tr, htr⟩ : ∃ t, triL L = t := ⟨_, rfl⟩
  have HTr := Lib.hid htr
  have HNo : Hid (∀ (r : RwM) (er : Int) w', er ≠ 0 → ¬ Ask → Below w.heap.size w w' → AskX Ask tr w (.returned (.tuple #[.agg #[.int .i64 r.a0, .int .i64 r.a1, .int .i64 r.a2], .int .i64 er])) w') := Lib.hid (fun r er w' h1 h2 h3 => AskX.no r h1 h2 h3)
  have HYs : Hid (∀ (r : RwM) w', Ask → TriIn r → r = tr → Below w.heap.size w w' → AskX Ask tr w (.returned (.tuple #[.agg #[.int .i64 r.a0, .int .i64 r.a1, .int .i64 r.a2], .int .i64 0])) w') := Lib.hid (fun r w' h1 h2 h3 h4 => ⟨r, 0, rfl, ⟨fun _ => h1, fun _ => rfl⟩, fun _ => ⟨h2, h3⟩, h4⟩)
  rw [hAsk] at HAskI HAskF HAskM HAskY ⊢
  rw [htr] at HAskI HAskY ⊢
  clear hAsk htr
  rw [HGC.out, HVC.out] at hw0 KM KF ⊢
  have HW0 := Lib.hid hw0
  have HBs := Lib.hid hB
  clear hw0 hg hd hw hL hI
  go_enter Tryz.func65, Tryz.ntmps65
  go_upto_region 2 with fail
  rw [HW0.out]
  clear HW0 hB
  have KM0 := Lib.hid (KM.out w0 HQ0.out.bel)
  obtain ⟨x0, x1, x2⟩ := sig_blk HQ0.out.sg
  obtain ⟨x3, x4⟩ := wld_blk HQ0.out.wd
  go_wp2_with fail
  refine KM0.out.mono ?_
  rintro e w1 ⟨qm, rfl, hqm, hb1⟩
  have HQ1 := Lib.hid (HQ0.out.below hb1)
  have HMy := Lib.hid hqm
  obtain ⟨y0, y1, y2⟩ := sig_blk HQ1.out.sg
  have ya : w1.cell? ⟨B + 1 + 1 + 1, 0, none⟩ = some (.int .i64 0) := HQ1.out.ar.cell 0
  have yb : w1.cell? ⟨B + 1 + 1 + 1, 1, none⟩ = some (.int .i64 0) := HQ1.out.ar.cell 1
  have yc : w1.cell? ⟨B + 1 + 1 + 1, 2, none⟩ = some (.int .i64 0) := HQ1.out.ar.cell 2
  obtain ⟨r0, r1, r2⟩ := blk3 HQ1.out.res
  have rf0 := HQ1.out.res.frozen 0
  have rf1 := HQ1.out.res.frozen 1
  have rf2 := HQ1.out.res.frozen 2
  clear hb1 hqm x0 x1 x2 x3 x4 KM0
  cases qm with
  | false =>
    go_wp2
    obtain ⟨o0, o1, o2, o3⟩ := HQ1.out.fin 0 0 0
    refine bodyPost_ret (v := .tuple #[.agg #[.int .i64 0, .int .i64 0, .int .i64 0], .int .i64 2]) (by simp [results, Tryz.results65, go_sem, o0, o1, o2]) rfl ?_
    exact HNo.out ⟨0, 0, 0, 0⟩ 2 _ (by decide) (fun h => HMy.out.f (HAskM.out h)) o3
  | true =>
    have HMp : Hid (MayP g wl qs sf zf) := Lib.hid HMy.out.t
    have HMw : Hid (MayW g wl) := Lib.hid HMp.out.w
    clear HMy
    by_cases h1 : fn < 0
    · have e2 : decide (fn < 0) = true := decide_eq_true h1
      have HE : Hid (¬ Ask) := Lib.hid (fun h => by obtain ⟨k, _, e⟩ := HAskF.out h; omega)
      clear h1
      go_wp2
      obtain ⟨o0, o1, o2, o3⟩ := HQ1.out.fin 0 0 0
      refine bodyPost_ret (v := .tuple #[.agg #[.int .i64 0, .int .i64 0, .int .i64 0], .int .i64 2]) (by simp [results, Tryz.results65, go_sem, o0, o1, o2]) rfl ?_
      exact HNo.out ⟨0, 0, 0, 0⟩ 2 _ (by decide) HE.out o3
    obtain ⟨k, rfl⟩ : ∃ k : Nat, fn = k := ⟨fn.toNat, by omega⟩
    clear h1
    have e2 : decide ((k : Int) < 0) = false := decide_eq_false (by omega)
    by_cases h2 : k < g.funs.length
    rotate_left
    · have e3 : decide ((k : Int) ≥ (g.funs.length : Int)) = true := decide_eq_true (by omega)
      have HE : Hid (¬ Ask) := Lib.hid (fun h => by obtain ⟨k', h', e⟩ := HAskF.out h; omega)
      have e3' : decide ((g.funs.length : Int) ≤ (k : Int)) = true := decide_eq_true (by omega)
      have e3'' : decide (g.funs.length ≤ k) = true := decide_eq_true (by omega)
      clear h2
      go_wp2
      obtain ⟨o0, o1, o2, o3⟩ := HQ1.out.fin 0 0 0
      refine bodyPost_ret (v := .tuple #[.agg #[.int .i64 0, .int .i64 0, .int .i64 0], .int .i64 2]) (by simp [results, Tryz.results65, go_sem, o0, o1, o2]) rfl ?_
      exact HNo.out ⟨0, 0, 0, 0⟩ 2 _ (by decide) HE.out o3
    have e3 : decide ((k : Int) ≥ (g.funs.length : Int)) = false := decide_eq_false (by omega)
    have e3' : decide ((g.funs.length : Int) ≤ (k : Int)) = false := decide_eq_false (by omega)
    have e3'' : decide (g.funs.length ≤ k) = false := decide_eq_false (by omega)
    have t1 : (0 : Int) ≤ (k : Int) := by omega
    have t2 : (k : Int) < (g.funs.length : Int) := by omega
    obtain ⟨b, off, hA, hb, hat⟩ := HG.out.f k h2
    have hbB : b < w.heap.size := hb
    have HFn : Hid (∀ W, Below w.heap.size w W → FnAt W b (off + k * 6) g.funs[k]) := Lib.hid (fun W hW => hat.below hW hbB)
    have hfw := hat.wf
    have HAi := Lib.hid (HAskI.out k h2 rfl)
    have HAy := Lib.hid (HAskY.out k h2 rfl HMp.out)
    clear HAskI HAskY HAskF HAskM
    have KF1 := Lib.hid (fun W (hW : Below w.heap.size w W) (r : RwM) => KF.out W hW g.funs[k] r hfw HMw.out.n0)
    obtain ⟨f1, f2, f3, f4, f5, f6, _⟩ := HFn.out w1 HQ1.out.bel
    rw [hA] at y1
    have HAq := Lib.hid hA
    clear hat hA hb hbB hfw
    generalize g.funs[k] = f at *
    clear h2
    obtain ⟨nm, len, a0, a1, a2, res⟩ := f
    unfold FnM.agg at KF1
    simp only at f1 f2 f3 f4 f5 f6 KF1 HAi HAy
    by_cases h4 : (L.length : Int) = len
    rotate_left
    · have e4 : ((L.length : Int) != len) = true := bne_iff_ne.2 h4
      have HE : Hid (¬ Ask) := Lib.hid (fun h => h4 (HAi.out h).1)
      clear h4
      go_wp2
      obtain ⟨o0, o1, o2, o3⟩ := HQ1.out.fin 0 0 0
      refine bodyPost_ret (v := .tuple #[.agg #[.int .i64 0, .int .i64 0, .int .i64 0], .int .i64 2]) (by simp [results, Tryz.results65, go_sem, o0, o1, o2]) rfl ?_
      exact HNo.out ⟨0, 0, 0, 0⟩ 2 _ (by decide) HE.out o3
    subst h4
    have e4 : ((L.length : Int) != (L.length : Int)) = false := by simp
    go_wp2
    clear ya yb yc r0 r1 r2 rf0 rf1 rf2 y0 y1 y2 f1 f2 f3 f4 f5 f6
    have HIni : Hid (TriIn ⟨0, 0, 0, 0⟩) := Lib.hid ⟨⟨by decide, by decide⟩, ⟨by decide, by decide⟩, ⟨by decide, by decide⟩⟩
    go_loopg [11] L.length (fun g' v wr => ∃ (i : Nat) (r : RwM), i + g' = L.length ∧ v = .int .i64 i ∧ TriIn r ∧ r = triU L i ∧ QX w B g wl r wr)
    case atStart => exact ⟨0, _, by omega, rfl, HIni.out, rfl, HQ1.out⟩
    case round =>
      obtain ⟨i, r, hig, rfl, hin, htu, hq⟩ := hrel
      have HTu := Lib.hid htu
      have HQ := Lib.hid hq
      have HTi := Lib.hid hin
      clear hq hin htu
      cases gk with
      | succ gk =>
        have hlt : i < L.length := by omega
        have d1 : decide ((i : Int) < L.length) = true := by simp; omega
        have u1 : (0 : Int) ≤ (i : Int) := by omega
        have u2 : (i : Int) < (L.length : Int) := by omega
        have u3 : (i : Int) < (3 : Int) := by omega
        have hi3 : i < 3 := by omega
        obtain ⟨b2, off2, hA2, hb2, hc2⟩ := (HLr.out.below HQ.out.bel).at_.resolve_left (by omega)
        have y0 := hc2 i hlt
        have z1 : wr.cell? ⟨B + 1 + 1 + 1, i, none⟩ = some (.int .i64 (r.arg i)) := by rw [HQ.out.ar.cell]; exact RwM.tri_arg r hi3
        have z2 := HQ.out.ar.frozen i
        subst hA2
        have HS := Lib.hid (HQ.out.set hi3 L[i])
        have HSi := Lib.hid (setT_in HTi.out hi3 (HIn.out L[i] (List.getElem_mem hlt)))
        have HTn : Hid (setT r i L[i] = triU L (i + 1)) := Lib.hid (by show setT r i L[i] = setT (triU L i) i (L.getD i 0); rw [← HTu.out, List.getD_eq_getElem?_getD, List.getElem?_eq_getElem hlt, Option.getD_some])
        clear hc2
        generalize L[i] = x at *
        go_wp2
        go_roundg gk
        case measure => omega
        case rel => exact ⟨i + 1, _, by omega, by go_num, HSi.out, HTn.out, HS.out⟩
      | zero =>
        obtain rfl : i = L.length := by omega
        have d1 : decide ((L.length : Int) < L.length) = false := by simp
        have HD1 := Lib.hid (HQ.out.below (below_drewN (Below.refl wr.heap.size wr) 1))
        have KX := Lib.hid (KF1.out wr.drew HD1.out.bel r)
        have HFx : Hid (∀ W, QX w B g wl r W → (W.cell? ⟨B, 0, none⟩ = some (.slice g.A0 g.sorts.length g.c0) ∧ W.cell? ⟨B, 1, none⟩ = some (.slice (some ⟨b, off, none⟩) g.funs.length g.c1) ∧ W.cell? ⟨B, 2, none⟩ = some (.slice g.A2 g.macs.length g.c2)) ∧ (W.cell? ⟨B + 1, 0, none⟩ = some (.slice wl.A0 wl.sizes.length wl.c0) ∧ W.cell? ⟨B + 1, 1, none⟩ = some (.slice wl.A1 wl.funs.length wl.c1)) ∧ (W.cell? ⟨B + 1 + 1 + 1, 0, none⟩ = some (.int .i64 r.a0) ∧ W.cell? ⟨B + 1 + 1 + 1, 1, none⟩ = some (.int .i64 r.a1) ∧ W.cell? ⟨B + 1 + 1 + 1, 2, none⟩ = some (.int .i64 r.a2)) ∧ W.cell? ⟨b, off + k * 6, none⟩ = some (.string nm) ∧ W.cell? ⟨b, off + k * 6 + 1, none⟩ = some (.int .i64 (L.length : Int)) ∧ W.cell? ⟨b, off + k * 6 + 2, none⟩ = some (.int .i64 a0) ∧ W.cell? ⟨b, off + k * 6 + 3, none⟩ = some (.int .i64 a1) ∧ W.cell? ⟨b, off + k * 6 + 4, none⟩ = some (.int .i64 a2) ∧ W.cell? ⟨b, off + k * 6 + 5, none⟩ = some (.int .i64 res)) := Lib.hid (fun W hW => by
          obtain ⟨k0, k1, k2, k3, k4, k5, _⟩ := HFn.out W hW.bel
          exact ⟨by rw [← HAq.out]; exact sig_blk hW.sg, wld_blk hW.wd, blk3 hW.ar, k0, k1, k2, k3, k4, k5⟩)
        obtain ⟨⟨x0, x1, x2⟩, ⟨x3, x4⟩, ⟨x5, x6, x7⟩, x8, x9, x10, x11, x12, x13⟩ := HFx.out wr.drew HD1.out
        unfold RwM.tri at KX
        rw [HAq.out] at KX
        have HRt : Hid (r = tr) := Lib.hid (HTu.out.trans HTr.out)
        clear hig
        go_upto_region 8 with fail
        go_region_held3 (fun w' => w'.cell? ⟨B, 0, none⟩ = some (.slice g.A0 g.sorts.length g.c0) ∧ w'.cell? ⟨B, 1, none⟩ = some (.slice (some ⟨b, off, none⟩) g.funs.length g.c1) ∧ w'.cell? ⟨B, 2, none⟩ = some (.slice g.A2 g.macs.length g.c2) ∧ w'.cell? ⟨B + 1, 0, none⟩ = some (.slice wl.A0 wl.sizes.length wl.c0) ∧ w'.cell? ⟨B + 1, 1, none⟩ = some (.slice wl.A1 wl.funs.length wl.c1) ∧ w'.cell? ⟨B + 1 + 1 + 1, 0, none⟩ = some (.int .i64 r.a0) ∧ w'.cell? ⟨B + 1 + 1 + 1, 1, none⟩ = some (.int .i64 r.a1) ∧ w'.cell? ⟨B + 1 + 1 + 1, 2, none⟩ = some (.int .i64 r.a2) ∧ w'.cell? ⟨b, off + k * 6, none⟩ = some (.string nm) ∧ w'.cell? ⟨b, off + k * 6 + 1, none⟩ = some (.int .i64 (L.length : Int)) ∧ w'.cell? ⟨b, off + k * 6 + 2, none⟩ = some (.int .i64 a0) ∧ w'.cell? ⟨b, off + k * 6 + 3, none⟩ = some (.int .i64 a1) ∧ w'.cell? ⟨b, off + k * 6 + 4, none⟩ = some (.int .i64 a2) ∧ w'.cell? ⟨b, off + k * 6 + 5, none⟩ = some (.int .i64 res)) (go_keep) ((go_at_call 34; refine KX.out.mono ?_; rintro e w3 ⟨rfl, hb3⟩; have HQ3 := Lib.hid (HD1.out.below hb3); obtain ⟨⟨y0, y1, y2⟩, ⟨y3, y4⟩, ⟨y5, y6, y7⟩, y8, y9, y10, y11, y12, y13⟩ := HFx.out w3 HQ3.out; clear hb3 x0 x1 x2 x3 x4 x5 x6 x7 x8 x9 x10 x11 x12 x13))
        obtain ⟨r0, r1, r2⟩ := blk3 HQ3.out.res
        have rf0 := HQ3.out.res.frozen 0
        have rf1 := HQ3.out.res.frozen 1
        have rf2 := HQ3.out.res.frozen 2
        cases hqf : fitsM g.sorts.length wl.sizes ⟨nm, (L.length : Int), a0, a1, a2, res⟩ r with
        | false =>
          have HQf := Lib.hid hqf
          clear hqf
          go_wp2
          obtain ⟨o0, o1, o2, o3⟩ := HQ3.out.fin r.a0 r.a1 r.a2
          refine bodyPost_ret (v := .tuple #[.agg #[.int .i64 r.a0, .int .i64 r.a1, .int .i64 r.a2], .int .i64 33]) (by simp [results, Tryz.results65, go_sem, o0, o1, o2]) rfl ?_
          exact HNo.out r 33 _ (by decide) (fun h => by have := (HAi.out h).2; rw [← HRt.out] at this; exact Bool.noConfusion (HQf.out.symm.trans this)) o3
        | true =>
          have HQf := Lib.hid hqf
          clear hqf
          go_wp2
          obtain ⟨o0, o1, o2, o3⟩ := HQ3.out.fin r.a0 r.a1 r.a2
          refine bodyPost_ret (v := .tuple #[.agg #[.int .i64 r.a0, .int .i64 r.a1, .int .i64 r.a2], .int .i64 0]) (by simp [results, Tryz.results65, go_sem, o0, o1, o2]) rfl ?_
          exact HYs.out r _ (HAy.out (by trivial) (by rw [← HRt.out]; exact HQf.out)) HTi.out HRt.out o3
instance (r s : RwM) : Decidable (r.sm s) := by unfold RwM.sm; infer_instance
def lookM (rows : List RwM) (els : Int) (t : RwM) : Int := match rows.find? (fun r => decide (r.sm t)) with | some r => r.val | none => els
theorem lookM_none {rows : List RwM} {els : Int} {t : RwM} (h : ∀ j s, rows[j]? = some s → j < rows.length → ¬ s.sm t) : lookM rows els t = els := by
  unfold lookM
  rw [List.find?_eq_none.2 (fun s hs => by
    obtain ⟨j, hj, rfl⟩ := List.getElem_of_mem hs
    exact fun e => h j _ (List.getElem?_eq_getElem hj) hj (of_decide_eq_true e))]
theorem lookM_at {rows : List RwM} {els : Int} {t q : RwM} {i : Nat} (h : ∀ j s, rows[j]? = some s → j < i → ¬ s.sm t) (hq : rows[i]? = some q) (hs : q.sm t) : lookM rows els t = q.val := by
  have h1 : rows.find? (fun r => decide (r.sm t)) = some q := by
    obtain ⟨hi, rfl⟩ := List.getElem?_eq_some_iff.1 hq
    exact List.find?_eq_some_iff_getElem.2 ⟨decide_eq_true hs, i, hi, rfl, fun j hj => by
      have := h j _ (List.getElem?_eq_getElem (by omega)) hj
      simpa using this⟩
  unfold lookM
  rw [h1]
open Classical in
noncomputable def applyM (g : SigV) (wl : WldV) (qs : Nat → Bool) (sf : Nat → Nat → ByteArray) (zf : Nat → Nat → Int) (fn : Int) (L : List Int) : Int := if AskP g wl qs sf zf fn L then (match wl.funs[fn.toNat]? with | some f => lookM f.rows f.els (triL L) | none => 0) else 0
def ApX (g : SigV) (wl : WldV) (fn x : Int) (w : World) (e : Ending) (w' : World) : Prop := ∃ er, e = .returned (.tuple #[.int .i64 x, .int .i64 er]) ∧ AppV g wl fn x ∧ Below w.heap.size w w'
set_option maxRecDepth 100000 in
set_option maxHeartbeats 8000000 in
theorem xapply_ok {w : World} {g : SigV} {wl : WldV} {qs : Nat → Bool} {sf : Nat → Nat → ByteArray} {zf : Nat → Nat → Int} {A : Option Addr} {L : List Int} (c : Nat) (hg : SigAt w g) (hd : SigX w g qs sf zf) (hw : WldAt w wl) (hwf : WldWf wl) (hL : Row w A L) (h3 : L.length ≤ 3) (hI : ∀ x ∈ L, I64 x) (fn : Int) :
    Calls Tryz.prog 39 #[.agg g.cells, .agg wl.cells, .int .i64 fn, .slice A L.length c] w (ApX g wl fn (applyM g wl qs sf zf fn L) w) := by
  obtain ⟨B, hB⟩ : ∃ B, w.heap.size = B := ⟨_, rfl⟩
  obtain ⟨w0, hw0⟩ : ∃ w0, (w.alloc (.cells g.cells 26)).alloc (.cells wl.cells 30) = w0 := ⟨_, rfl⟩
  have HB0 : Hid (Below w.heap.size w w0) := Lib.hid (by rw [← hw0]; exact (sig_box w g).alloc (sig_box w g).size _)
  have HG0 : Hid (Blk w0 B 26 g.cells) := Lib.hid (by rw [← hw0, ← hB]; exact (Blk.new w 26 g.cells).alloc _)
  have HV0 : Hid (Blk w0 (B + 1) 30 wl.cells) := Lib.hid (by rw [← hw0, ← hB]; exact Blk.new_at (by simp) _ _)
  have HWl := Lib.hid (hw.below HB0.out)
  have HWw := Lib.hid hwf
  have HGC : Hid (g.cells = #[.slice g.A0 g.sorts.length g.c0, .slice g.A1 g.funs.length g.c1, .slice g.A2 g.macs.length g.c2]) := Lib.hid rfl
  have HVC : Hid (wl.cells = #[.slice wl.A0 wl.sizes.length wl.c0, .slice wl.A1 wl.funs.length wl.c1]) := Lib.hid rfl
  have KA := Lib.hid (xasked_ok c (hg.below HB0.out) (hd.below HB0.out) HWl.out (hL.below HB0.out) h3 hI fn)
  have HX0 : Hid (¬ AskP g wl qs sf zf fn L → applyM g wl qs sf zf fn L = 0) := Lib.hid (fun h => by unfold applyM; rw [if_neg h])
  have HXk : Hid (∀ (k : Nat) (h : k < wl.funs.length), fn = k → AskP g wl qs sf zf fn L → applyM g wl qs sf zf fn L = lookM wl.funs[k].rows wl.funs[k].els (triL L)) := Lib.hid (fun k hk e h => by
    unfold applyM
    rw [if_pos h, e, Int.toNat_natCast, List.getElem?_eq_getElem hk])
  obtain ⟨X, hX⟩ : ∃ X, applyM g wl qs sf zf fn L = X := ⟨_, rfl⟩
  rw [hX] at HX0 HXk ⊢
  clear hX
  have HYes : Hid (∀ x er w', AppV g wl fn x → x = X → Below w.heap.size w w' → ApX g wl fn X w (.returned (.tuple #[.int .i64 x, .int .i64 er])) w') := Lib.hid (fun x er w' h1 h2 h3 => by subst h2; exact ⟨er, rfl, h1, h3⟩)
  rw [HGC.out, HVC.out] at hw0 KA ⊢
  obtain ⟨x0, x1, x2⟩ := sig_blk HG0.out
  obtain ⟨x3, x4⟩ := wld_blk HV0.out
  have HW0 := Lib.hid hw0
  clear hw0 hg hd hw hL hI hwf
  go_enter Tryz.func39, Tryz.ntmps39
  go_upto_region 1 with fail
  rw [HW0.out]
  clear HW0 hB
  go_wp2_with fail
  refine KA.out.mono ?_
  rintro e w1 ⟨r, er, rfl, hsay, hyes, hb1⟩
  have HSay := Lib.hid hsay
  clear hsay
  obtain ⟨ab, hab⟩ : ∃ ab, w1.heap.size = ab := ⟨_, rfl⟩
  obtain ⟨w2, hw2⟩ : ∃ w2, w1.alloc (.cells #[.int .i64 r.a0, .int .i64 r.a1, .int .i64 r.a2] 46) = w2 := ⟨_, rfl⟩
  have HB2 : Hid (Below w0.heap.size w0 w2) := Lib.hid (by rw [← hw2]; exact hb1.alloc hb1.size _)
  have HA2 : Hid (Blk w2 ab 46 #[.int .i64 r.a0, .int .i64 r.a1, .int .i64 r.a2]) := Lib.hid (by rw [← hw2, ← hab]; exact Blk.new _ _ _)
  have HY := Lib.hid hyes
  have HW2 := Lib.hid hw2
  have HAB := Lib.hid hab
  clear hw2 hab hyes x0 x1 x2 x3 x4 KA
  go_upto_region 2 with fail
  rw [HW2.out, HAB.out]
  clear HW2 HAB hb1
  by_cases he : er = 0
  rotate_left
  · have e1 : (er != 0) = true := bne_iff_ne.2 he
    have HE0 : Hid ((0 : Int) = X) := Lib.hid (HX0.out (HSay.out.no he)).symm
    clear he
    go_wp2
    refine bodyPost_ret (v := .tuple #[.int .i64 0, .int .i64 er]) (by simp [results, Tryz.results39, go_sem]) rfl (HYes.out 0 er _ (AppV.zero g wl fn) HE0.out (HB0.out.trans (HB2.out.mono HB0.out.size)))
  have e1 : (er != 0) = false := by rw [he]; rfl
  obtain ⟨⟨i0, i1, i2⟩, hrt⟩ := HY.out he
  have hask := HSay.out.ok he
  have hmay := hask.may.w
  obtain ⟨k, hk, hfk, hfl⟩ := hask.fit
  clear hfl
  subst hfk
  have hkV : k < wl.funs.length := by have := hmay.fl; omega
  have t1 : (0 : Int) ≤ (k : Int) := by omega
  have t2 : (k : Int) < (wl.funs.length : Int) := by omega
  have HXl : Hid (X = lookM wl.funs[k].rows wl.funs[k].els r) := Lib.hid (by rw [hrt]; exact HXk.out k hkV rfl hask)
  clear hask hrt HXk HX0 HSay
  have HIs : Hid ((∀ x, x = wl.funs[k].els → AppV g wl (k : Int) x) ∧ ∀ r ∈ wl.funs[k].rows, AppV g wl (k : Int) r.val) := Lib.hid (by
    obtain ⟨h1, h2⟩ := hmay.is k hk hkV
    exact ⟨fun x hx => ⟨by rw [hx]; exact HWw.out.els _ (List.getElem_mem hkV), .inr ⟨k, hk, rfl, by rw [hx]; exact h1⟩⟩, fun r hr => ⟨HWw.out.val _ (List.getElem_mem hkV) r hr, .inr ⟨k, hk, rfl, h2 r hr⟩⟩⟩)
  obtain ⟨b, off, hA, hb, c0, c1⟩ := HWl.out.f k hkV
  have HRows := Lib.hid (HWl.out.r wl.funs[k] (List.getElem_mem hkV))
  have hgv : ∀ W, Below w0.heap.size w0 W → W.cell? ⟨B + 1, 1, none⟩ = some (.slice (some ⟨b, off, none⟩) wl.funs.length wl.c1) := fun W hW => by
    rw [← hA]
    exact (wld_blk (HV0.out.below hW HV0.out.lt)).2
  have HGv := Lib.hid hgv
  have HF : Hid (∀ W, Below w0.heap.size w0 W → W.cell? ⟨b, off + k * 2, none⟩ = some (.slice wl.funs[k].R wl.funs[k].rows.length wl.funs[k].rc) ∧ W.cell? ⟨b, off + k * 2 + 1, none⟩ = some (.int .i64 wl.funs[k].els)) := Lib.hid (fun W hW => ⟨(hW.cell (p := ⟨b, off + k * 2, none⟩) hb).trans c0, (hW.cell (p := ⟨b, off + k * 2 + 1, none⟩) hb).trans c1⟩)
  clear he hA hb c0 c1 hgv hmay hk HY
  generalize wl.funs[k] = vv at *
  clear hkV
  obtain ⟨R, rc, rows, els⟩ := vv
  try simp only at HIs HF HRows
  try simp only at HXl
  have hrn := HRows.out.1
  try simp only at hrn
  have x4 := HGv.out w2 HB2.out
  obtain ⟨f0, f1⟩ := HF.out w2 HB2.out
  have HZ2 := Lib.hid (Below.refl w2.heap.size w2)
  go_wp2
  clear x4 f0 f1
  go_loopg [12] rows.length (fun g' v wr => ∃ i : Nat, i + g' = rows.length ∧ v = .int .i64 i ∧ (∀ j s, rows[j]? = some s → j < i → ¬ s.sm r) ∧ Below w2.heap.size w2 wr)
  case atStart => exact ⟨0, by omega, rfl, fun j s _ h => absurd h (Nat.not_lt_zero j), HZ2.out⟩
  case round =>
    obtain ⟨i, hig, rfl, hinv, hb⟩ := hrel
    have HJ := Lib.hid hinv
    clear hinv
    have HB3 := Lib.hid hb
    have HB23 := Lib.hid (HB2.out.trans (hb.mono HB2.out.size))
    have x4 := HGv.out wr HB23.out
    obtain ⟨f0, f1⟩ := HF.out wr HB23.out
    clear hb
    cases gk with
    | zero =>
      obtain rfl : i = rows.length := by omega
      have d1 : decide ((rows.length : Int) < rows.length) = false := by simp
      have HEx : Hid (els = X) := Lib.hid (by rw [HXl.out]; exact (lookM_none HJ.out).symm)
      go_wp2
      refine bodyPost_ret (v := .tuple #[.int .i64 els, .int .i64 0]) (by simp [results, Tryz.results39, go_sem]) rfl (HYes.out els 0 _ (HIs.out.1 _ rfl) HEx.out (HB0.out.trans (HB23.out.mono HB0.out.size)))
    | succ gk =>
      have hlt : i < rows.length := by omega
      have d1 : decide ((i : Int) < rows.length) = true := by simp; omega
      have u1 : (0 : Int) ≤ (i : Int) := by omega
      have u2 : (i : Int) < (rows.length : Int) := by omega
      obtain ⟨rb, ro, hR, hrb, hat⟩ := HRows.out.2 i hlt
      have hR : R = some ⟨rb, ro, none⟩ := hR
      obtain ⟨j0, j1, j2, j3, ji0, ji1, ji2⟩ := hat.below HB23.out hrb
      have HJ1 : Hid (rows[i].sm r → rows[i].val = X) := Lib.hid (fun e => by rw [HXl.out]; exact (lookM_at HJ.out (List.getElem?_eq_getElem hlt) e).symm)
      have HJ2 : Hid (¬ rows[i].sm r → ∀ j s, rows[j]? = some s → j < i + 1 → ¬ s.sm r) := Lib.hid (fun e j s hs h => by
        rcases Nat.lt_or_ge j i with h' | h'
        · exact HJ.out j s hs h'
        · obtain rfl : j = i := by omega
          rw [List.getElem?_eq_getElem hlt] at hs
          injection hs with hs
          rw [← hs]
          exact e)
      have HVal := Lib.hid (HIs.out.2 rows[i] (List.getElem_mem hlt))
      subst hR
      try simp only at j0 j1 j2 j3 ji0 ji1 ji2
      generalize rows[i] = rj at *
      obtain ⟨rb0, rb1, rb2, rbv⟩ := rj
      try simp only at j0 j1 j2 j3 ji0 ji1 ji2 HVal
      have HFx : Hid (∀ W, Below wr.heap.size wr W → W.cell? ⟨B + 1, 1, none⟩ = some (.slice (some ⟨b, off, none⟩) wl.funs.length wl.c1) ∧ W.cell? ⟨b, off + k * 2, none⟩ = some (.slice (some ⟨rb, ro, none⟩) rows.length rc) ∧ (W.cell? ⟨rb, ro + i * 4, none⟩ = some (.int .i64 rb0) ∧ W.cell? ⟨rb, ro + i * 4 + 1, none⟩ = some (.int .i64 rb1) ∧ W.cell? ⟨rb, ro + i * 4 + 2, none⟩ = some (.int .i64 rb2) ∧ W.cell? ⟨rb, ro + i * 4 + 3, none⟩ = some (.int .i64 rbv)) ∧ W.cell? ⟨ab, 0, none⟩ = some (.int .i64 r.a0) ∧ W.cell? ⟨ab, 1, none⟩ = some (.int .i64 r.a1) ∧ W.cell? ⟨ab, 2, none⟩ = some (.int .i64 r.a2)) := Lib.hid (fun W hW => by
        have h3 := HB23.out.trans (hW.mono HB23.out.size)
        have hr2 := World.block_lt_of_cell? _ _ j0
        have ha := HA2.out.below (HB3.out.trans (hW.mono HB3.out.size)) HA2.out.lt
        exact ⟨HGv.out W h3, (HF.out W h3).1, ⟨(hW.cell (p := ⟨rb, ro + i * 4, none⟩) hr2).trans j0, (hW.cell (p := ⟨rb, ro + i * 4 + 1, none⟩) hr2).trans j1, (hW.cell (p := ⟨rb, ro + i * 4 + 2, none⟩) hr2).trans j2, (hW.cell (p := ⟨rb, ro + i * 4 + 3, none⟩) hr2).trans j3⟩, ha.cell 0, ha.cell 1, ha.cell 2⟩)
      obtain ⟨rr, hiff, hrr⟩ := tri_eq ji0 ji1 ji2 i0 i1 i2
      have HI3 := Lib.hid hiff
      unfold triV at hrr
      have ge := tri_eql hrr
      have gg := tri_guard
      clear hiff hrr ji0 ji1 ji2 hat hrb j0 j1 j2 j3
      go_upto_region 7 with fail
      clear x4 f0 f1
      cases rr with
      | true =>
        have HEx : Hid (rbv = X) := Lib.hid (HJ1.out (HI3.out.1 rfl))
        refine wp_region_quiet (C := fun w' => Below wr.heap.size wr w') (by kernel_rfl) (by kernel_rfl) (⟨rfl, rfl, rfl, Nat.le_refl _, fun _ _ => rfl⟩) ?_
        refine QW.lit ?_
        refine qw_want rfl ?_ (fun w' hw' => ?_) ?_
        rotate_left
        · unfold Oper.quietAt
          go_simp
          exact rfl
        simp only [Act.put, List.setIfInBounds_toArray, List.set_cons_succ, List.set_cons_zero]
        refine qw_want rfl ?_ (fun w' hw' => ?_) ?_
        rotate_left
        · obtain ⟨k0, k1, ⟨k2, k3, k4, k5⟩, k6, k7, k8⟩ := HFx.out w' hw'
          unfold Oper.quietAt
          go_simp
          exact rfl
        simp only [Act.put, List.setIfInBounds_toArray, List.set_cons_succ, List.set_cons_zero]
        refine qw_want rfl ?_ (fun w' hw' => ?_) ?_
        rotate_left
        · unfold Oper.quietAt
          go_simp
          exact rfl
        simp only [Act.put, List.setIfInBounds_toArray, List.set_cons_succ, List.set_cons_zero]
        refine qw_want rfl ?_ (fun w' hw' => ?_) ?_
        rotate_left
        · unfold Oper.quietAt
          go_simp
          exact rfl
        simp only [Act.put, List.setIfInBounds_toArray, List.set_cons_succ, List.set_cons_zero]
        refine qw_want rfl ?_ (fun w' hw' => ?_) ?_
        rotate_left
        · unfold Oper.quietAt
          go_simp
          exact rfl
        simp only [Act.put, List.setIfInBounds_toArray, List.set_cons_succ, List.set_cons_zero]
        refine qw_want rfl ?_ (fun w' hw' => ?_) ?_
        rotate_left
        · obtain ⟨k0, k1, ⟨k2, k3, k4, k5⟩, k6, k7, k8⟩ := HFx.out w' hw'
          unfold Oper.quietAt
          go_simp
          exact rfl
        simp only [Act.put, List.setIfInBounds_toArray, List.set_cons_succ, List.set_cons_zero]
        refine qw_want rfl ?_ (fun w' hw' => ?_) ?_
        rotate_left
        · unfold Oper.quietAt
          go_simp
          exact rfl
        simp only [Act.put, List.setIfInBounds_toArray, List.set_cons_succ, List.set_cons_zero]
        refine qw_want rfl ?_ (fun w' hw' => ?_) ?_
        rotate_left
        · unfold Oper.quietAt
          go_simp
          exact rfl
        simp only [Act.put, List.setIfInBounds_toArray, List.set_cons_succ, List.set_cons_zero]
        refine qw_want rfl ?_ (fun w' hw' => ?_) ?_
        rotate_left
        · unfold Oper.quietAt
          go_simp
          exact rfl
        simp only [Act.put, List.setIfInBounds_toArray, List.set_cons_succ, List.set_cons_zero]
        refine qw_want rfl ?_ (fun w' hw' => ?_) ?_
        rotate_left
        · obtain ⟨k0, k1, ⟨k2, k3, k4, k5⟩, k6, k7, k8⟩ := HFx.out w' hw'
          unfold Oper.quietAt
          go_simp
          exact rfl
        simp only [Act.put, List.setIfInBounds_toArray, List.set_cons_succ, List.set_cons_zero]
        refine qw_want rfl ?_ (fun w' hw' => ?_) ?_
        rotate_left
        · obtain ⟨k0, k1, ⟨k2, k3, k4, k5⟩, k6, k7, k8⟩ := HFx.out w' hw'
          unfold Oper.quietAt
          go_simp
          exact rfl
        simp only [Act.put, List.setIfInBounds_toArray, List.set_cons_succ, List.set_cons_zero]
        refine qw_want rfl ?_ (fun w' hw' => ?_) ?_
        rotate_left
        · unfold Oper.quietAt
          go_simp
          exact rfl
        simp only [Act.put, List.setIfInBounds_toArray, List.set_cons_succ, List.set_cons_zero]
        refine qw_end (fun w5 hb5 => ?_)
        have HB5 := Lib.hid (HB23.out.trans (hb5.mono HB23.out.size))
        obtain ⟨z0, z1, ⟨z2, z3, z4, z5⟩, _⟩ := HFx.out w5 hb5
        clear hb5 ge gg
        go_wp2
        refine bodyPost_ret (v := .tuple #[.int .i64 rbv, .int .i64 0]) (by simp [results, Tryz.results39, go_sem]) rfl (HYes.out rbv 0 _ HVal.out HEx.out (HB0.out.trans (HB5.out.mono HB0.out.size)))
      | false =>
        have HSt := Lib.hid (HJ2.out (fun h => Bool.noConfusion (HI3.out.2 h)))
        refine wp_region_quiet (C := fun w' => Below wr.heap.size wr w') (by kernel_rfl) (by kernel_rfl) (⟨rfl, rfl, rfl, Nat.le_refl _, fun _ _ => rfl⟩) ?_
        refine QW.lit ?_
        refine qw_want rfl ?_ (fun w' hw' => ?_) ?_
        rotate_left
        · unfold Oper.quietAt
          go_simp
          exact rfl
        simp only [Act.put, List.setIfInBounds_toArray, List.set_cons_succ, List.set_cons_zero]
        refine qw_want rfl ?_ (fun w' hw' => ?_) ?_
        rotate_left
        · obtain ⟨k0, k1, ⟨k2, k3, k4, k5⟩, k6, k7, k8⟩ := HFx.out w' hw'
          unfold Oper.quietAt
          go_simp
          exact rfl
        simp only [Act.put, List.setIfInBounds_toArray, List.set_cons_succ, List.set_cons_zero]
        refine qw_want rfl ?_ (fun w' hw' => ?_) ?_
        rotate_left
        · unfold Oper.quietAt
          go_simp
          exact rfl
        simp only [Act.put, List.setIfInBounds_toArray, List.set_cons_succ, List.set_cons_zero]
        refine qw_want rfl ?_ (fun w' hw' => ?_) ?_
        rotate_left
        · unfold Oper.quietAt
          go_simp
          exact rfl
        simp only [Act.put, List.setIfInBounds_toArray, List.set_cons_succ, List.set_cons_zero]
        refine qw_want rfl ?_ (fun w' hw' => ?_) ?_
        rotate_left
        · unfold Oper.quietAt
          go_simp
          exact rfl
        simp only [Act.put, List.setIfInBounds_toArray, List.set_cons_succ, List.set_cons_zero]
        refine qw_want rfl ?_ (fun w' hw' => ?_) ?_
        rotate_left
        · obtain ⟨k0, k1, ⟨k2, k3, k4, k5⟩, k6, k7, k8⟩ := HFx.out w' hw'
          unfold Oper.quietAt
          go_simp
          exact rfl
        simp only [Act.put, List.setIfInBounds_toArray, List.set_cons_succ, List.set_cons_zero]
        refine qw_want rfl ?_ (fun w' hw' => ?_) ?_
        rotate_left
        · unfold Oper.quietAt
          go_simp
          exact rfl
        simp only [Act.put, List.setIfInBounds_toArray, List.set_cons_succ, List.set_cons_zero]
        refine qw_want rfl ?_ (fun w' hw' => ?_) ?_
        rotate_left
        · unfold Oper.quietAt
          go_simp
          exact rfl
        simp only [Act.put, List.setIfInBounds_toArray, List.set_cons_succ, List.set_cons_zero]
        refine qw_want rfl ?_ (fun w' hw' => ?_) ?_
        rotate_left
        · unfold Oper.quietAt
          go_simp
          exact rfl
        simp only [Act.put, List.setIfInBounds_toArray, List.set_cons_succ, List.set_cons_zero]
        refine qw_want rfl ?_ (fun w' hw' => ?_) ?_
        rotate_left
        · obtain ⟨k0, k1, ⟨k2, k3, k4, k5⟩, k6, k7, k8⟩ := HFx.out w' hw'
          unfold Oper.quietAt
          go_simp
          exact rfl
        simp only [Act.put, List.setIfInBounds_toArray, List.set_cons_succ, List.set_cons_zero]
        refine qw_want rfl ?_ (fun w' hw' => ?_) ?_
        rotate_left
        · obtain ⟨k0, k1, ⟨k2, k3, k4, k5⟩, k6, k7, k8⟩ := HFx.out w' hw'
          unfold Oper.quietAt
          go_simp
          exact rfl
        simp only [Act.put, List.setIfInBounds_toArray, List.set_cons_succ, List.set_cons_zero]
        refine qw_want rfl ?_ (fun w' hw' => ?_) ?_
        rotate_left
        · unfold Oper.quietAt
          go_simp
          exact rfl
        simp only [Act.put, List.setIfInBounds_toArray, List.set_cons_succ, List.set_cons_zero]
        refine qw_end (fun w5 hb5 => ?_)
        have HB5 := Lib.hid (HB3.out.trans (hb5.mono HB3.out.size))
        clear hb5 ge gg
        go_wp2
        go_roundg gk
        case measure => omega
        case rel => exact ⟨i + 1, by omega, by go_num, HSt.out, HB5.out⟩
end Go.Proofs.YtkapbdjobfbhhaaGreat

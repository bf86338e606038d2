/- A node's value of its arguments' values, kind by kind. -/
import Derived.Test.YtlipnnibagidiaaGreatVlP
namespace Go.Proofs.YtlipnnibagidiaaGreat
open Go.RowKit Go.Lib
def setT (r : RwM) (i : Nat) (x : Int) : RwM := if i = 0 then ⟨x, r.a1, r.a2, r.val⟩ else if i = 1 then ⟨r.a0, x, r.a2, r.val⟩ else ⟨r.a0, r.a1, x, r.val⟩
theorem setT_cells (r : RwM) {i : Nat} (h : i < 3) (x : Int) : r.tri.setIfInBounds i (.int .i64 x) = (setT r i x).tri := by
  match i, h with
  | 0, _ => rfl
  | 1, _ => rfl
  | 2, _ => rfl
def TriIn (r : RwM) : Prop := I64 r.a0 ∧ I64 r.a1 ∧ I64 r.a2
theorem setT_in {r : RwM} (h : TriIn r) {i : Nat} (hi : i < 3) {x : Int} (hx : I64 x) : TriIn (setT r i x) := by
  match i, hi with
  | 0, _ => exact ⟨hx, h.2.1, h.2.2⟩
  | 1, _ => exact ⟨h.1, hx, h.2.2⟩
  | 2, _ => exact ⟨h.1, h.2.1, hx⟩
def AskIs (g : SigV) (wl : WldV) (fn : Int) (w : World) (e : Ending) (w' : World) : Prop := ∃ (r : RwM) (er : Int), e = .returned (.tuple #[.agg #[.int .i64 r.a0, .int .i64 r.a1, .int .i64 r.a2], .int .i64 er]) ∧ (er = 0 → TriIn r ∧ MayW g wl ∧ ∃ (k : Nat), k < g.funs.length ∧ fn = k) ∧ Below w.heap.size w w'
theorem AskIs.no {g : SigV} {wl : WldV} {fn : Int} {er : Int} (r : RwM) {w w' : World} (he : er ≠ 0) (h : Below w.heap.size w w') : AskIs g wl fn w (.returned (.tuple #[.agg #[.int .i64 r.a0, .int .i64 r.a1, .int .i64 r.a2], .int .i64 er])) w' := ⟨r, er, rfl, fun e => absurd e he, h⟩
structure QX (w : World) (B : Nat) (g : SigV) (wl : WldV) (r : RwM) (W : World) : Prop where
  sg : Blk W B 26 g.cells
  wd : Blk W (B + 1) 30 wl.cells
  res : Blk W (B + 1 + 1) 49 #[.int .i64 0, .int .i64 0, .int .i64 0]
  ar : Blk W (B + 1 + 1 + 1) 49 r.tri
  hB : w.heap.size = B
  bel : Below w.heap.size w W
theorem QX.below {w W W' : World} {B : Nat} {g : SigV} {wl : WldV} {r : RwM} (h : QX w B g wl r W) (hb : Below W.heap.size W W') : QX w B g wl r W' :=
  ⟨h.sg.below hb h.sg.lt, h.wd.below hb h.wd.lt, h.res.below hb h.res.lt, h.ar.below hb h.ar.lt, h.hB, h.bel.trans (hb.mono h.bel.size)⟩
theorem QX.set {w W : World} {B : Nat} {g : SigV} {wl : WldV} {r : RwM} (h : QX w B g wl r W) {i : Nat} (hi : i < 3) (x : Int) : QX w B g wl (setT r i x) (W.setCell ⟨B + 1 + 1 + 1, i, none⟩ (.int .i64 x)) := by
  have hk := Kept.set1 W (B + 1 + 1 + 1) i (.int .i64 x)
  have h4 := h.ar.set_ i (.int .i64 x)
  rw [setT_cells r hi] at h4
  have hB := h.hB
  exact ⟨h.sg.kept hk (by omega), h.wd.kept hk (by omega), h.res.kept hk (by omega), h4, h.hB, h.bel.trans (hk.below h.bel.size (fun q e => by omega))⟩
theorem QX.fin {w W : World} {B : Nat} {g : SigV} {wl : WldV} {r : RwM} (h : QX w B g wl r W) (a b c : Int) :
    ((((W.setCell ⟨B + 1 + 1, 0, none⟩ (.int .i64 a)).setCell ⟨B + 1 + 1, 1, none⟩ (.int .i64 b)).setCell ⟨B + 1 + 1, 2, none⟩ (.int .i64 c)).cell? ⟨B + 1 + 1, 0, none⟩ = some (.int .i64 a)) ∧
    ((((W.setCell ⟨B + 1 + 1, 0, none⟩ (.int .i64 a)).setCell ⟨B + 1 + 1, 1, none⟩ (.int .i64 b)).setCell ⟨B + 1 + 1, 2, none⟩ (.int .i64 c)).cell? ⟨B + 1 + 1, 1, none⟩ = some (.int .i64 b)) ∧
    ((((W.setCell ⟨B + 1 + 1, 0, none⟩ (.int .i64 a)).setCell ⟨B + 1 + 1, 1, none⟩ (.int .i64 b)).setCell ⟨B + 1 + 1, 2, none⟩ (.int .i64 c)).cell? ⟨B + 1 + 1, 2, none⟩ = some (.int .i64 c)) ∧
    Below w.heap.size w (((W.setCell ⟨B + 1 + 1, 0, none⟩ (.int .i64 a)).setCell ⟨B + 1 + 1, 1, none⟩ (.int .i64 b)).setCell ⟨B + 1 + 1, 2, none⟩ (.int .i64 c)) := by
  have hB := h.hB
  have h3 := ((h.res.set_ 0 (.int .i64 a)).set_ 1 (.int .i64 b)).set_ 2 (.int .i64 c)
  exact ⟨h3.cell 0, h3.cell 1, h3.cell 2, ((h.bel.setCell (by simp; omega) _).setCell (by simp; omega) _).setCell (by simp; omega) _⟩
set_option maxRecDepth 100000 in
set_option maxHeartbeats 8000000 in
theorem asked_ok {w : World} {g : SigV} {wl : WldV} {A : Option Addr} {L : List Int} (c : Nat) (hg : SigAt w g) (hd : SigDeep w g) (hw : WldAt w wl) (hL : Row w A L) (h3 : L.length ≤ 3) (hI : ∀ x ∈ L, I64 x) (fn : Int) :
    Calls Tryz.prog 148 #[.agg g.cells, .agg wl.cells, .int .i64 fn, .slice A L.length c] w (AskIs g wl fn w) := by
  obtain ⟨B, hB⟩ : ∃ B, w.heap.size = B := ⟨_, rfl⟩
  obtain ⟨w0, hw0⟩ : ∃ w0, (((w.alloc (.cells g.cells 26)).alloc (.cells wl.cells 30)).alloc (.cells #[.int .i64 0, .int .i64 0, .int .i64 0] 49)).alloc (.cells #[.int .i64 0, .int .i64 0, .int .i64 0] 49) = w0 := ⟨_, rfl⟩
  have HQ0 : Hid (QX w B g wl ⟨0, 0, 0, 0⟩ w0) := zzh (by
    rw [← hw0, ← hB]
    exact ⟨(((Blk.new w 26 g.cells).alloc _).alloc _).alloc _, ((Blk.new_at (by simp) _ _).alloc _).alloc _, (Blk.new_at (by simp) _ _).alloc _, Blk.new_at (by simp) _ _, rfl, ((((Below.refl _ w).alloc (Nat.le_refl _) _).alloc (by simp) _).alloc (by simp; omega) _).alloc (by simp; omega) _⟩)
  have HG := zzh hg
  have HLr := zzh hL
  have HIn := zzh hI
  have hn1 := hg.n1
  have HWf := zzh hg.wf
  have HGC : Hid (g.cells = #[.slice g.A0 g.sorts.length g.c0, .slice g.A1 g.funs.length g.c1, .slice g.A2 g.macs.length g.c2]) := zzh rfl
  have HVC : Hid (wl.cells = #[.slice wl.A0 wl.sizes.length wl.c0, .slice wl.A1 wl.funs.length wl.c1]) := zzh rfl
  have KM := zzh (fun W (hW : Below w.heap.size w W) => lmay09_ok (hg.below hW) (hd.below hW) (hw.below hW))
  have KF := zzh (fun W (hW : Below w.heap.size w W) (f : FnM) (r : RwM) (hf : f.Wf) (hl : g.sorts.length ≤ 4) => fits09_ok g r (hw.below hW) (by omega) hf)
  have HNo : Hid (∀ (r : RwM) (er : Int) w', er ≠ 0 → Below w.heap.size w w' → AskIs g wl fn w (.returned (.tuple #[.agg #[.int .i64 r.a0, .int .i64 r.a1, .int .i64 r.a2], .int .i64 er])) w') := zzh (fun r er w' h1 h2 => AskIs.no r h1 h2)
  rw [HGC.out, HVC.out] at hw0 KM KF ⊢
  have HW0 := zzh hw0
  have HBs := zzh hB
  clear hw0 hg hd hw hL hI
  go_enter Tryz.func148, Tryz.ntmps148
  go_upto_region 2 with fail
  rw [HW0.out]
  clear HW0 hB
  have KM0 := zzh (KM.out w0 HQ0.out.bel)
  obtain ⟨x0, x1, x2⟩ := sig_blk HQ0.out.sg
  obtain ⟨x3, x4⟩ := wld_blk HQ0.out.wd
  go_wp2_with fail
  refine KM0.out.mono ?_
  rintro e w1 ⟨qm, rfl, hqm, hb1⟩
  have HQ1 := zzh (HQ0.out.below hb1)
  have HMy := zzh hqm
  obtain ⟨y0, y1, y2⟩ := sig_blk HQ1.out.sg
  have ya : w1.cell? ⟨B + 1 + 1 + 1, 0, none⟩ = some (.int .i64 0) := HQ1.out.ar.cell 0
  have yb : w1.cell? ⟨B + 1 + 1 + 1, 1, none⟩ = some (.int .i64 0) := HQ1.out.ar.cell 1
  have yc : w1.cell? ⟨B + 1 + 1 + 1, 2, none⟩ = some (.int .i64 0) := HQ1.out.ar.cell 2
  obtain ⟨r0, r1, r2⟩ := blk3 HQ1.out.res
  have rf0 := HQ1.out.res.frozen 0
  have rf1 := HQ1.out.res.frozen 1
  have rf2 := HQ1.out.res.frozen 2
  clear hb1 hqm x0 x1 x2 x3 x4 KM0
  cases qm with
  | false =>
    go_wp2
    obtain ⟨o0, o1, o2, o3⟩ := HQ1.out.fin 0 0 0
    refine bodyPost_ret (v := .tuple #[.agg #[.int .i64 0, .int .i64 0, .int .i64 0], .int .i64 2]) (by simp [results, Tryz.results148, go_sem, o0, o1, o2]) rfl ?_
    exact HNo.out ⟨0, 0, 0, 0⟩ 2 _ (by decide) o3
  | true =>
    have HMw : Hid (MayW g wl) := zzh (HMy.out rfl)
    clear HMy
    by_cases h1 : fn < 0
    · have e2 : decide (fn < 0) = true := decide_eq_true h1
      clear h1
      go_wp2
      obtain ⟨o0, o1, o2, o3⟩ := HQ1.out.fin 0 0 0
      refine bodyPost_ret (v := .tuple #[.agg #[.int .i64 0, .int .i64 0, .int .i64 0], .int .i64 2]) (by simp [results, Tryz.results148, go_sem, o0, o1, o2]) rfl ?_
      exact HNo.out ⟨0, 0, 0, 0⟩ 2 _ (by decide) o3
    obtain ⟨k, rfl⟩ : ∃ k : Nat, fn = k := ⟨fn.toNat, by omega⟩
    clear h1
    have e2 : decide ((k : Int) < 0) = false := decide_eq_false (by omega)
    by_cases h2 : k < g.funs.length
    rotate_left
    · have e3 : decide ((k : Int) ≥ (g.funs.length : Int)) = true := decide_eq_true (by omega)
      have e3' : decide ((g.funs.length : Int) ≤ (k : Int)) = true := decide_eq_true (by omega)
      have e3'' : decide (g.funs.length ≤ k) = true := decide_eq_true (by omega)
      clear h2
      go_wp2
      obtain ⟨o0, o1, o2, o3⟩ := HQ1.out.fin 0 0 0
      refine bodyPost_ret (v := .tuple #[.agg #[.int .i64 0, .int .i64 0, .int .i64 0], .int .i64 2]) (by simp [results, Tryz.results148, go_sem, o0, o1, o2]) rfl ?_
      exact HNo.out ⟨0, 0, 0, 0⟩ 2 _ (by decide) o3
    have e3 : decide ((k : Int) ≥ (g.funs.length : Int)) = false := decide_eq_false (by omega)
    have e3' : decide ((g.funs.length : Int) ≤ (k : Int)) = false := decide_eq_false (by omega)
    have e3'' : decide (g.funs.length ≤ k) = false := decide_eq_false (by omega)
    have t1 : (0 : Int) ≤ (k : Int) := by omega
    have t2 : (k : Int) < (g.funs.length : Int) := by omega
    obtain ⟨b, off, hA, hb, hat⟩ := HG.out.f k h2
    have hbB : b < w.heap.size := hb
    have HFn : Hid (∀ W, Below w.heap.size w W → FnAt W b (off + k * 6) g.funs[k]) := zzh (fun W hW => hat.below hW hbB)
    have hfw := hat.wf
    have HYes : Hid (∀ (r : RwM) w', TriIn r → Below w.heap.size w w' → AskIs g wl (k : Int) w (.returned (.tuple #[.agg #[.int .i64 r.a0, .int .i64 r.a1, .int .i64 r.a2], .int .i64 0])) w') := zzh (fun r w' h1 h3 => ⟨r, 0, rfl, fun _ => ⟨h1, HMw.out, k, h2, rfl⟩, h3⟩)
    have KF1 := zzh (fun W (hW : Below w.heap.size w W) (r : RwM) => KF.out W hW g.funs[k] r hfw HMw.out.n0)
    obtain ⟨f1, f2, f3, f4, f5, f6, _⟩ := HFn.out w1 HQ1.out.bel
    rw [hA] at y1
    have HAq := zzh hA
    clear hat hA hb hbB hfw
    generalize g.funs[k] = f at *
    clear h2
    obtain ⟨nm, len, a0, a1, a2, res⟩ := f
    unfold FnM.agg at KF1
    simp only at f1 f2 f3 f4 f5 f6 KF1
    by_cases h4 : (L.length : Int) = len
    rotate_left
    · have e4 : ((L.length : Int) != len) = true := bne_iff_ne.2 h4
      clear h4
      go_wp2
      obtain ⟨o0, o1, o2, o3⟩ := HQ1.out.fin 0 0 0
      refine bodyPost_ret (v := .tuple #[.agg #[.int .i64 0, .int .i64 0, .int .i64 0], .int .i64 2]) (by simp [results, Tryz.results148, go_sem, o0, o1, o2]) rfl ?_
      exact HNo.out ⟨0, 0, 0, 0⟩ 2 _ (by decide) o3
    subst h4
    have e4 : ((L.length : Int) != (L.length : Int)) = false := by simp
    go_wp2
    clear ya yb yc r0 r1 r2 rf0 rf1 rf2 y0 y1 y2 f1 f2 f3 f4 f5 f6
    have HIni : Hid (TriIn ⟨0, 0, 0, 0⟩) := zzh ⟨⟨by decide, by decide⟩, ⟨by decide, by decide⟩, ⟨by decide, by decide⟩⟩
    go_loopg [11] L.length (fun g' v wr => ∃ (i : Nat) (r : RwM), i + g' = L.length ∧ v = .int .i64 i ∧ TriIn r ∧ QX w B g wl r wr)
    case atStart => exact ⟨0, _, by omega, rfl, HIni.out, HQ1.out⟩
    case round =>
      obtain ⟨i, r, hig, rfl, hin, hq⟩ := hrel
      have HQ := zzh hq
      have HTi := zzh hin
      clear hq hin
      cases gk with
      | succ gk =>
        have hlt : i < L.length := by omega
        have d1 : decide ((i : Int) < L.length) = true := by simp; omega
        have u1 : (0 : Int) ≤ (i : Int) := by omega
        have u2 : (i : Int) < (L.length : Int) := by omega
        have u3 : (i : Int) < (3 : Int) := by omega
        have hi3 : i < 3 := by omega
        obtain ⟨b2, off2, hA2, hb2, hc2⟩ := (HLr.out.below HQ.out.bel).at_.resolve_left (by omega)
        have y0 := hc2 i hlt
        have z1 : wr.cell? ⟨B + 1 + 1 + 1, i, none⟩ = some (.int .i64 (r.arg i)) := by rw [HQ.out.ar.cell]; exact RwM.tri_arg r hi3
        have z2 := HQ.out.ar.frozen i
        subst hA2
        have HS := zzh (HQ.out.set hi3 L[i])
        have HSi := zzh (setT_in HTi.out hi3 (HIn.out L[i] (List.getElem_mem hlt)))
        clear hc2
        generalize L[i] = x at *
        go_wp2
        go_roundg gk
        case measure => omega
        case rel => exact ⟨i + 1, _, by omega, by go_num, HSi.out, HS.out⟩
      | zero =>
        obtain rfl : i = L.length := by omega
        have d1 : decide ((L.length : Int) < L.length) = false := by simp
        have HD1 := zzh (HQ.out.below (below_drewN (Below.refl wr.heap.size wr) 1))
        have KX := zzh (KF1.out wr.drew HD1.out.bel r)
        have HFx : Hid (∀ W, QX w B g wl r W → (W.cell? ⟨B, 0, none⟩ = some (.slice g.A0 g.sorts.length g.c0) ∧ W.cell? ⟨B, 1, none⟩ = some (.slice (some ⟨b, off, none⟩) g.funs.length g.c1) ∧ W.cell? ⟨B, 2, none⟩ = some (.slice g.A2 g.macs.length g.c2)) ∧ (W.cell? ⟨B + 1, 0, none⟩ = some (.slice wl.A0 wl.sizes.length wl.c0) ∧ W.cell? ⟨B + 1, 1, none⟩ = some (.slice wl.A1 wl.funs.length wl.c1)) ∧ (W.cell? ⟨B + 1 + 1 + 1, 0, none⟩ = some (.int .i64 r.a0) ∧ W.cell? ⟨B + 1 + 1 + 1, 1, none⟩ = some (.int .i64 r.a1) ∧ W.cell? ⟨B + 1 + 1 + 1, 2, none⟩ = some (.int .i64 r.a2)) ∧ W.cell? ⟨b, off + k * 6, none⟩ = some (.string nm) ∧ W.cell? ⟨b, off + k * 6 + 1, none⟩ = some (.int .i64 (L.length : Int)) ∧ W.cell? ⟨b, off + k * 6 + 2, none⟩ = some (.int .i64 a0) ∧ W.cell? ⟨b, off + k * 6 + 3, none⟩ = some (.int .i64 a1) ∧ W.cell? ⟨b, off + k * 6 + 4, none⟩ = some (.int .i64 a2) ∧ W.cell? ⟨b, off + k * 6 + 5, none⟩ = some (.int .i64 res)) := zzh (fun W hW => by
          obtain ⟨k0, k1, k2, k3, k4, k5, _⟩ := HFn.out W hW.bel
          exact ⟨by rw [← HAq.out]; exact sig_blk hW.sg, wld_blk hW.wd, blk3 hW.ar, k0, k1, k2, k3, k4, k5⟩)
        obtain ⟨⟨x0, x1, x2⟩, ⟨x3, x4⟩, ⟨x5, x6, x7⟩, x8, x9, x10, x11, x12, x13⟩ := HFx.out wr.drew HD1.out
        unfold RwM.tri at KX
        rw [HAq.out] at KX
        clear hig
        go_upto_region 8 with fail
        go_region_held3 (fun w' => w'.cell? ⟨B, 0, none⟩ = some (.slice g.A0 g.sorts.length g.c0) ∧ w'.cell? ⟨B, 1, none⟩ = some (.slice (some ⟨b, off, none⟩) g.funs.length g.c1) ∧ w'.cell? ⟨B, 2, none⟩ = some (.slice g.A2 g.macs.length g.c2) ∧ w'.cell? ⟨B + 1, 0, none⟩ = some (.slice wl.A0 wl.sizes.length wl.c0) ∧ w'.cell? ⟨B + 1, 1, none⟩ = some (.slice wl.A1 wl.funs.length wl.c1) ∧ w'.cell? ⟨B + 1 + 1 + 1, 0, none⟩ = some (.int .i64 r.a0) ∧ w'.cell? ⟨B + 1 + 1 + 1, 1, none⟩ = some (.int .i64 r.a1) ∧ w'.cell? ⟨B + 1 + 1 + 1, 2, none⟩ = some (.int .i64 r.a2) ∧ w'.cell? ⟨b, off + k * 6, none⟩ = some (.string nm) ∧ w'.cell? ⟨b, off + k * 6 + 1, none⟩ = some (.int .i64 (L.length : Int)) ∧ w'.cell? ⟨b, off + k * 6 + 2, none⟩ = some (.int .i64 a0) ∧ w'.cell? ⟨b, off + k * 6 + 3, none⟩ = some (.int .i64 a1) ∧ w'.cell? ⟨b, off + k * 6 + 4, none⟩ = some (.int .i64 a2) ∧ w'.cell? ⟨b, off + k * 6 + 5, none⟩ = some (.int .i64 res)) (go_keep) ((go_at_call 100; refine KX.out.mono ?_; rintro e w3 ⟨rfl, hb3⟩; have HQ3 := zzh (HD1.out.below hb3); obtain ⟨⟨y0, y1, y2⟩, ⟨y3, y4⟩, ⟨y5, y6, y7⟩, y8, y9, y10, y11, y12, y13⟩ := HFx.out w3 HQ3.out; clear hb3 x0 x1 x2 x3 x4 x5 x6 x7 x8 x9 x10 x11 x12 x13))
        obtain ⟨r0, r1, r2⟩ := blk3 HQ3.out.res
        have rf0 := HQ3.out.res.frozen 0
        have rf1 := HQ3.out.res.frozen 1
        have rf2 := HQ3.out.res.frozen 2
        cases hqf : fitsM g.sorts.length wl.sizes ⟨nm, (L.length : Int), a0, a1, a2, res⟩ r with
        | false =>
          go_wp2
          obtain ⟨o0, o1, o2, o3⟩ := HQ3.out.fin r.a0 r.a1 r.a2
          refine bodyPost_ret (v := .tuple #[.agg #[.int .i64 r.a0, .int .i64 r.a1, .int .i64 r.a2], .int .i64 33]) (by simp [results, Tryz.results148, go_sem, o0, o1, o2]) rfl ?_
          exact HNo.out r 33 _ (by decide) o3
        | true =>
          go_wp2
          obtain ⟨o0, o1, o2, o3⟩ := HQ3.out.fin r.a0 r.a1 r.a2
          refine bodyPost_ret (v := .tuple #[.agg #[.int .i64 r.a0, .int .i64 r.a1, .int .i64 r.a2], .int .i64 0]) (by simp [results, Tryz.results148, go_sem, o0, o1, o2]) rfl ?_
          exact HYes.out r _ HTi.out o3
structure WldWf (wl : WldV) : Prop where
  els : ∀ f ∈ wl.funs, I64 f.els
  val : ∀ f ∈ wl.funs, ∀ r ∈ f.rows, I64 r.val
def AppV (g : SigV) (wl : WldV) (fn x : Int) : Prop := I64 x ∧ (x = 0 ∨ ∃ (k : Nat) (h : k < g.funs.length), fn = k ∧ isM g.sorts.length wl.sizes g.funs[k].res x = true)
def ApIs (g : SigV) (wl : WldV) (fn : Int) (w : World) (e : Ending) (w' : World) : Prop := ∃ x er, e = .returned (.tuple #[.int .i64 x, .int .i64 er]) ∧ AppV g wl fn x ∧ Below w.heap.size w w'
theorem AppV.zero (g : SigV) (wl : WldV) (fn : Int) : AppV g wl fn 0 := ⟨⟨by decide, by decide⟩, .inl rfl⟩
set_option maxRecDepth 100000 in
set_option maxHeartbeats 8000000 in
theorem apply_ok {w : World} {g : SigV} {wl : WldV} {A : Option Addr} {L : List Int} (c : Nat) (hg : SigAt w g) (hd : SigDeep w g) (hw : WldAt w wl) (hwf : WldWf wl) (hL : Row w A L) (h3 : L.length ≤ 3) (hI : ∀ x ∈ L, I64 x) (fn : Int) :
    Calls Tryz.prog 105 #[.agg g.cells, .agg wl.cells, .int .i64 fn, .slice A L.length c] w (ApIs g wl fn w) := by
  obtain ⟨B, hB⟩ : ∃ B, w.heap.size = B := ⟨_, rfl⟩
  obtain ⟨w0, hw0⟩ : ∃ w0, (w.alloc (.cells g.cells 26)).alloc (.cells wl.cells 30) = w0 := ⟨_, rfl⟩
  have HB0 : Hid (Below w.heap.size w w0) := zzh (by rw [← hw0]; exact (sig_box w g).alloc (sig_box w g).size _)
  have HG0 : Hid (Blk w0 B 26 g.cells) := zzh (by rw [← hw0, ← hB]; exact (Blk.new w 26 g.cells).alloc _)
  have HV0 : Hid (Blk w0 (B + 1) 30 wl.cells) := zzh (by rw [← hw0, ← hB]; exact Blk.new_at (by simp) _ _)
  have HWl := zzh (hw.below HB0.out)
  have HWw := zzh hwf
  have HGC : Hid (g.cells = #[.slice g.A0 g.sorts.length g.c0, .slice g.A1 g.funs.length g.c1, .slice g.A2 g.macs.length g.c2]) := zzh rfl
  have HVC : Hid (wl.cells = #[.slice wl.A0 wl.sizes.length wl.c0, .slice wl.A1 wl.funs.length wl.c1]) := zzh rfl
  have KA := zzh (asked_ok c (hg.below HB0.out) (hd.below HB0.out) HWl.out (hL.below HB0.out) h3 hI fn)
  have HYes : Hid (∀ x er w', AppV g wl fn x → Below w.heap.size w w' → ApIs g wl fn w (.returned (.tuple #[.int .i64 x, .int .i64 er])) w') := zzh (fun x er w' h1 h2 => ⟨x, er, rfl, h1, h2⟩)
  rw [HGC.out, HVC.out] at hw0 KA ⊢
  obtain ⟨x0, x1, x2⟩ := sig_blk HG0.out
  obtain ⟨x3, x4⟩ := wld_blk HV0.out
  have HW0 := zzh hw0
  clear hw0 hg hd hw hL hI hwf
  go_enter Tryz.func105, Tryz.ntmps105
  go_upto_region 1 with fail
  rw [HW0.out]
  clear HW0 hB
  go_wp2_with fail
  refine KA.out.mono ?_
  rintro e w1 ⟨r, er, rfl, hyes, hb1⟩
  obtain ⟨ab, hab⟩ : ∃ ab, w1.heap.size = ab := ⟨_, rfl⟩
  obtain ⟨w2, hw2⟩ : ∃ w2, w1.alloc (.cells #[.int .i64 r.a0, .int .i64 r.a1, .int .i64 r.a2] 49) = w2 := ⟨_, rfl⟩
  have HB2 : Hid (Below w0.heap.size w0 w2) := zzh (by rw [← hw2]; exact hb1.alloc hb1.size _)
  have HA2 : Hid (Blk w2 ab 49 #[.int .i64 r.a0, .int .i64 r.a1, .int .i64 r.a2]) := zzh (by rw [← hw2, ← hab]; exact Blk.new _ _ _)
  have HY := zzh hyes
  have HW2 := zzh hw2
  have HAB := zzh hab
  clear hw2 hab hyes x0 x1 x2 x3 x4 KA
  go_upto_region 2 with fail
  rw [HW2.out, HAB.out]
  clear HW2 HAB hb1
  by_cases he : er = 0
  rotate_left
  · have e1 : (er != 0) = true := bne_iff_ne.2 he
    clear he
    go_wp2
    refine bodyPost_ret (v := .tuple #[.int .i64 0, .int .i64 er]) (by simp [results, Tryz.results105, go_sem]) rfl (HYes.out 0 er _ (AppV.zero g wl fn) (HB0.out.trans (HB2.out.mono HB0.out.size)))
  have e1 : (er != 0) = false := by rw [he]; rfl
  obtain ⟨⟨i0, i1, i2⟩, hmay, k, hk, rfl⟩ := HY.out he
  have hkV : k < wl.funs.length := by have := hmay.fl; omega
  have t1 : (0 : Int) ≤ (k : Int) := by omega
  have t2 : (k : Int) < (wl.funs.length : Int) := by omega
  have HIs : Hid ((∀ x, x = wl.funs[k].els → AppV g wl (k : Int) x) ∧ ∀ r ∈ wl.funs[k].rows, AppV g wl (k : Int) r.val) := zzh (by
    obtain ⟨h1, h2⟩ := hmay.is k hk hkV
    exact ⟨fun x hx => ⟨by rw [hx]; exact HWw.out.els _ (List.getElem_mem hkV), .inr ⟨k, hk, rfl, by rw [hx]; exact h1⟩⟩, fun r hr => ⟨HWw.out.val _ (List.getElem_mem hkV) r hr, .inr ⟨k, hk, rfl, h2 r hr⟩⟩⟩)
  obtain ⟨b, off, hA, hb, c0, c1⟩ := HWl.out.f k hkV
  have HRows := zzh (HWl.out.r wl.funs[k] (List.getElem_mem hkV))
  have hgv : ∀ W, Below w0.heap.size w0 W → W.cell? ⟨B + 1, 1, none⟩ = some (.slice (some ⟨b, off, none⟩) wl.funs.length wl.c1) := fun W hW => by
    rw [← hA]
    exact (wld_blk (HV0.out.below hW HV0.out.lt)).2
  have HGv := zzh hgv
  have HF : Hid (∀ W, Below w0.heap.size w0 W → W.cell? ⟨b, off + k * 2, none⟩ = some (.slice wl.funs[k].R wl.funs[k].rows.length wl.funs[k].rc) ∧ W.cell? ⟨b, off + k * 2 + 1, none⟩ = some (.int .i64 wl.funs[k].els)) := zzh (fun W hW => ⟨(hW.cell (p := ⟨b, off + k * 2, none⟩) hb).trans c0, (hW.cell (p := ⟨b, off + k * 2 + 1, none⟩) hb).trans c1⟩)
  clear he hA hb c0 c1 hgv hmay hk HY
  generalize wl.funs[k] = vv at *
  clear hkV
  obtain ⟨R, rc, rows, els⟩ := vv
  try simp only at HIs HF HRows
  have hrn := HRows.out.1
  try simp only at hrn
  have x4 := HGv.out w2 HB2.out
  obtain ⟨f0, f1⟩ := HF.out w2 HB2.out
  have HZ2 := zzh (Below.refl w2.heap.size w2)
  go_wp2
  clear x4 f0 f1
  go_loopg [12] rows.length (fun g' v wr => ∃ i : Nat, i + g' = rows.length ∧ v = .int .i64 i ∧ Below w2.heap.size w2 wr)
  case atStart => exact ⟨0, by omega, rfl, HZ2.out⟩
  case round =>
    obtain ⟨i, hig, rfl, hb⟩ := hrel
    have HB3 := zzh hb
    have HB23 := zzh (HB2.out.trans (hb.mono HB2.out.size))
    have x4 := HGv.out wr HB23.out
    obtain ⟨f0, f1⟩ := HF.out wr HB23.out
    clear hb
    cases gk with
    | zero =>
      obtain rfl : i = rows.length := by omega
      have d1 : decide ((rows.length : Int) < rows.length) = false := by simp
      go_wp2
      refine bodyPost_ret (v := .tuple #[.int .i64 els, .int .i64 0]) (by simp [results, Tryz.results105, go_sem]) rfl (HYes.out els 0 _ (HIs.out.1 _ rfl) (HB0.out.trans (HB23.out.mono HB0.out.size)))
    | succ gk =>
      have hlt : i < rows.length := by omega
      have d1 : decide ((i : Int) < rows.length) = true := by simp; omega
      have u1 : (0 : Int) ≤ (i : Int) := by omega
      have u2 : (i : Int) < (rows.length : Int) := by omega
      obtain ⟨rb, ro, hR, hrb, hat⟩ := HRows.out.2 i hlt
      have hR : R = some ⟨rb, ro, none⟩ := hR
      obtain ⟨j0, j1, j2, j3, ji0, ji1, ji2⟩ := hat.below HB23.out hrb
      have HVal := zzh (HIs.out.2 rows[i] (List.getElem_mem hlt))
      subst hR
      try simp only at j0 j1 j2 j3 ji0 ji1 ji2
      generalize rows[i] = rj at *
      obtain ⟨rb0, rb1, rb2, rbv⟩ := rj
      try simp only at j0 j1 j2 j3 ji0 ji1 ji2 HVal
      have HFx : Hid (∀ W, Below wr.heap.size wr W → W.cell? ⟨B + 1, 1, none⟩ = some (.slice (some ⟨b, off, none⟩) wl.funs.length wl.c1) ∧ W.cell? ⟨b, off + k * 2, none⟩ = some (.slice (some ⟨rb, ro, none⟩) rows.length rc) ∧ (W.cell? ⟨rb, ro + i * 4, none⟩ = some (.int .i64 rb0) ∧ W.cell? ⟨rb, ro + i * 4 + 1, none⟩ = some (.int .i64 rb1) ∧ W.cell? ⟨rb, ro + i * 4 + 2, none⟩ = some (.int .i64 rb2) ∧ W.cell? ⟨rb, ro + i * 4 + 3, none⟩ = some (.int .i64 rbv)) ∧ W.cell? ⟨ab, 0, none⟩ = some (.int .i64 r.a0) ∧ W.cell? ⟨ab, 1, none⟩ = some (.int .i64 r.a1) ∧ W.cell? ⟨ab, 2, none⟩ = some (.int .i64 r.a2)) := zzh (fun W hW => by
        have h3 := HB23.out.trans (hW.mono HB23.out.size)
        have hr2 := World.block_lt_of_cell? _ _ j0
        have ha := HA2.out.below (HB3.out.trans (hW.mono HB3.out.size)) HA2.out.lt
        exact ⟨HGv.out W h3, (HF.out W h3).1, ⟨(hW.cell (p := ⟨rb, ro + i * 4, none⟩) hr2).trans j0, (hW.cell (p := ⟨rb, ro + i * 4 + 1, none⟩) hr2).trans j1, (hW.cell (p := ⟨rb, ro + i * 4 + 2, none⟩) hr2).trans j2, (hW.cell (p := ⟨rb, ro + i * 4 + 3, none⟩) hr2).trans j3⟩, ha.cell 0, ha.cell 1, ha.cell 2⟩)
      obtain ⟨rr, hiff, hrr⟩ := tri_eq ji0 ji1 ji2 i0 i1 i2
      unfold triV at hrr
      have ge := tri_eql hrr
      have gg := tri_guard
      clear hiff hrr ji0 ji1 ji2 hat hrb j0 j1 j2 j3
      go_upto_region 7 with fail
      clear x4 f0 f1
      cases rr with
      | true =>
        refine wp_region_quiet (C := fun w' => Below wr.heap.size wr w') (by kernel_rfl) (by kernel_rfl) (⟨rfl, rfl, rfl, Nat.le_refl _, fun _ _ => rfl⟩) ?_
        refine QW.lit ?_
        refine qw_want rfl ?_ (fun w' hw' => ?_) ?_
        rotate_left
        · unfold Oper.quietAt
          go_simp
          exact rfl
        simp only [Act.put, zza, zzc, zzb]
        refine qw_want rfl ?_ (fun w' hw' => ?_) ?_
        rotate_left
        · obtain ⟨k0, k1, ⟨k2, k3, k4, k5⟩, k6, k7, k8⟩ := HFx.out w' hw'
          unfold Oper.quietAt
          go_simp
          exact rfl
        simp only [Act.put, zza, zzc, zzb]
        refine qw_want rfl ?_ (fun w' hw' => ?_) ?_
        rotate_left
        · unfold Oper.quietAt
          go_simp
          exact rfl
        simp only [Act.put, zza, zzc, zzb]
        refine qw_want rfl ?_ (fun w' hw' => ?_) ?_
        rotate_left
        · unfold Oper.quietAt
          go_simp
          exact rfl
        simp only [Act.put, zza, zzc, zzb]
        refine qw_want rfl ?_ (fun w' hw' => ?_) ?_
        rotate_left
        · unfold Oper.quietAt
          go_simp
          exact rfl
        simp only [Act.put, zza, zzc, zzb]
        refine qw_want rfl ?_ (fun w' hw' => ?_) ?_
        rotate_left
        · obtain ⟨k0, k1, ⟨k2, k3, k4, k5⟩, k6, k7, k8⟩ := HFx.out w' hw'
          unfold Oper.quietAt
          go_simp
          exact rfl
        simp only [Act.put, zza, zzc, zzb]
        refine qw_want rfl ?_ (fun w' hw' => ?_) ?_
        rotate_left
        · unfold Oper.quietAt
          go_simp
          exact rfl
        simp only [Act.put, zza, zzc, zzb]
        refine qw_want rfl ?_ (fun w' hw' => ?_) ?_
        rotate_left
        · unfold Oper.quietAt
          go_simp
          exact rfl
        simp only [Act.put, zza, zzc, zzb]
        refine qw_want rfl ?_ (fun w' hw' => ?_) ?_
        rotate_left
        · unfold Oper.quietAt
          go_simp
          exact rfl
        simp only [Act.put, zza, zzc, zzb]
        refine qw_want rfl ?_ (fun w' hw' => ?_) ?_
        rotate_left
        · obtain ⟨k0, k1, ⟨k2, k3, k4, k5⟩, k6, k7, k8⟩ := HFx.out w' hw'
          unfold Oper.quietAt
          go_simp
          exact rfl
        simp only [Act.put, zza, zzc, zzb]
        refine qw_want rfl ?_ (fun w' hw' => ?_) ?_
        rotate_left
        · obtain ⟨k0, k1, ⟨k2, k3, k4, k5⟩, k6, k7, k8⟩ := HFx.out w' hw'
          unfold Oper.quietAt
          go_simp
          exact rfl
        simp only [Act.put, zza, zzc, zzb]
        refine qw_want rfl ?_ (fun w' hw' => ?_) ?_
        rotate_left
        · unfold Oper.quietAt
          go_simp
          exact rfl
        simp only [Act.put, zza, zzc, zzb]
        refine qw_end (fun w5 hb5 => ?_)
        have HB5 := zzh (HB23.out.trans (hb5.mono HB23.out.size))
        obtain ⟨z0, z1, ⟨z2, z3, z4, z5⟩, _⟩ := HFx.out w5 hb5
        clear hb5 ge gg
        go_wp2
        refine bodyPost_ret (v := .tuple #[.int .i64 rbv, .int .i64 0]) (by simp [results, Tryz.results105, go_sem]) rfl (HYes.out rbv 0 _ HVal.out (HB0.out.trans (HB5.out.mono HB0.out.size)))
      | false =>
        refine wp_region_quiet (C := fun w' => Below wr.heap.size wr w') (by kernel_rfl) (by kernel_rfl) (⟨rfl, rfl, rfl, Nat.le_refl _, fun _ _ => rfl⟩) ?_
        refine QW.lit ?_
        refine qw_want rfl ?_ (fun w' hw' => ?_) ?_
        rotate_left
        · unfold Oper.quietAt
          go_simp
          exact rfl
        simp only [Act.put, zza, zzc, zzb]
        refine qw_want rfl ?_ (fun w' hw' => ?_) ?_
        rotate_left
        · obtain ⟨k0, k1, ⟨k2, k3, k4, k5⟩, k6, k7, k8⟩ := HFx.out w' hw'
          unfold Oper.quietAt
          go_simp
          exact rfl
        simp only [Act.put, zza, zzc, zzb]
        refine qw_want rfl ?_ (fun w' hw' => ?_) ?_
        rotate_left
        · unfold Oper.quietAt
          go_simp
          exact rfl
        simp only [Act.put, zza, zzc, zzb]
        refine qw_want rfl ?_ (fun w' hw' => ?_) ?_
        rotate_left
        · unfold Oper.quietAt
          go_simp
          exact rfl
        simp only [Act.put, zza, zzc, zzb]
        refine qw_want rfl ?_ (fun w' hw' => ?_) ?_
        rotate_left
        · unfold Oper.quietAt
          go_simp
          exact rfl
        simp only [Act.put, zza, zzc, zzb]
        refine qw_want rfl ?_ (fun w' hw' => ?_) ?_
        rotate_left
        · obtain ⟨k0, k1, ⟨k2, k3, k4, k5⟩, k6, k7, k8⟩ := HFx.out w' hw'
          unfold Oper.quietAt
          go_simp
          exact rfl
        simp only [Act.put, zza, zzc, zzb]
        refine qw_want rfl ?_ (fun w' hw' => ?_) ?_
        rotate_left
        · unfold Oper.quietAt
          go_simp
          exact rfl
        simp only [Act.put, zza, zzc, zzb]
        refine qw_want rfl ?_ (fun w' hw' => ?_) ?_
        rotate_left
        · unfold Oper.quietAt
          go_simp
          exact rfl
        simp only [Act.put, zza, zzc, zzb]
        refine qw_want rfl ?_ (fun w' hw' => ?_) ?_
        rotate_left
        · unfold Oper.quietAt
          go_simp
          exact rfl
        simp only [Act.put, zza, zzc, zzb]
        refine qw_want rfl ?_ (fun w' hw' => ?_) ?_
        rotate_left
        · obtain ⟨k0, k1, ⟨k2, k3, k4, k5⟩, k6, k7, k8⟩ := HFx.out w' hw'
          unfold Oper.quietAt
          go_simp
          exact rfl
        simp only [Act.put, zza, zzc, zzb]
        refine qw_want rfl ?_ (fun w' hw' => ?_) ?_
        rotate_left
        · obtain ⟨k0, k1, ⟨k2, k3, k4, k5⟩, k6, k7, k8⟩ := HFx.out w' hw'
          unfold Oper.quietAt
          go_simp
          exact rfl
        simp only [Act.put, zza, zzc, zzb]
        refine qw_want rfl ?_ (fun w' hw' => ?_) ?_
        rotate_left
        · unfold Oper.quietAt
          go_simp
          exact rfl
        simp only [Act.put, zza, zzc, zzb]
        refine qw_end (fun w5 hb5 => ?_)
        have HB5 := zzh (HB3.out.trans (hb5.mono HB3.out.size))
        clear hb5 ge gg
        go_wp2
        go_roundg gk
        case measure => omega
        case rel => exact ⟨i + 1, by omega, by go_num, HB5.out⟩
def bitV (b : Bool) : Int := if b then 1 else 0
theorem bitv_ok (b : Bool) (w : World) : Calls Tryz.prog 102 #[.bool b] w fun e w' => e = .returned (.int .i64 (bitV b)) ∧ w = w' := bit_ok b w
def VPost (x : Int) (ok : Bool) (w : World) (e : Ending) (w' : World) : Prop := e = .returned (.tuple #[.int .i64 x, .bool ok]) ∧ Below w.heap.size w w'
set_option maxRecDepth 100000 in
set_option maxHeartbeats 4000000 in
theorem value_0 {w : World} (g : SigV) (wl : WldV) {n : Nd} {A : Option Addr} (c : Nat) (hop : n.op = 0) :
    Calls Tryz.prog 65 #[.agg g.cells, .agg wl.cells, nodeVal n, .slice A 0 c] w (VPost (1) true w) := by
  obtain ⟨w0, hw0⟩ : ∃ w0, ((w.alloc (.cells g.cells 26)).alloc (.cells wl.cells 30)).alloc (.cells (nodeCells n).toArray 51) = w0 := ⟨_, rfl⟩
  have HB0 : Hid (Below w.heap.size w w0) := zzh (by rw [← hw0]; exact (((Below.refl _ w).alloc (Nat.le_refl _) _).alloc (by simp) _).alloc (by simp; omega) _)
  have HN0 : Hid (Blk w0 (w.heap.size + 1 + 1) 51 (nodeCells n).toArray) := zzh (by rw [← hw0]; exact Blk.new_at (by simp) _ _)
  have HGC : Hid (g.cells = #[.slice g.A0 g.sorts.length g.c0, .slice g.A1 g.funs.length g.c1, .slice g.A2 g.macs.length g.c2]) := zzh rfl
  have HVC : Hid (wl.cells = #[.slice wl.A0 wl.sizes.length wl.c0, .slice wl.A1 wl.funs.length wl.c1]) := zzh rfl
  obtain ⟨op, len, q0, q1, q2, srt, fn, num⟩ := n
  simp only at hop
  subst hop
  have n0 : w0.cell? ⟨w.heap.size + 1 + 1, 0, none⟩ = some (.int .i8 0) := HN0.out.cell 0
  have n7 : w0.cell? ⟨w.heap.size + 1 + 1, 7, none⟩ = some (.int .i64 num) := HN0.out.cell 7
  rw [HGC.out, HVC.out] at hw0 ⊢
  unfold nodeVal
  unfold nodeCells at *
  have HW0 := zzh hw0
  clear hw0 HN0
  go_enter Tryz.func65, Tryz.ntmps65
  go_upto_region 1 with fail
  rw [HW0.out]
  clear HW0
  clear n7
  go_wp2
  refine bodyPost_ret (v := .tuple #[.int .i64 (1), .bool true]) (by simp [results, Tryz.results65, go_sem]) rfl ⟨rfl, HB0.out⟩
set_option maxRecDepth 100000 in
set_option maxHeartbeats 4000000 in
theorem value_10 {w : World} (g : SigV) (wl : WldV) {n : Nd} {A : Option Addr} (c : Nat) (hop : n.op = 10) :
    Calls Tryz.prog 65 #[.agg g.cells, .agg wl.cells, nodeVal n, .slice A 0 c] w (VPost (n.num) true w) := by
  obtain ⟨w0, hw0⟩ : ∃ w0, ((w.alloc (.cells g.cells 26)).alloc (.cells wl.cells 30)).alloc (.cells (nodeCells n).toArray 51) = w0 := ⟨_, rfl⟩
  have HB0 : Hid (Below w.heap.size w w0) := zzh (by rw [← hw0]; exact (((Below.refl _ w).alloc (Nat.le_refl _) _).alloc (by simp) _).alloc (by simp; omega) _)
  have HN0 : Hid (Blk w0 (w.heap.size + 1 + 1) 51 (nodeCells n).toArray) := zzh (by rw [← hw0]; exact Blk.new_at (by simp) _ _)
  have HGC : Hid (g.cells = #[.slice g.A0 g.sorts.length g.c0, .slice g.A1 g.funs.length g.c1, .slice g.A2 g.macs.length g.c2]) := zzh rfl
  have HVC : Hid (wl.cells = #[.slice wl.A0 wl.sizes.length wl.c0, .slice wl.A1 wl.funs.length wl.c1]) := zzh rfl
  obtain ⟨op, len, q0, q1, q2, srt, fn, num⟩ := n
  simp only at hop
  subst hop
  have n0 : w0.cell? ⟨w.heap.size + 1 + 1, 0, none⟩ = some (.int .i8 10) := HN0.out.cell 0
  have n7 : w0.cell? ⟨w.heap.size + 1 + 1, 7, none⟩ = some (.int .i64 num) := HN0.out.cell 7
  rw [HGC.out, HVC.out] at hw0 ⊢
  unfold nodeVal
  unfold nodeCells at *
  have HW0 := zzh hw0
  clear hw0 HN0
  go_enter Tryz.func65, Tryz.ntmps65
  go_upto_region 1 with fail
  rw [HW0.out]
  clear HW0
  go_wp2
  refine bodyPost_ret (v := .tuple #[.int .i64 (num), .bool true]) (by simp [results, Tryz.results65, go_sem]) rfl ⟨rfl, HB0.out⟩
set_option maxRecDepth 100000 in
set_option maxHeartbeats 4000000 in
theorem value_1 {w : World} (g : SigV) (wl : WldV) {n : Nd} {A : Option Addr} {a : Int} (c : Nat) (hop : n.op = 1) (hL : Row w A [a]) :
    Calls Tryz.prog 65 #[.agg g.cells, .agg wl.cells, nodeVal n, .slice A 1 c] w (VPost (wrap64 (1 - a)) true w) := by
  obtain ⟨w0, hw0⟩ : ∃ w0, ((w.alloc (.cells g.cells 26)).alloc (.cells wl.cells 30)).alloc (.cells (nodeCells n).toArray 51) = w0 := ⟨_, rfl⟩
  have HB0 : Hid (Below w.heap.size w w0) := zzh (by rw [← hw0]; exact (((Below.refl _ w).alloc (Nat.le_refl _) _).alloc (by simp) _).alloc (by simp; omega) _)
  have HN0 : Hid (Blk w0 (w.heap.size + 1 + 1) 51 (nodeCells n).toArray) := zzh (by rw [← hw0]; exact Blk.new_at (by simp) _ _)
  have HGC : Hid (g.cells = #[.slice g.A0 g.sorts.length g.c0, .slice g.A1 g.funs.length g.c1, .slice g.A2 g.macs.length g.c2]) := zzh rfl
  have HVC : Hid (wl.cells = #[.slice wl.A0 wl.sizes.length wl.c0, .slice wl.A1 wl.funs.length wl.c1]) := zzh rfl
  obtain ⟨op, len, q0, q1, q2, srt, fn, num⟩ := n
  simp only at hop
  subst hop
  have n0 : w0.cell? ⟨w.heap.size + 1 + 1, 0, none⟩ = some (.int .i8 1) := HN0.out.cell 0
  have n7 : w0.cell? ⟨w.heap.size + 1 + 1, 7, none⟩ = some (.int .i64 num) := HN0.out.cell 7
  rw [HGC.out, HVC.out] at hw0 ⊢
  unfold nodeVal
  unfold nodeCells at *
  have HW0 := zzh hw0
  obtain ⟨b, off, rfl, y0⟩ := (hL.below HB0.out).c1
  have HFx : Hid (∀ W, Below w0.heap.size w0 W → (W.cell? ⟨b, off, none⟩ = some (.int .i64 a)) ∧ W.cell? ⟨w.heap.size + 1 + 1, 7, none⟩ = some (.int .i64 num)) := zzh (fun W hW => by
    have hb := World.block_lt_of_cell? _ _ y0
    exact ⟨(hW.cell (p := ⟨b, off, none⟩) hb).trans y0, (HN0.out.below hW HN0.out.lt).cell 7⟩)
  clear hL
  clear hw0 HN0
  go_enter Tryz.func65, Tryz.ntmps65
  go_upto_region 1 with fail
  rw [HW0.out]
  clear HW0
  go_wp2
  refine bodyPost_ret (v := .tuple #[.int .i64 (wrap64 (1 - a)), .bool true]) (by simp [results, Tryz.results65, go_sem]) rfl ⟨rfl, HB0.out⟩
set_option maxRecDepth 100000 in
set_option maxHeartbeats 4000000 in
theorem value_2 {w : World} (g : SigV) (wl : WldV) {n : Nd} {A : Option Addr} {a : Int} {d : Int} (c : Nat) (hop : n.op = 2) (hL : Row w A [a, d]) :
    Calls Tryz.prog 65 #[.agg g.cells, .agg wl.cells, nodeVal n, .slice A 2 c] w (VPost (IntKind.i64.wrap (a * d)) true w) := by
  obtain ⟨w0, hw0⟩ : ∃ w0, ((w.alloc (.cells g.cells 26)).alloc (.cells wl.cells 30)).alloc (.cells (nodeCells n).toArray 51) = w0 := ⟨_, rfl⟩
  have HB0 : Hid (Below w.heap.size w w0) := zzh (by rw [← hw0]; exact (((Below.refl _ w).alloc (Nat.le_refl _) _).alloc (by simp) _).alloc (by simp; omega) _)
  have HN0 : Hid (Blk w0 (w.heap.size + 1 + 1) 51 (nodeCells n).toArray) := zzh (by rw [← hw0]; exact Blk.new_at (by simp) _ _)
  have HGC : Hid (g.cells = #[.slice g.A0 g.sorts.length g.c0, .slice g.A1 g.funs.length g.c1, .slice g.A2 g.macs.length g.c2]) := zzh rfl
  have HVC : Hid (wl.cells = #[.slice wl.A0 wl.sizes.length wl.c0, .slice wl.A1 wl.funs.length wl.c1]) := zzh rfl
  obtain ⟨op, len, q0, q1, q2, srt, fn, num⟩ := n
  simp only at hop
  subst hop
  have n0 : w0.cell? ⟨w.heap.size + 1 + 1, 0, none⟩ = some (.int .i8 2) := HN0.out.cell 0
  have n7 : w0.cell? ⟨w.heap.size + 1 + 1, 7, none⟩ = some (.int .i64 num) := HN0.out.cell 7
  rw [HGC.out, HVC.out] at hw0 ⊢
  unfold nodeVal
  unfold nodeCells at *
  have HW0 := zzh hw0
  obtain ⟨b, off, rfl, y0, y1⟩ := (hL.below HB0.out).c2
  have HFx : Hid (∀ W, Below w0.heap.size w0 W → (W.cell? ⟨b, off, none⟩ = some (.int .i64 a) ∧ W.cell? ⟨b, off + 1, none⟩ = some (.int .i64 d)) ∧ W.cell? ⟨w.heap.size + 1 + 1, 7, none⟩ = some (.int .i64 num)) := zzh (fun W hW => by
    have hb := World.block_lt_of_cell? _ _ y0
    exact ⟨⟨(hW.cell (p := ⟨b, off, none⟩) hb).trans y0, (hW.cell (p := ⟨b, off + 1, none⟩) hb).trans y1⟩, (HN0.out.below hW HN0.out.lt).cell 7⟩)
  clear hL
  clear hw0 HN0
  go_enter Tryz.func65, Tryz.ntmps65
  go_upto_region 1 with fail
  rw [HW0.out]
  clear HW0
  go_upto_region 7 with fail
  refine wp_region_quiet (C := fun w' => Below w0.heap.size w0 w') (by kernel_rfl) (by kernel_rfl) (⟨rfl, rfl, rfl, Nat.le_refl _, fun _ _ => rfl⟩) ?_
  refine QW.lit ?_
  refine qw_want rfl ?_ (fun w' hw' => ?_) ?_
  rotate_left
  · unfold Oper.quietAt
    go_simp
    exact rfl
  simp only [Act.put, zza, zzc, zzb]
  refine qw_want rfl ?_ (fun w' hw' => ?_) ?_
  rotate_left
  · unfold Oper.quietAt
    go_simp
    exact rfl
  simp only [Act.put, zza, zzc, zzb]
  refine qw_want rfl ?_ (fun w' hw' => ?_) ?_
  rotate_left
  · obtain ⟨⟨k0, k1⟩, k2⟩ := HFx.out w' hw'
    unfold Oper.quietAt
    go_simp
    exact rfl
  simp only [Act.put, zza, zzc, zzb]
  refine qw_want rfl ?_ (fun w' hw' => ?_) ?_
  rotate_left
  · unfold Oper.quietAt
    go_simp
    exact rfl
  simp only [Act.put, zza, zzc, zzb]
  refine qw_want rfl ?_ (fun w' hw' => ?_) ?_
  rotate_left
  · unfold Oper.quietAt
    go_simp
    exact rfl
  simp only [Act.put, zza, zzc, zzb]
  refine qw_want rfl ?_ (fun w' hw' => ?_) ?_
  rotate_left
  · obtain ⟨⟨k0, k1⟩, k2⟩ := HFx.out w' hw'
    unfold Oper.quietAt
    go_simp
    exact rfl
  simp only [Act.put, zza, zzc, zzb]
  refine qw_want rfl ?_ (fun w' hw' => ?_) ?_
  rotate_left
  · unfold Oper.quietAt
    go_simp
    exact rfl
  simp only [Act.put, zza, zzc, zzb]
  refine qw_want rfl ?_ (fun w' hw' => ?_) ?_
  rotate_left
  · unfold Oper.quietAt
    go_simp
    exact rfl
  simp only [Act.put, zza, zzc, zzb]
  refine qw_want rfl ?_ (fun w' hw' => ?_) ?_
  rotate_left
  · unfold Oper.quietAt
    go_simp
    exact rfl
  simp only [Act.put, zza, zzc, zzb]
  refine qw_end (fun w5 hb5 => ?_)
  have HB5 := zzh (HB0.out.trans (hb5.mono HB0.out.size))
  clear hb5
  go_wp2
  refine bodyPost_ret (v := .tuple #[.int .i64 (IntKind.i64.wrap (a * d)), .bool true]) (by simp [results, Tryz.results65, go_sem]) rfl ⟨rfl, HB5.out⟩
set_option maxRecDepth 100000 in
set_option maxHeartbeats 4000000 in
theorem value_3 {w : World} (g : SigV) (wl : WldV) {n : Nd} {A : Option Addr} {a : Int} {d : Int} (c : Nat) (hop : n.op = 3) (hL : Row w A [a, d]) :
    Calls Tryz.prog 65 #[.agg g.cells, .agg wl.cells, nodeVal n, .slice A 2 c] w (fun e w' => ∃ x, e = .returned (.tuple #[.int .i64 x, .bool true]) ∧ x = max a d ∧ Below w.heap.size w w') := by
  obtain ⟨w0, hw0⟩ : ∃ w0, ((w.alloc (.cells g.cells 26)).alloc (.cells wl.cells 30)).alloc (.cells (nodeCells n).toArray 51) = w0 := ⟨_, rfl⟩
  have HB0 : Hid (Below w.heap.size w w0) := zzh (by rw [← hw0]; exact (((Below.refl _ w).alloc (Nat.le_refl _) _).alloc (by simp) _).alloc (by simp; omega) _)
  have HN0 : Hid (Blk w0 (w.heap.size + 1 + 1) 51 (nodeCells n).toArray) := zzh (by rw [← hw0]; exact Blk.new_at (by simp) _ _)
  have HGC : Hid (g.cells = #[.slice g.A0 g.sorts.length g.c0, .slice g.A1 g.funs.length g.c1, .slice g.A2 g.macs.length g.c2]) := zzh rfl
  have HVC : Hid (wl.cells = #[.slice wl.A0 wl.sizes.length wl.c0, .slice wl.A1 wl.funs.length wl.c1]) := zzh rfl
  obtain ⟨op, len, q0, q1, q2, srt, fn, num⟩ := n
  simp only at hop
  subst hop
  have n0 : w0.cell? ⟨w.heap.size + 1 + 1, 0, none⟩ = some (.int .i8 3) := HN0.out.cell 0
  have n7 : w0.cell? ⟨w.heap.size + 1 + 1, 7, none⟩ = some (.int .i64 num) := HN0.out.cell 7
  rw [HGC.out, HVC.out] at hw0 ⊢
  unfold nodeVal
  unfold nodeCells at *
  have HW0 := zzh hw0
  obtain ⟨b, off, rfl, y0, y1⟩ := (hL.below HB0.out).c2
  have HFx : Hid (∀ W, Below w0.heap.size w0 W → (W.cell? ⟨b, off, none⟩ = some (.int .i64 a) ∧ W.cell? ⟨b, off + 1, none⟩ = some (.int .i64 d)) ∧ W.cell? ⟨w.heap.size + 1 + 1, 7, none⟩ = some (.int .i64 num)) := zzh (fun W hW => by
    have hb := World.block_lt_of_cell? _ _ y0
    exact ⟨⟨(hW.cell (p := ⟨b, off, none⟩) hb).trans y0, (hW.cell (p := ⟨b, off + 1, none⟩) hb).trans y1⟩, (HN0.out.below hW HN0.out.lt).cell 7⟩)
  clear hL
  clear hw0 HN0
  go_enter Tryz.func65, Tryz.ntmps65
  go_upto_region 1 with fail
  rw [HW0.out]
  clear HW0
  go_upto_region 9 with fail
  refine wp_region_quiet (C := fun w' => Below w0.heap.size w0 w') (by kernel_rfl) (by kernel_rfl) (⟨rfl, rfl, rfl, Nat.le_refl _, fun _ _ => rfl⟩) ?_
  refine QW.lit ?_
  refine qw_want rfl ?_ (fun w' hw' => ?_) ?_
  rotate_left
  · unfold Oper.quietAt
    go_simp
    exact rfl
  simp only [Act.put, zza, zzc, zzb]
  refine qw_want rfl ?_ (fun w' hw' => ?_) ?_
  rotate_left
  · unfold Oper.quietAt
    go_simp
    exact rfl
  simp only [Act.put, zza, zzc, zzb]
  refine qw_want rfl ?_ (fun w' hw' => ?_) ?_
  rotate_left
  · obtain ⟨⟨k0, k1⟩, k2⟩ := HFx.out w' hw'
    unfold Oper.quietAt
    go_simp
    exact rfl
  simp only [Act.put, zza, zzc, zzb]
  refine qw_want rfl ?_ (fun w' hw' => ?_) ?_
  rotate_left
  · unfold Oper.quietAt
    go_simp
    exact rfl
  simp only [Act.put, zza, zzc, zzb]
  refine qw_want rfl ?_ (fun w' hw' => ?_) ?_
  rotate_left
  · unfold Oper.quietAt
    go_simp
    exact rfl
  simp only [Act.put, zza, zzc, zzb]
  refine qw_want rfl ?_ (fun w' hw' => ?_) ?_
  rotate_left
  · obtain ⟨⟨k0, k1⟩, k2⟩ := HFx.out w' hw'
    unfold Oper.quietAt
    go_simp
    exact rfl
  simp only [Act.put, zza, zzc, zzb]
  refine qw_want rfl ?_ (fun w' hw' => ?_) ?_
  rotate_left
  · unfold Oper.quietAt
    go_simp
    exact rfl
  simp only [Act.put, zza, zzc, zzb]
  refine qw_want rfl ?_ (fun w' hw' => ?_) ?_
  rotate_left
  · unfold Oper.quietAt
    go_simp
    exact rfl
  simp only [Act.put, zza, zzc, zzb]
  refine qw_want rfl ?_ (fun w' hw' => ?_) ?_
  rotate_left
  · unfold Oper.quietAt
    go_simp
    exact rfl
  simp only [Act.put, zza, zzc, zzb]
  refine qw_end (fun w5 hb5 => ?_)
  have HB5 := zzh (HB0.out.trans (hb5.mono HB0.out.size))
  clear hb5
  go_wp2_with fail
  all_goals first
    | (refine bodyPost_ret (v := .tuple #[.int .i64 a, .bool true]) (by simp [results, Tryz.results65, go_sem]) rfl ⟨a, rfl, by omega, HB5.out⟩; done)
    | (refine bodyPost_ret (v := .tuple #[.int .i64 d, .bool true]) (by simp [results, Tryz.results65, go_sem]) rfl ⟨d, rfl, by omega, HB5.out⟩; done)
set_option maxRecDepth 100000 in
set_option maxHeartbeats 4000000 in
theorem value_4 {w : World} (g : SigV) (wl : WldV) {n : Nd} {A : Option Addr} {a : Int} {d : Int} (c : Nat) (hop : n.op = 4) (hL : Row w A [a, d]) :
    Calls Tryz.prog 65 #[.agg g.cells, .agg wl.cells, nodeVal n, .slice A 2 c] w (VPost (bitV (a != d)) true w) := by
  obtain ⟨w0, hw0⟩ : ∃ w0, ((w.alloc (.cells g.cells 26)).alloc (.cells wl.cells 30)).alloc (.cells (nodeCells n).toArray 51) = w0 := ⟨_, rfl⟩
  have HB0 : Hid (Below w.heap.size w w0) := zzh (by rw [← hw0]; exact (((Below.refl _ w).alloc (Nat.le_refl _) _).alloc (by simp) _).alloc (by simp; omega) _)
  have HN0 : Hid (Blk w0 (w.heap.size + 1 + 1) 51 (nodeCells n).toArray) := zzh (by rw [← hw0]; exact Blk.new_at (by simp) _ _)
  have HGC : Hid (g.cells = #[.slice g.A0 g.sorts.length g.c0, .slice g.A1 g.funs.length g.c1, .slice g.A2 g.macs.length g.c2]) := zzh rfl
  have HVC : Hid (wl.cells = #[.slice wl.A0 wl.sizes.length wl.c0, .slice wl.A1 wl.funs.length wl.c1]) := zzh rfl
  obtain ⟨op, len, q0, q1, q2, srt, fn, num⟩ := n
  simp only at hop
  subst hop
  have n0 : w0.cell? ⟨w.heap.size + 1 + 1, 0, none⟩ = some (.int .i8 4) := HN0.out.cell 0
  have n7 : w0.cell? ⟨w.heap.size + 1 + 1, 7, none⟩ = some (.int .i64 num) := HN0.out.cell 7
  rw [HGC.out, HVC.out] at hw0 ⊢
  unfold nodeVal
  unfold nodeCells at *
  have HW0 := zzh hw0
  obtain ⟨b, off, rfl, y0, y1⟩ := (hL.below HB0.out).c2
  have HFx : Hid (∀ W, Below w0.heap.size w0 W → (W.cell? ⟨b, off, none⟩ = some (.int .i64 a) ∧ W.cell? ⟨b, off + 1, none⟩ = some (.int .i64 d)) ∧ W.cell? ⟨w.heap.size + 1 + 1, 7, none⟩ = some (.int .i64 num)) := zzh (fun W hW => by
    have hb := World.block_lt_of_cell? _ _ y0
    exact ⟨⟨(hW.cell (p := ⟨b, off, none⟩) hb).trans y0, (hW.cell (p := ⟨b, off + 1, none⟩) hb).trans y1⟩, (HN0.out.below hW HN0.out.lt).cell 7⟩)
  clear hL
  clear hw0 HN0
  go_enter Tryz.func65, Tryz.ntmps65
  go_upto_region 1 with fail
  rw [HW0.out]
  clear HW0
  go_upto_region 11 with fail
  refine wp_region_quiet (C := fun w' => Below w0.heap.size w0 w') (by kernel_rfl) (by kernel_rfl) (⟨rfl, rfl, rfl, Nat.le_refl _, fun _ _ => rfl⟩) ?_
  refine QW.lit ?_
  refine qw_want rfl ?_ (fun w' hw' => ?_) ?_
  rotate_left
  · unfold Oper.quietAt
    go_simp
    exact rfl
  simp only [Act.put, zza, zzc, zzb]
  refine qw_want rfl ?_ (fun w' hw' => ?_) ?_
  rotate_left
  · unfold Oper.quietAt
    go_simp
    exact rfl
  simp only [Act.put, zza, zzc, zzb]
  refine qw_want rfl ?_ (fun w' hw' => ?_) ?_
  rotate_left
  · obtain ⟨⟨k0, k1⟩, k2⟩ := HFx.out w' hw'
    unfold Oper.quietAt
    go_simp
    exact rfl
  simp only [Act.put, zza, zzc, zzb]
  refine qw_want rfl ?_ (fun w' hw' => ?_) ?_
  rotate_left
  · unfold Oper.quietAt
    go_simp
    exact rfl
  simp only [Act.put, zza, zzc, zzb]
  refine qw_want rfl ?_ (fun w' hw' => ?_) ?_
  rotate_left
  · unfold Oper.quietAt
    go_simp
    exact rfl
  simp only [Act.put, zza, zzc, zzb]
  refine qw_want rfl ?_ (fun w' hw' => ?_) ?_
  rotate_left
  · obtain ⟨⟨k0, k1⟩, k2⟩ := HFx.out w' hw'
    unfold Oper.quietAt
    go_simp
    exact rfl
  simp only [Act.put, zza, zzc, zzb]
  refine qw_want rfl ?_ (fun w' hw' => ?_) ?_
  rotate_left
  · unfold Oper.quietAt
    go_simp
    exact rfl
  simp only [Act.put, zza, zzc, zzb]
  refine qw_want rfl (.int .i64 (bitV (a != d))) (fun w' hw' => ?_) ?_
  · unfold Oper.quietAt
    go_simp
    refine (bitv_ok ((a != d)) w').mono ?_
    rintro e w2 ⟨rfl, rfl⟩
    exact ⟨rfl, hw'⟩
  simp only [Act.put, zza, zzc, zzb]
  refine qw_want rfl ?_ (fun w' hw' => ?_) ?_
  rotate_left
  · unfold Oper.quietAt
    go_simp
    exact rfl
  simp only [Act.put, zza, zzc, zzb]
  refine qw_want rfl ?_ (fun w' hw' => ?_) ?_
  rotate_left
  · unfold Oper.quietAt
    go_simp
    exact rfl
  simp only [Act.put, zza, zzc, zzb]
  refine qw_end (fun w5 hb5 => ?_)
  have HB5 := zzh (HB0.out.trans (hb5.mono HB0.out.size))
  clear hb5
  go_wp2
  refine bodyPost_ret (v := .tuple #[.int .i64 (bitV (a != d)), .bool true]) (by simp [results, Tryz.results65, go_sem]) rfl ⟨rfl, HB5.out⟩
set_option maxRecDepth 100000 in
set_option maxHeartbeats 4000000 in
theorem value_5 {w : World} (g : SigV) (wl : WldV) {n : Nd} {A : Option Addr} {a : Int} {d : Int} (c : Nat) (hop : n.op = 5) (hL : Row w A [a, d]) :
    Calls Tryz.prog 65 #[.agg g.cells, .agg wl.cells, nodeVal n, .slice A 2 c] w (VPost (bitV (decide (a ≤ d))) true w) := by
  obtain ⟨w0, hw0⟩ : ∃ w0, ((w.alloc (.cells g.cells 26)).alloc (.cells wl.cells 30)).alloc (.cells (nodeCells n).toArray 51) = w0 := ⟨_, rfl⟩
  have HB0 : Hid (Below w.heap.size w w0) := zzh (by rw [← hw0]; exact (((Below.refl _ w).alloc (Nat.le_refl _) _).alloc (by simp) _).alloc (by simp; omega) _)
  have HN0 : Hid (Blk w0 (w.heap.size + 1 + 1) 51 (nodeCells n).toArray) := zzh (by rw [← hw0]; exact Blk.new_at (by simp) _ _)
  have HGC : Hid (g.cells = #[.slice g.A0 g.sorts.length g.c0, .slice g.A1 g.funs.length g.c1, .slice g.A2 g.macs.length g.c2]) := zzh rfl
  have HVC : Hid (wl.cells = #[.slice wl.A0 wl.sizes.length wl.c0, .slice wl.A1 wl.funs.length wl.c1]) := zzh rfl
  obtain ⟨op, len, q0, q1, q2, srt, fn, num⟩ := n
  simp only at hop
  subst hop
  have n0 : w0.cell? ⟨w.heap.size + 1 + 1, 0, none⟩ = some (.int .i8 5) := HN0.out.cell 0
  have n7 : w0.cell? ⟨w.heap.size + 1 + 1, 7, none⟩ = some (.int .i64 num) := HN0.out.cell 7
  rw [HGC.out, HVC.out] at hw0 ⊢
  unfold nodeVal
  unfold nodeCells at *
  have HW0 := zzh hw0
  obtain ⟨b, off, rfl, y0, y1⟩ := (hL.below HB0.out).c2
  have HFx : Hid (∀ W, Below w0.heap.size w0 W → (W.cell? ⟨b, off, none⟩ = some (.int .i64 a) ∧ W.cell? ⟨b, off + 1, none⟩ = some (.int .i64 d)) ∧ W.cell? ⟨w.heap.size + 1 + 1, 7, none⟩ = some (.int .i64 num)) := zzh (fun W hW => by
    have hb := World.block_lt_of_cell? _ _ y0
    exact ⟨⟨(hW.cell (p := ⟨b, off, none⟩) hb).trans y0, (hW.cell (p := ⟨b, off + 1, none⟩) hb).trans y1⟩, (HN0.out.below hW HN0.out.lt).cell 7⟩)
  clear hL
  clear hw0 HN0
  go_enter Tryz.func65, Tryz.ntmps65
  go_upto_region 1 with fail
  rw [HW0.out]
  clear HW0
  go_upto_region 13 with fail
  refine wp_region_quiet (C := fun w' => Below w0.heap.size w0 w') (by kernel_rfl) (by kernel_rfl) (⟨rfl, rfl, rfl, Nat.le_refl _, fun _ _ => rfl⟩) ?_
  refine QW.lit ?_
  refine qw_want rfl ?_ (fun w' hw' => ?_) ?_
  rotate_left
  · unfold Oper.quietAt
    go_simp
    exact rfl
  simp only [Act.put, zza, zzc, zzb]
  refine qw_want rfl ?_ (fun w' hw' => ?_) ?_
  rotate_left
  · unfold Oper.quietAt
    go_simp
    exact rfl
  simp only [Act.put, zza, zzc, zzb]
  refine qw_want rfl ?_ (fun w' hw' => ?_) ?_
  rotate_left
  · obtain ⟨⟨k0, k1⟩, k2⟩ := HFx.out w' hw'
    unfold Oper.quietAt
    go_simp
    exact rfl
  simp only [Act.put, zza, zzc, zzb]
  refine qw_want rfl ?_ (fun w' hw' => ?_) ?_
  rotate_left
  · unfold Oper.quietAt
    go_simp
    exact rfl
  simp only [Act.put, zza, zzc, zzb]
  refine qw_want rfl ?_ (fun w' hw' => ?_) ?_
  rotate_left
  · unfold Oper.quietAt
    go_simp
    exact rfl
  simp only [Act.put, zza, zzc, zzb]
  refine qw_want rfl ?_ (fun w' hw' => ?_) ?_
  rotate_left
  · obtain ⟨⟨k0, k1⟩, k2⟩ := HFx.out w' hw'
    unfold Oper.quietAt
    go_simp
    exact rfl
  simp only [Act.put, zza, zzc, zzb]
  refine qw_want rfl ?_ (fun w' hw' => ?_) ?_
  rotate_left
  · unfold Oper.quietAt
    go_simp
    exact rfl
  simp only [Act.put, zza, zzc, zzb]
  refine qw_want rfl (.int .i64 (bitV (decide (a ≤ d)))) (fun w' hw' => ?_) ?_
  · unfold Oper.quietAt
    go_simp
    refine (bitv_ok ((decide (a ≤ d))) w').mono ?_
    rintro e w2 ⟨rfl, rfl⟩
    exact ⟨rfl, hw'⟩
  simp only [Act.put, zza, zzc, zzb]
  refine qw_want rfl ?_ (fun w' hw' => ?_) ?_
  rotate_left
  · unfold Oper.quietAt
    go_simp
    exact rfl
  simp only [Act.put, zza, zzc, zzb]
  refine qw_want rfl ?_ (fun w' hw' => ?_) ?_
  rotate_left
  · unfold Oper.quietAt
    go_simp
    exact rfl
  simp only [Act.put, zza, zzc, zzb]
  refine qw_end (fun w5 hb5 => ?_)
  have HB5 := zzh (HB0.out.trans (hb5.mono HB0.out.size))
  clear hb5
  go_wp2
  refine bodyPost_ret (v := .tuple #[.int .i64 (bitV (decide (a ≤ d))), .bool true]) (by simp [results, Tryz.results65, go_sem]) rfl ⟨rfl, HB5.out⟩
set_option maxRecDepth 100000 in
set_option maxHeartbeats 4000000 in
theorem value_6 {w : World} (g : SigV) (wl : WldV) {n : Nd} {A : Option Addr} {a : Int} {d : Int} (c : Nat) (hop : n.op = 6) (hL : Row w A [a, d]) :
    Calls Tryz.prog 65 #[.agg g.cells, .agg wl.cells, nodeVal n, .slice A 2 c] w (VPost (bitV (a == d)) true w) := by
  obtain ⟨w0, hw0⟩ : ∃ w0, ((w.alloc (.cells g.cells 26)).alloc (.cells wl.cells 30)).alloc (.cells (nodeCells n).toArray 51) = w0 := ⟨_, rfl⟩
  have HB0 : Hid (Below w.heap.size w w0) := zzh (by rw [← hw0]; exact (((Below.refl _ w).alloc (Nat.le_refl _) _).alloc (by simp) _).alloc (by simp; omega) _)
  have HN0 : Hid (Blk w0 (w.heap.size + 1 + 1) 51 (nodeCells n).toArray) := zzh (by rw [← hw0]; exact Blk.new_at (by simp) _ _)
  have HGC : Hid (g.cells = #[.slice g.A0 g.sorts.length g.c0, .slice g.A1 g.funs.length g.c1, .slice g.A2 g.macs.length g.c2]) := zzh rfl
  have HVC : Hid (wl.cells = #[.slice wl.A0 wl.sizes.length wl.c0, .slice wl.A1 wl.funs.length wl.c1]) := zzh rfl
  obtain ⟨op, len, q0, q1, q2, srt, fn, num⟩ := n
  simp only at hop
  subst hop
  have n0 : w0.cell? ⟨w.heap.size + 1 + 1, 0, none⟩ = some (.int .i8 6) := HN0.out.cell 0
  have n7 : w0.cell? ⟨w.heap.size + 1 + 1, 7, none⟩ = some (.int .i64 num) := HN0.out.cell 7
  rw [HGC.out, HVC.out] at hw0 ⊢
  unfold nodeVal
  unfold nodeCells at *
  have HW0 := zzh hw0
  obtain ⟨b, off, rfl, y0, y1⟩ := (hL.below HB0.out).c2
  have HFx : Hid (∀ W, Below w0.heap.size w0 W → (W.cell? ⟨b, off, none⟩ = some (.int .i64 a) ∧ W.cell? ⟨b, off + 1, none⟩ = some (.int .i64 d)) ∧ W.cell? ⟨w.heap.size + 1 + 1, 7, none⟩ = some (.int .i64 num)) := zzh (fun W hW => by
    have hb := World.block_lt_of_cell? _ _ y0
    exact ⟨⟨(hW.cell (p := ⟨b, off, none⟩) hb).trans y0, (hW.cell (p := ⟨b, off + 1, none⟩) hb).trans y1⟩, (HN0.out.below hW HN0.out.lt).cell 7⟩)
  clear hL
  clear hw0 HN0
  go_enter Tryz.func65, Tryz.ntmps65
  go_upto_region 1 with fail
  rw [HW0.out]
  clear HW0
  go_upto_region 15 with fail
  refine wp_region_quiet (C := fun w' => Below w0.heap.size w0 w') (by kernel_rfl) (by kernel_rfl) (⟨rfl, rfl, rfl, Nat.le_refl _, fun _ _ => rfl⟩) ?_
  refine QW.lit ?_
  refine qw_want rfl ?_ (fun w' hw' => ?_) ?_
  rotate_left
  · unfold Oper.quietAt
    go_simp
    exact rfl
  simp only [Act.put, zza, zzc, zzb]
  refine qw_want rfl ?_ (fun w' hw' => ?_) ?_
  rotate_left
  · unfold Oper.quietAt
    go_simp
    exact rfl
  simp only [Act.put, zza, zzc, zzb]
  refine qw_want rfl ?_ (fun w' hw' => ?_) ?_
  rotate_left
  · obtain ⟨⟨k0, k1⟩, k2⟩ := HFx.out w' hw'
    unfold Oper.quietAt
    go_simp
    exact rfl
  simp only [Act.put, zza, zzc, zzb]
  refine qw_want rfl ?_ (fun w' hw' => ?_) ?_
  rotate_left
  · unfold Oper.quietAt
    go_simp
    exact rfl
  simp only [Act.put, zza, zzc, zzb]
  refine qw_want rfl ?_ (fun w' hw' => ?_) ?_
  rotate_left
  · unfold Oper.quietAt
    go_simp
    exact rfl
  simp only [Act.put, zza, zzc, zzb]
  refine qw_want rfl ?_ (fun w' hw' => ?_) ?_
  rotate_left
  · obtain ⟨⟨k0, k1⟩, k2⟩ := HFx.out w' hw'
    unfold Oper.quietAt
    go_simp
    exact rfl
  simp only [Act.put, zza, zzc, zzb]
  refine qw_want rfl ?_ (fun w' hw' => ?_) ?_
  rotate_left
  · unfold Oper.quietAt
    go_simp
    exact rfl
  simp only [Act.put, zza, zzc, zzb]
  refine qw_want rfl (.int .i64 (bitV (a == d))) (fun w' hw' => ?_) ?_
  · unfold Oper.quietAt
    go_simp
    refine (bitv_ok ((a == d)) w').mono ?_
    rintro e w2 ⟨rfl, rfl⟩
    exact ⟨rfl, hw'⟩
  simp only [Act.put, zza, zzc, zzb]
  refine qw_want rfl ?_ (fun w' hw' => ?_) ?_
  rotate_left
  · unfold Oper.quietAt
    go_simp
    exact rfl
  simp only [Act.put, zza, zzc, zzb]
  refine qw_want rfl ?_ (fun w' hw' => ?_) ?_
  rotate_left
  · unfold Oper.quietAt
    go_simp
    exact rfl
  simp only [Act.put, zza, zzc, zzb]
  refine qw_end (fun w5 hb5 => ?_)
  have HB5 := zzh (HB0.out.trans (hb5.mono HB0.out.size))
  clear hb5
  go_wp2
  refine bodyPost_ret (v := .tuple #[.int .i64 (bitV (a == d)), .bool true]) (by simp [results, Tryz.results65, go_sem]) rfl ⟨rfl, HB5.out⟩
set_option maxRecDepth 100000 in
set_option maxHeartbeats 4000000 in
theorem value_8 {w : World} (g : SigV) (wl : WldV) {n : Nd} {A : Option Addr} {a : Int} {d : Int} (c : Nat) (hop : n.op = 8) (hL : Row w A [a, d]) :
    Calls Tryz.prog 65 #[.agg g.cells, .agg wl.cells, nodeVal n, .slice A 2 c] w (VPost (bitV (decide (a ≤ d))) true w) := by
  obtain ⟨w0, hw0⟩ : ∃ w0, ((w.alloc (.cells g.cells 26)).alloc (.cells wl.cells 30)).alloc (.cells (nodeCells n).toArray 51) = w0 := ⟨_, rfl⟩
  have HB0 : Hid (Below w.heap.size w w0) := zzh (by rw [← hw0]; exact (((Below.refl _ w).alloc (Nat.le_refl _) _).alloc (by simp) _).alloc (by simp; omega) _)
  have HN0 : Hid (Blk w0 (w.heap.size + 1 + 1) 51 (nodeCells n).toArray) := zzh (by rw [← hw0]; exact Blk.new_at (by simp) _ _)
  have HGC : Hid (g.cells = #[.slice g.A0 g.sorts.length g.c0, .slice g.A1 g.funs.length g.c1, .slice g.A2 g.macs.length g.c2]) := zzh rfl
  have HVC : Hid (wl.cells = #[.slice wl.A0 wl.sizes.length wl.c0, .slice wl.A1 wl.funs.length wl.c1]) := zzh rfl
  obtain ⟨op, len, q0, q1, q2, srt, fn, num⟩ := n
  simp only at hop
  subst hop
  have n0 : w0.cell? ⟨w.heap.size + 1 + 1, 0, none⟩ = some (.int .i8 8) := HN0.out.cell 0
  have n7 : w0.cell? ⟨w.heap.size + 1 + 1, 7, none⟩ = some (.int .i64 num) := HN0.out.cell 7
  rw [HGC.out, HVC.out] at hw0 ⊢
  unfold nodeVal
  unfold nodeCells at *
  have HW0 := zzh hw0
  obtain ⟨b, off, rfl, y0, y1⟩ := (hL.below HB0.out).c2
  have HFx : Hid (∀ W, Below w0.heap.size w0 W → (W.cell? ⟨b, off, none⟩ = some (.int .i64 a) ∧ W.cell? ⟨b, off + 1, none⟩ = some (.int .i64 d)) ∧ W.cell? ⟨w.heap.size + 1 + 1, 7, none⟩ = some (.int .i64 num)) := zzh (fun W hW => by
    have hb := World.block_lt_of_cell? _ _ y0
    exact ⟨⟨(hW.cell (p := ⟨b, off, none⟩) hb).trans y0, (hW.cell (p := ⟨b, off + 1, none⟩) hb).trans y1⟩, (HN0.out.below hW HN0.out.lt).cell 7⟩)
  clear hL
  clear hw0 HN0
  go_enter Tryz.func65, Tryz.ntmps65
  go_upto_region 1 with fail
  rw [HW0.out]
  clear HW0
  go_upto_region 21 with fail
  refine wp_region_quiet (C := fun w' => Below w0.heap.size w0 w') (by kernel_rfl) (by kernel_rfl) (⟨rfl, rfl, rfl, Nat.le_refl _, fun _ _ => rfl⟩) ?_
  refine QW.lit ?_
  refine qw_want rfl ?_ (fun w' hw' => ?_) ?_
  rotate_left
  · unfold Oper.quietAt
    go_simp
    exact rfl
  simp only [Act.put, zza, zzc, zzb]
  refine qw_want rfl ?_ (fun w' hw' => ?_) ?_
  rotate_left
  · unfold Oper.quietAt
    go_simp
    exact rfl
  simp only [Act.put, zza, zzc, zzb]
  refine qw_want rfl ?_ (fun w' hw' => ?_) ?_
  rotate_left
  · obtain ⟨⟨k0, k1⟩, k2⟩ := HFx.out w' hw'
    unfold Oper.quietAt
    go_simp
    exact rfl
  simp only [Act.put, zza, zzc, zzb]
  refine qw_want rfl ?_ (fun w' hw' => ?_) ?_
  rotate_left
  · unfold Oper.quietAt
    go_simp
    exact rfl
  simp only [Act.put, zza, zzc, zzb]
  refine qw_want rfl ?_ (fun w' hw' => ?_) ?_
  rotate_left
  · unfold Oper.quietAt
    go_simp
    exact rfl
  simp only [Act.put, zza, zzc, zzb]
  refine qw_want rfl ?_ (fun w' hw' => ?_) ?_
  rotate_left
  · obtain ⟨⟨k0, k1⟩, k2⟩ := HFx.out w' hw'
    unfold Oper.quietAt
    go_simp
    exact rfl
  simp only [Act.put, zza, zzc, zzb]
  refine qw_want rfl ?_ (fun w' hw' => ?_) ?_
  rotate_left
  · unfold Oper.quietAt
    go_simp
    exact rfl
  simp only [Act.put, zza, zzc, zzb]
  refine qw_want rfl (.int .i64 (bitV (decide (a ≤ d)))) (fun w' hw' => ?_) ?_
  · unfold Oper.quietAt
    go_simp
    refine (bitv_ok ((decide (a ≤ d))) w').mono ?_
    rintro e w2 ⟨rfl, rfl⟩
    exact ⟨rfl, hw'⟩
  simp only [Act.put, zza, zzc, zzb]
  refine qw_want rfl ?_ (fun w' hw' => ?_) ?_
  rotate_left
  · unfold Oper.quietAt
    go_simp
    exact rfl
  simp only [Act.put, zza, zzc, zzb]
  refine qw_want rfl ?_ (fun w' hw' => ?_) ?_
  rotate_left
  · unfold Oper.quietAt
    go_simp
    exact rfl
  simp only [Act.put, zza, zzc, zzb]
  refine qw_end (fun w5 hb5 => ?_)
  have HB5 := zzh (HB0.out.trans (hb5.mono HB0.out.size))
  clear hb5
  go_wp2
  refine bodyPost_ret (v := .tuple #[.int .i64 (bitV (decide (a ≤ d))), .bool true]) (by simp [results, Tryz.results65, go_sem]) rfl ⟨rfl, HB5.out⟩
set_option maxRecDepth 100000 in
set_option maxHeartbeats 4000000 in
theorem value_9 {w : World} (g : SigV) (wl : WldV) {n : Nd} {A : Option Addr} {a : Int} {d : Int} (c : Nat) (hop : n.op = 9) (hL : Row w A [a, d]) :
    Calls Tryz.prog 65 #[.agg g.cells, .agg wl.cells, nodeVal n, .slice A 2 c] w (VPost (bitV (decide (a < d))) true w) := by
  obtain ⟨w0, hw0⟩ : ∃ w0, ((w.alloc (.cells g.cells 26)).alloc (.cells wl.cells 30)).alloc (.cells (nodeCells n).toArray 51) = w0 := ⟨_, rfl⟩
  have HB0 : Hid (Below w.heap.size w w0) := zzh (by rw [← hw0]; exact (((Below.refl _ w).alloc (Nat.le_refl _) _).alloc (by simp) _).alloc (by simp; omega) _)
  have HN0 : Hid (Blk w0 (w.heap.size + 1 + 1) 51 (nodeCells n).toArray) := zzh (by rw [← hw0]; exact Blk.new_at (by simp) _ _)
  have HGC : Hid (g.cells = #[.slice g.A0 g.sorts.length g.c0, .slice g.A1 g.funs.length g.c1, .slice g.A2 g.macs.length g.c2]) := zzh rfl
  have HVC : Hid (wl.cells = #[.slice wl.A0 wl.sizes.length wl.c0, .slice wl.A1 wl.funs.length wl.c1]) := zzh rfl
  obtain ⟨op, len, q0, q1, q2, srt, fn, num⟩ := n
  simp only at hop
  subst hop
  have n0 : w0.cell? ⟨w.heap.size + 1 + 1, 0, none⟩ = some (.int .i8 9) := HN0.out.cell 0
  have n7 : w0.cell? ⟨w.heap.size + 1 + 1, 7, none⟩ = some (.int .i64 num) := HN0.out.cell 7
  rw [HGC.out, HVC.out] at hw0 ⊢
  unfold nodeVal
  unfold nodeCells at *
  have HW0 := zzh hw0
  obtain ⟨b, off, rfl, y0, y1⟩ := (hL.below HB0.out).c2
  have HFx : Hid (∀ W, Below w0.heap.size w0 W → (W.cell? ⟨b, off, none⟩ = some (.int .i64 a) ∧ W.cell? ⟨b, off + 1, none⟩ = some (.int .i64 d)) ∧ W.cell? ⟨w.heap.size + 1 + 1, 7, none⟩ = some (.int .i64 num)) := zzh (fun W hW => by
    have hb := World.block_lt_of_cell? _ _ y0
    exact ⟨⟨(hW.cell (p := ⟨b, off, none⟩) hb).trans y0, (hW.cell (p := ⟨b, off + 1, none⟩) hb).trans y1⟩, (HN0.out.below hW HN0.out.lt).cell 7⟩)
  clear hL
  clear hw0 HN0
  go_enter Tryz.func65, Tryz.ntmps65
  go_upto_region 1 with fail
  rw [HW0.out]
  clear HW0
  go_upto_region 23 with fail
  refine wp_region_quiet (C := fun w' => Below w0.heap.size w0 w') (by kernel_rfl) (by kernel_rfl) (⟨rfl, rfl, rfl, Nat.le_refl _, fun _ _ => rfl⟩) ?_
  refine QW.lit ?_
  refine qw_want rfl ?_ (fun w' hw' => ?_) ?_
  rotate_left
  · unfold Oper.quietAt
    go_simp
    exact rfl
  simp only [Act.put, zza, zzc, zzb]
  refine qw_want rfl ?_ (fun w' hw' => ?_) ?_
  rotate_left
  · unfold Oper.quietAt
    go_simp
    exact rfl
  simp only [Act.put, zza, zzc, zzb]
  refine qw_want rfl ?_ (fun w' hw' => ?_) ?_
  rotate_left
  · obtain ⟨⟨k0, k1⟩, k2⟩ := HFx.out w' hw'
    unfold Oper.quietAt
    go_simp
    exact rfl
  simp only [Act.put, zza, zzc, zzb]
  refine qw_want rfl ?_ (fun w' hw' => ?_) ?_
  rotate_left
  · unfold Oper.quietAt
    go_simp
    exact rfl
  simp only [Act.put, zza, zzc, zzb]
  refine qw_want rfl ?_ (fun w' hw' => ?_) ?_
  rotate_left
  · unfold Oper.quietAt
    go_simp
    exact rfl
  simp only [Act.put, zza, zzc, zzb]
  refine qw_want rfl ?_ (fun w' hw' => ?_) ?_
  rotate_left
  · obtain ⟨⟨k0, k1⟩, k2⟩ := HFx.out w' hw'
    unfold Oper.quietAt
    go_simp
    exact rfl
  simp only [Act.put, zza, zzc, zzb]
  refine qw_want rfl ?_ (fun w' hw' => ?_) ?_
  rotate_left
  · unfold Oper.quietAt
    go_simp
    exact rfl
  simp only [Act.put, zza, zzc, zzb]
  refine qw_want rfl (.int .i64 (bitV (decide (a < d)))) (fun w' hw' => ?_) ?_
  · unfold Oper.quietAt
    go_simp
    refine (bitv_ok ((decide (a < d))) w').mono ?_
    rintro e w2 ⟨rfl, rfl⟩
    exact ⟨rfl, hw'⟩
  simp only [Act.put, zza, zzc, zzb]
  refine qw_want rfl ?_ (fun w' hw' => ?_) ?_
  rotate_left
  · unfold Oper.quietAt
    go_simp
    exact rfl
  simp only [Act.put, zza, zzc, zzb]
  refine qw_want rfl ?_ (fun w' hw' => ?_) ?_
  rotate_left
  · unfold Oper.quietAt
    go_simp
    exact rfl
  simp only [Act.put, zza, zzc, zzb]
  refine qw_end (fun w5 hb5 => ?_)
  have HB5 := zzh (HB0.out.trans (hb5.mono HB0.out.size))
  clear hb5
  go_wp2
  refine bodyPost_ret (v := .tuple #[.int .i64 (bitV (decide (a < d))), .bool true]) (by simp [results, Tryz.results65, go_sem]) rfl ⟨rfl, HB5.out⟩
set_option maxRecDepth 100000 in
set_option maxHeartbeats 4000000 in
theorem value_7 {w : World} (g : SigV) (wl : WldV) {n : Nd} {A : Option Addr} {a : Int} {d : Int} {f : Int} (c : Nat) (hop : n.op = 7) (hL : Row w A [a, d, f]) (h1 : a = 1) :
    Calls Tryz.prog 65 #[.agg g.cells, .agg wl.cells, nodeVal n, .slice A 3 c] w (VPost (d) true w) := by
  obtain ⟨w0, hw0⟩ : ∃ w0, ((w.alloc (.cells g.cells 26)).alloc (.cells wl.cells 30)).alloc (.cells (nodeCells n).toArray 51) = w0 := ⟨_, rfl⟩
  have HB0 : Hid (Below w.heap.size w w0) := zzh (by rw [← hw0]; exact (((Below.refl _ w).alloc (Nat.le_refl _) _).alloc (by simp) _).alloc (by simp; omega) _)
  have HN0 : Hid (Blk w0 (w.heap.size + 1 + 1) 51 (nodeCells n).toArray) := zzh (by rw [← hw0]; exact Blk.new_at (by simp) _ _)
  have HGC : Hid (g.cells = #[.slice g.A0 g.sorts.length g.c0, .slice g.A1 g.funs.length g.c1, .slice g.A2 g.macs.length g.c2]) := zzh rfl
  have HVC : Hid (wl.cells = #[.slice wl.A0 wl.sizes.length wl.c0, .slice wl.A1 wl.funs.length wl.c1]) := zzh rfl
  obtain ⟨op, len, q0, q1, q2, srt, fn, num⟩ := n
  simp only at hop
  subst hop
  have n0 : w0.cell? ⟨w.heap.size + 1 + 1, 0, none⟩ = some (.int .i8 7) := HN0.out.cell 0
  have n7 : w0.cell? ⟨w.heap.size + 1 + 1, 7, none⟩ = some (.int .i64 num) := HN0.out.cell 7
  rw [HGC.out, HVC.out] at hw0 ⊢
  unfold nodeVal
  unfold nodeCells at *
  have HW0 := zzh hw0
  obtain ⟨b, off, rfl, y0, y1, y2⟩ := (hL.below HB0.out).c3
  have HFx : Hid (∀ W, Below w0.heap.size w0 W → (W.cell? ⟨b, off, none⟩ = some (.int .i64 a) ∧ W.cell? ⟨b, off + 1, none⟩ = some (.int .i64 d) ∧ W.cell? ⟨b, off + 2, none⟩ = some (.int .i64 f)) ∧ W.cell? ⟨w.heap.size + 1 + 1, 7, none⟩ = some (.int .i64 num)) := zzh (fun W hW => by
    have hb := World.block_lt_of_cell? _ _ y0
    exact ⟨⟨(hW.cell (p := ⟨b, off, none⟩) hb).trans y0, (hW.cell (p := ⟨b, off + 1, none⟩) hb).trans y1, (hW.cell (p := ⟨b, off + 2, none⟩) hb).trans y2⟩, (HN0.out.below hW HN0.out.lt).cell 7⟩)
  clear hL
  clear hw0 HN0
  go_enter Tryz.func65, Tryz.ntmps65
  go_upto_region 1 with fail
  rw [HW0.out]
  clear HW0
  have e1 : (a == 1) = true := beq_iff_eq.2 h1
  clear h1
  go_wp2
  refine bodyPost_ret (v := .tuple #[.int .i64 d, .bool true]) (by simp [results, Tryz.results65, go_sem]) rfl ⟨rfl, HB0.out⟩
set_option maxRecDepth 100000 in
set_option maxHeartbeats 4000000 in
theorem value_7b {w : World} (g : SigV) (wl : WldV) {n : Nd} {A : Option Addr} {a : Int} {d : Int} {f : Int} (c : Nat) (hop : n.op = 7) (hL : Row w A [a, d, f]) (h1 : a ≠ 1) :
    Calls Tryz.prog 65 #[.agg g.cells, .agg wl.cells, nodeVal n, .slice A 3 c] w (VPost (f) true w) := by
  obtain ⟨w0, hw0⟩ : ∃ w0, ((w.alloc (.cells g.cells 26)).alloc (.cells wl.cells 30)).alloc (.cells (nodeCells n).toArray 51) = w0 := ⟨_, rfl⟩
  have HB0 : Hid (Below w.heap.size w w0) := zzh (by rw [← hw0]; exact (((Below.refl _ w).alloc (Nat.le_refl _) _).alloc (by simp) _).alloc (by simp; omega) _)
  have HN0 : Hid (Blk w0 (w.heap.size + 1 + 1) 51 (nodeCells n).toArray) := zzh (by rw [← hw0]; exact Blk.new_at (by simp) _ _)
  have HGC : Hid (g.cells = #[.slice g.A0 g.sorts.length g.c0, .slice g.A1 g.funs.length g.c1, .slice g.A2 g.macs.length g.c2]) := zzh rfl
  have HVC : Hid (wl.cells = #[.slice wl.A0 wl.sizes.length wl.c0, .slice wl.A1 wl.funs.length wl.c1]) := zzh rfl
  obtain ⟨op, len, q0, q1, q2, srt, fn, num⟩ := n
  simp only at hop
  subst hop
  have n0 : w0.cell? ⟨w.heap.size + 1 + 1, 0, none⟩ = some (.int .i8 7) := HN0.out.cell 0
  have n7 : w0.cell? ⟨w.heap.size + 1 + 1, 7, none⟩ = some (.int .i64 num) := HN0.out.cell 7
  rw [HGC.out, HVC.out] at hw0 ⊢
  unfold nodeVal
  unfold nodeCells at *
  have HW0 := zzh hw0
  obtain ⟨b, off, rfl, y0, y1, y2⟩ := (hL.below HB0.out).c3
  have HFx : Hid (∀ W, Below w0.heap.size w0 W → (W.cell? ⟨b, off, none⟩ = some (.int .i64 a) ∧ W.cell? ⟨b, off + 1, none⟩ = some (.int .i64 d) ∧ W.cell? ⟨b, off + 2, none⟩ = some (.int .i64 f)) ∧ W.cell? ⟨w.heap.size + 1 + 1, 7, none⟩ = some (.int .i64 num)) := zzh (fun W hW => by
    have hb := World.block_lt_of_cell? _ _ y0
    exact ⟨⟨(hW.cell (p := ⟨b, off, none⟩) hb).trans y0, (hW.cell (p := ⟨b, off + 1, none⟩) hb).trans y1, (hW.cell (p := ⟨b, off + 2, none⟩) hb).trans y2⟩, (HN0.out.below hW HN0.out.lt).cell 7⟩)
  clear hL
  clear hw0 HN0
  go_enter Tryz.func65, Tryz.ntmps65
  go_upto_region 1 with fail
  rw [HW0.out]
  clear HW0
  have e1 : (a == 1) = false := beq_eq_false_iff_ne.2 h1
  clear h1
  go_wp2
  refine bodyPost_ret (v := .tuple #[.int .i64 f, .bool true]) (by simp [results, Tryz.results65, go_sem]) rfl ⟨rfl, HB0.out⟩
set_option maxRecDepth 100000 in
set_option maxHeartbeats 4000000 in
theorem value_12 {w : World} (g : SigV) (wl : WldV) {n : Nd} {A : Option Addr} {a : Int} {d : Int} (c : Nat) (hop : n.op = 12) (hL : Row w A [a, d]) :
    Calls Tryz.prog 65 #[.agg g.cells, .agg wl.cells, nodeVal n, .slice A 2 c] w (VPost (bitV (atMostM a d n.num)) true w) := by
  obtain ⟨w0, hw0⟩ : ∃ w0, ((w.alloc (.cells g.cells 26)).alloc (.cells wl.cells 30)).alloc (.cells (nodeCells n).toArray 51) = w0 := ⟨_, rfl⟩
  have HB0 : Hid (Below w.heap.size w w0) := zzh (by rw [← hw0]; exact (((Below.refl _ w).alloc (Nat.le_refl _) _).alloc (by simp) _).alloc (by simp; omega) _)
  have HN0 : Hid (Blk w0 (w.heap.size + 1 + 1) 51 (nodeCells n).toArray) := zzh (by rw [← hw0]; exact Blk.new_at (by simp) _ _)
  have HGC : Hid (g.cells = #[.slice g.A0 g.sorts.length g.c0, .slice g.A1 g.funs.length g.c1, .slice g.A2 g.macs.length g.c2]) := zzh rfl
  have HVC : Hid (wl.cells = #[.slice wl.A0 wl.sizes.length wl.c0, .slice wl.A1 wl.funs.length wl.c1]) := zzh rfl
  obtain ⟨op, len, q0, q1, q2, srt, fn, num⟩ := n
  simp only at hop
  subst hop
  have n0 : w0.cell? ⟨w.heap.size + 1 + 1, 0, none⟩ = some (.int .i8 12) := HN0.out.cell 0
  have n7 : w0.cell? ⟨w.heap.size + 1 + 1, 7, none⟩ = some (.int .i64 num) := HN0.out.cell 7
  rw [HGC.out, HVC.out] at hw0 ⊢
  unfold nodeVal
  unfold nodeCells at *
  have HW0 := zzh hw0
  obtain ⟨b, off, rfl, y0, y1⟩ := (hL.below HB0.out).c2
  have HFx : Hid (∀ W, Below w0.heap.size w0 W → (W.cell? ⟨b, off, none⟩ = some (.int .i64 a) ∧ W.cell? ⟨b, off + 1, none⟩ = some (.int .i64 d)) ∧ W.cell? ⟨w.heap.size + 1 + 1, 7, none⟩ = some (.int .i64 num)) := zzh (fun W hW => by
    have hb := World.block_lt_of_cell? _ _ y0
    exact ⟨⟨(hW.cell (p := ⟨b, off, none⟩) hb).trans y0, (hW.cell (p := ⟨b, off + 1, none⟩) hb).trans y1⟩, (HN0.out.below hW HN0.out.lt).cell 7⟩)
  clear hL
  clear hw0 HN0
  go_enter Tryz.func65, Tryz.ntmps65
  go_upto_region 1 with fail
  rw [HW0.out]
  clear HW0
  go_upto_region 27 with fail
  refine wp_region_quiet (C := fun w' => Below w0.heap.size w0 w') (by kernel_rfl) (by kernel_rfl) (⟨rfl, rfl, rfl, Nat.le_refl _, fun _ _ => rfl⟩) ?_
  refine QW.lit ?_
  refine qw_want rfl ?_ (fun w' hw' => ?_) ?_
  rotate_left
  · unfold Oper.quietAt
    go_simp
    exact rfl
  simp only [Act.put, zza, zzc, zzb]
  refine qw_want rfl ?_ (fun w' hw' => ?_) ?_
  rotate_left
  · unfold Oper.quietAt
    go_simp
    exact rfl
  simp only [Act.put, zza, zzc, zzb]
  refine qw_want rfl ?_ (fun w' hw' => ?_) ?_
  rotate_left
  · obtain ⟨⟨k0, k1⟩, k2⟩ := HFx.out w' hw'
    unfold Oper.quietAt
    go_simp
    exact rfl
  simp only [Act.put, zza, zzc, zzb]
  refine qw_want rfl ?_ (fun w' hw' => ?_) ?_
  rotate_left
  · unfold Oper.quietAt
    go_simp
    exact rfl
  simp only [Act.put, zza, zzc, zzb]
  refine qw_want rfl ?_ (fun w' hw' => ?_) ?_
  rotate_left
  · unfold Oper.quietAt
    go_simp
    exact rfl
  simp only [Act.put, zza, zzc, zzb]
  refine qw_want rfl ?_ (fun w' hw' => ?_) ?_
  rotate_left
  · obtain ⟨⟨k0, k1⟩, k2⟩ := HFx.out w' hw'
    unfold Oper.quietAt
    go_simp
    exact rfl
  simp only [Act.put, zza, zzc, zzb]
  refine qw_want rfl ?_ (fun w' hw' => ?_) ?_
  rotate_left
  · unfold Oper.quietAt
    go_simp
    exact rfl
  simp only [Act.put, zza, zzc, zzb]
  refine qw_want rfl ?_ (fun w' hw' => ?_) ?_
  rotate_left
  · obtain ⟨⟨k0, k1⟩, k2⟩ := HFx.out w' hw'
    unfold Oper.quietAt
    go_simp
    exact rfl
  simp only [Act.put, zza, zzc, zzb]
  refine qw_want rfl (.bool (atMostM a d num)) (fun w' hw' => ?_) ?_
  · unfold Oper.quietAt
    go_simp
    refine (atMost_ok a d num w').mono ?_
    rintro e w2 ⟨rfl, rfl⟩
    exact ⟨rfl, hw'⟩
  simp only [Act.put, zza, zzc, zzb]
  refine qw_want rfl (.int .i64 (bitV (atMostM a d num))) (fun w' hw' => ?_) ?_
  · unfold Oper.quietAt
    go_simp
    refine (bitv_ok (atMostM a d num) w').mono ?_
    rintro e w2 ⟨rfl, rfl⟩
    exact ⟨rfl, hw'⟩
  simp only [Act.put, zza, zzc, zzb]
  refine qw_want rfl ?_ (fun w' hw' => ?_) ?_
  rotate_left
  · unfold Oper.quietAt
    go_simp
    exact rfl
  simp only [Act.put, zza, zzc, zzb]
  refine qw_want rfl ?_ (fun w' hw' => ?_) ?_
  rotate_left
  · unfold Oper.quietAt
    go_simp
    exact rfl
  simp only [Act.put, zza, zzc, zzb]
  refine qw_end (fun w5 hb5 => ?_)
  have HB5 := zzh (HB0.out.trans (hb5.mono HB0.out.size))
  clear hb5
  go_wp2
  refine bodyPost_ret (v := .tuple #[.int .i64 (bitV (atMostM a d num)), .bool true]) (by simp [results, Tryz.results65, go_sem]) rfl ⟨rfl, HB5.out⟩
theorem half_in {x : Int} (h : -4611686018427387904 ≤ x ∧ x ≤ 4611686018427387904) : -2305843009213693952 ≤ x.tdiv 2 ∧ x.tdiv 2 ≤ 2305843009213693952 ∧ -1 ≤ x - 2 * x.tdiv 2 ∧ x - 2 * x.tdiv 2 ≤ 1 := by
  rcases Int.le_total 0 x with h0 | h0
  · rw [Int.tdiv_eq_ediv_of_nonneg h0]; omega
  · have e : x.tdiv 2 = -((-x).tdiv 2) := by rw [Int.neg_tdiv]; omega
    rw [e, Int.tdiv_eq_ediv_of_nonneg (show (0 : Int) ≤ -x by omega)]; omega
set_option maxRecDepth 100000 in
set_option maxHeartbeats 4000000 in
theorem value_11 {w : World} (g : SigV) (wl : WldV) {n : Nd} {A : Option Addr} {a : Int} (c : Nat) (hop : n.op = 11) (hL : Row w A [a]) (ha : -4611686018427387904 ≤ a ∧ a ≤ 4611686018427387904) (hn : -4611686018427387904 ≤ n.num ∧ n.num ≤ 4611686018427387904) :
    Calls Tryz.prog 65 #[.agg g.cells, .agg wl.cells, nodeVal n, .slice A 1 c] w (fun e w' => ∃ x ok, e = .returned (.tuple #[.int .i64 x, .bool ok]) ∧ (ok = true → x = a + n.num ∧ mayN x = true) ∧ I64 x ∧ Below w.heap.size w w') := by
  obtain ⟨w0, hw0⟩ : ∃ w0, ((w.alloc (.cells g.cells 26)).alloc (.cells wl.cells 30)).alloc (.cells (nodeCells n).toArray 51) = w0 := ⟨_, rfl⟩
  have HB0 : Hid (Below w.heap.size w w0) := zzh (by rw [← hw0]; exact (((Below.refl _ w).alloc (Nat.le_refl _) _).alloc (by simp) _).alloc (by simp; omega) _)
  have HN0 : Hid (Blk w0 (w.heap.size + 1 + 1) 51 (nodeCells n).toArray) := zzh (by rw [← hw0]; exact Blk.new_at (by simp) _ _)
  have HGC : Hid (g.cells = #[.slice g.A0 g.sorts.length g.c0, .slice g.A1 g.funs.length g.c1, .slice g.A2 g.macs.length g.c2]) := zzh rfl
  have HVC : Hid (wl.cells = #[.slice wl.A0 wl.sizes.length wl.c0, .slice wl.A1 wl.funs.length wl.c1]) := zzh rfl
  obtain ⟨op, len, q0, q1, q2, srt, fn, num⟩ := n
  simp only at hop
  subst hop
  have n0 : w0.cell? ⟨w.heap.size + 1 + 1, 0, none⟩ = some (.int .i8 11) := HN0.out.cell 0
  have n7 : w0.cell? ⟨w.heap.size + 1 + 1, 7, none⟩ = some (.int .i64 num) := HN0.out.cell 7
  rw [HGC.out, HVC.out] at hw0 ⊢
  unfold nodeVal
  unfold nodeCells at *
  have HW0 := zzh hw0
  obtain ⟨b, off, rfl, y0⟩ := (hL.below HB0.out).c1
  have HFx : Hid (∀ W, Below w0.heap.size w0 W → (W.cell? ⟨b, off, none⟩ = some (.int .i64 a)) ∧ W.cell? ⟨w.heap.size + 1 + 1, 7, none⟩ = some (.int .i64 num)) := zzh (fun W hW => by
    have hb := World.block_lt_of_cell? _ _ y0
    exact ⟨(hW.cell (p := ⟨b, off, none⟩) hb).trans y0, (HN0.out.below hW HN0.out.lt).cell 7⟩)
  clear hL
  clear hw0 HN0
  go_enter Tryz.func65, Tryz.ntmps65
  go_upto_region 1 with fail
  rw [HW0.out]
  clear HW0
  simp only at hn
  obtain ⟨u0, u1, u2, u3⟩ := half_in ha
  obtain ⟨v0, v1, v2, v3⟩ := half_in hn
  obtain ⟨ah, hah⟩ : ∃ z, a.tdiv 2 = z := ⟨_, rfl⟩
  obtain ⟨nh, hnh⟩ : ∃ z, num.tdiv 2 = z := ⟨_, rfl⟩
  rw [hah] at u0 u1 u2 u3
  rw [hnh] at v0 v1 v2 v3
  have e1 : IntKind.i64.wrap ah = ah := by unfold IntKind.wrap; simp [IntKind.bits, IntKind.signed]; omega
  have e2 : IntKind.i64.wrap nh = nh := by unfold IntKind.wrap; simp [IntKind.bits, IntKind.signed]; omega
  have e3 : IntKind.i64.wrap (ah + nh) = ah + nh := by unfold IntKind.wrap; simp [IntKind.bits, IntKind.signed]; omega
  have HU := zzh (And.intro u2 (And.intro u3 (And.intro v2 v3)))
  have HAh := zzh (And.intro ha hn)
  clear u0 u1 u2 u3 v0 v1 v2 v3 ha hn
  go_upto_region 29 with fail
  refine wp_region_quiet (C := fun w' => Below w0.heap.size w0 w') (by kernel_rfl) (by kernel_rfl) (⟨rfl, rfl, rfl, Nat.le_refl _, fun _ _ => rfl⟩) ?_
  refine QW.lit ?_
  refine qw_want rfl ?_ (fun w' hw' => ?_) ?_
  rotate_left
  · unfold Oper.quietAt
    go_simp
    exact rfl
  simp only [Act.put, zza, zzc, zzb]
  refine qw_want rfl ?_ (fun w' hw' => ?_) ?_
  rotate_left
  · unfold Oper.quietAt
    go_simp
    exact rfl
  simp only [Act.put, zza, zzc, zzb]
  refine qw_want rfl ?_ (fun w' hw' => ?_) ?_
  rotate_left
  · obtain ⟨k0, k1⟩ := HFx.out w' hw'
    unfold Oper.quietAt
    go_simp
    exact rfl
  simp only [Act.put, zza, zzc, zzb]
  refine qw_want rfl ?_ (fun w' hw' => ?_) ?_
  rotate_left
  · unfold Oper.quietAt
    go_simp
    exact rfl
  simp only [Act.put, zza, zzc, zzb]
  refine qw_want rfl ?_ (fun w' hw' => ?_) ?_
  rotate_left
  · unfold Oper.quietAt
    go_simp
    exact rfl
  simp only [Act.put, zza, zzc, zzb]
  refine qw_want rfl ?_ (fun w' hw' => ?_) ?_
  rotate_left
  · obtain ⟨k0, k1⟩ := HFx.out w' hw'
    unfold Oper.quietAt
    go_simp
    exact rfl
  simp only [Act.put, zza, zzc, zzb]
  refine qw_want rfl ?_ (fun w' hw' => ?_) ?_
  rotate_left
  · unfold Oper.quietAt
    go_simp
    exact rfl
  simp only [Act.put, zza, zzc, zzb]
  refine qw_want rfl ?_ (fun w' hw' => ?_) ?_
  rotate_left
  · unfold Oper.quietAt
    go_simp
    exact rfl
  simp only [Act.put, zza, zzc, zzb]
  refine qw_want rfl ?_ (fun w' hw' => ?_) ?_
  rotate_left
  · unfold Oper.quietAt
    go_simp
    exact rfl
  simp only [Act.put, zza, zzc, zzb]
  refine qw_end (fun w5 hb5 => ?_)
  have HB5 := zzh (HB0.out.trans (hb5.mono HB0.out.size))
  obtain ⟨z0, z1⟩ := HFx.out w5 hb5
  have HF5 := zzh (fun W (hW : Below w5.heap.size w5 W) => HFx.out W (hb5.trans (hW.mono hb5.size)))
  clear hb5 y0
  clear hah hnh e1 e2 e3
  by_cases h1 : ah + nh > 2305843009213693953
  · have d1 : decide (ah + nh > 2305843009213693953) = true := decide_eq_true h1
    have d1' : decide (2305843009213693953 < ah + nh) = true := decide_eq_true h1
    clear h1
    go_wp2
    refine bodyPost_ret (v := .tuple #[.int .i64 0, .bool false]) (by simp [results, Tryz.results65, go_sem]) rfl ⟨0, false, rfl, fun e => (by cases e), ⟨by decide, by decide⟩, HB5.out⟩
  have d1 : decide (ah + nh > 2305843009213693953) = false := decide_eq_false h1
  have d1' : decide (2305843009213693953 < ah + nh) = false := decide_eq_false h1
  by_cases h2 : ah + nh < -2305843009213693953
  · have d2 : decide (ah + nh < -2305843009213693953) = true := decide_eq_true h2
    clear h1 h2
    go_wp2
    refine bodyPost_ret (v := .tuple #[.int .i64 0, .bool false]) (by simp [results, Tryz.results65, go_sem]) rfl ⟨0, false, rfl, fun e => (by cases e), ⟨by decide, by decide⟩, HB5.out⟩
  have d2 : decide (ah + nh < -2305843009213693953) = false := decide_eq_false h2
  have hsum : -4611686018427387910 ≤ a + num ∧ a + num ≤ 4611686018427387910 := by have := HU.out; omega
  have HSum := zzh hsum
  have e4 : IntKind.i64.wrap (a + num) = a + num := by unfold IntKind.wrap; simp [IntKind.bits, IntKind.signed]; omega
  have e4' : wrap64 (a + num) = a + num := by unfold wrap64; omega
  obtain ⟨sm, hsm⟩ : ∃ z, a + num = z := ⟨_, rfl⟩
  have HSm := zzh hsm
  rw [hsm] at e4 e4' HSum
  clear h1 h2 hsum
  go_upto_region 32 with fail
  refine wp_region_quiet (C := fun w' => Below w5.heap.size w5 w') (by kernel_rfl) (by kernel_rfl) (⟨rfl, rfl, rfl, Nat.le_refl _, fun _ _ => rfl⟩) ?_
  refine QW.lit ?_
  refine qw_want rfl ?_ (fun w' hw' => ?_) ?_
  rotate_left
  · unfold Oper.quietAt
    go_simp
    exact rfl
  simp only [Act.put, zza, zzc, zzb]
  refine qw_want rfl ?_ (fun w' hw' => ?_) ?_
  rotate_left
  · unfold Oper.quietAt
    go_simp
    exact rfl
  simp only [Act.put, zza, zzc, zzb]
  refine qw_want rfl ?_ (fun w' hw' => ?_) ?_
  rotate_left
  · obtain ⟨k0, k1⟩ := HF5.out w' hw'
    unfold Oper.quietAt
    go_simp
    exact rfl
  simp only [Act.put, zza, zzc, zzb]
  refine qw_want rfl ?_ (fun w' hw' => ?_) ?_
  rotate_left
  · unfold Oper.quietAt
    go_simp
    exact rfl
  simp only [Act.put, zza, zzc, zzb]
  refine qw_want rfl ?_ (fun w' hw' => ?_) ?_
  rotate_left
  · obtain ⟨k0, k1⟩ := HF5.out w' hw'
    unfold Oper.quietAt
    go_simp
    exact rfl
  simp only [Act.put, zza, zzc, zzb]
  refine qw_want rfl ?_ (fun w' hw' => ?_) ?_
  rotate_left
  · unfold Oper.quietAt
    go_simp
    exact rfl
  simp only [Act.put, zza, zzc, zzb]
  refine qw_want rfl ?_ (fun w' hw' => ?_) ?_
  rotate_left
  · unfold Oper.quietAt
    go_simp
    exact rfl
  simp only [Act.put, zza, zzc, zzb]
  refine qw_want rfl ?_ (fun w' hw' => ?_) ?_
  rotate_left
  · unfold Oper.quietAt
    go_simp
    exact rfl
  simp only [Act.put, zza, zzc, zzb]
  refine qw_want rfl ?_ (fun w' hw' => ?_) ?_
  rotate_left
  · obtain ⟨k0, k1⟩ := HF5.out w' hw'
    unfold Oper.quietAt
    go_simp
    exact rfl
  simp only [Act.put, zza, zzc, zzb]
  refine qw_want rfl ?_ (fun w' hw' => ?_) ?_
  rotate_left
  · unfold Oper.quietAt
    go_simp
    exact rfl
  simp only [Act.put, zza, zzc, zzb]
  refine qw_want rfl ?_ (fun w' hw' => ?_) ?_
  rotate_left
  · obtain ⟨k0, k1⟩ := HF5.out w' hw'
    unfold Oper.quietAt
    go_simp
    exact rfl
  simp only [Act.put, zza, zzc, zzb]
  refine qw_want rfl ?_ (fun w' hw' => ?_) ?_
  rotate_left
  · unfold Oper.quietAt
    go_simp
    exact rfl
  simp only [Act.put, zza, zzc, zzb]
  refine qw_want rfl (.bool (mayN sm)) (fun w' hw' => ?_) ?_
  · unfold Oper.quietAt
    go_simp
    refine (fits10_ok sm w').mono ?_
    rintro e w2 ⟨rfl, rfl⟩
    exact ⟨rfl, hw'⟩
  simp only [Act.put, zza, zzc, zzb]
  refine qw_want rfl ?_ (fun w' hw' => ?_) ?_
  rotate_left
  · unfold Oper.quietAt
    go_simp
    exact rfl
  simp only [Act.put, zza, zzc, zzb]
  refine qw_want rfl ?_ (fun w' hw' => ?_) ?_
  rotate_left
  · unfold Oper.quietAt
    go_simp
    exact rfl
  simp only [Act.put, zza, zzc, zzb]
  refine qw_end (fun w5 hb5 => ?_)
  have HB6 := zzh (HB5.out.trans (hb5.mono HB5.out.size))
  clear hb5
  go_wp2
  refine bodyPost_ret (v := .tuple #[.int .i64 sm, .bool (mayN sm)]) (by simp [results, Tryz.results65, go_sem]) rfl ⟨sm, mayN sm, rfl, fun e => ⟨HSm.out.symm, e⟩, ⟨by have := HSum.out; omega, by have := HSum.out; omega⟩, HB6.out⟩
end Go.Proofs.YtlipnnibagidiaaGreat

/- Exactly: whether a world may be. -/
import Derived.Test.YtkapbdjobfbhhaaGreatVxJ
import Derived.Test.YtkapbdjobfbhhaaGreatVlL
import Derived.BigRegion
namespace Go.Proofs.YtkapbdjobfbhhaaGreat
open Go.RowKit Go.Lib
structure MayW (g : SigV) (wl : WldV) : Prop where
  sz : wl.sizes.length = g.sorts.length
  fl : wl.funs.length = g.funs.length
  n0 : g.sorts.length ≤ 4
  n1 : g.funs.length ≤ 12
  is : ∀ i (h1 : i < g.funs.length) (h2 : i < wl.funs.length), isM g.sorts.length wl.sizes g.funs[i].res wl.funs[i].els = true ∧ ∀ r ∈ wl.funs[i].rows, isM g.sorts.length wl.sizes g.funs[i].res r.val = true
theorem fv_box (w : World) (c1 c2 : Array Value) (t1 t2 : TypeId) {s : Nat} (hs : w.heap.size = s) : Blk ((w.alloc (.cells c1 t1)).alloc (.cells c2 t2)) s t1 c1 ∧ Blk ((w.alloc (.cells c1 t1)).alloc (.cells c2 t2)) (s + 1) t2 c2 := by
  subst hs
  exact ⟨(Blk.new w t1 c1).alloc _, Blk.new_at (by simp) _ _⟩
def RwM.sm (r s : RwM) : Prop := r.a0 = s.a0 ∧ r.a1 = s.a1 ∧ r.a2 = s.a2
def RowP (n : Nat) (Z : List Int) (f : FnM) (rows : List RwM) (k : Nat) : Prop := ∀ r, rows[k]? = some r → fitsM n Z f r = true ∧ isM n Z f.res r.val = true ∧ ∀ j s, rows[j]? = some s → j < k → ¬ s.sm r
theorem rowP_iff {n : Nat} {Z : List Int} {f : FnM} {rows : List RwM} {k : Nat} (h : k < rows.length) : RowP n Z f rows k ↔ fitsM n Z f rows[k] = true ∧ isM n Z f.res rows[k].val = true ∧ ∀ j s, rows[j]? = some s → j < k → ¬ s.sm rows[k] :=
  ⟨fun H => H _ (List.getElem?_eq_getElem h), fun H r e => by rw [List.getElem?_eq_getElem h] at e; injection e with e; subst e; exact H⟩
structure FvP (n : Nat) (Z : List Int) (f : FnM) (v : FvM) : Prop where
  len : v.rows.length ≤ 400
  els : isM n Z f.res v.els = true
  row : ∀ k, k < v.rows.length → RowP n Z f v.rows k
structure MayP (g : SigV) (wl : WldV) (qs : Nat → Bool) (sf : Nat → Nat → ByteArray) (zf : Nat → Nat → Int) : Prop where
  ck : CkP g qs sf zf
  sz : wl.sizes.length = g.sorts.length
  fl : wl.funs.length = g.funs.length
  size : ∀ i (_ : i < wl.sizes.length), 1 ≤ wl.sizes[i] ∧ wl.sizes[i] ≤ 1000
  fv : ∀ i (_ : i < g.funs.length) (_ : i < wl.funs.length), FvP g.sorts.length wl.sizes g.funs[i] wl.funs[i]
theorem MayP.w {g : SigV} {wl : WldV} {qs : Nat → Bool} {sf : Nat → Nat → ByteArray} {zf : Nat → Nat → Int} (h : MayP g wl qs sf zf) : MayW g wl :=
  ⟨h.sz, h.fl, h.ck.n0, h.ck.n1, fun i h1 h2 => ⟨(h.fv i h1 h2).els, fun r hr => by
    obtain ⟨k, hk, rfl⟩ := List.getElem_of_mem hr
    exact ((rowP_iff hk).1 ((h.fv i h1 h2).row k hk)).2.1⟩⟩
set_option maxRecDepth 100000 in
set_option maxHeartbeats 16000000 in
theorem xmay09_ok {w : World} {g : SigV} {wl : WldV} {qs : Nat → Bool} {sf : Nat → Nat → ByteArray} {zf : Nat → Nat → Int} (hg : SigAt w g) (hd : SigX w g qs sf zf) (hw : WldAt w wl) :
    Calls Tryz.prog 18 #[.agg g.cells, .agg wl.cells] w (YesB (MayP g wl qs sf zf) w) := by
  obtain ⟨w0, hw0⟩ : ∃ w0, (w.alloc (.cells g.cells 26)).alloc (.cells wl.cells 30) = w0 := ⟨_, rfl⟩
  have HB0 : Hid (Below w.heap.size w w0) := Lib.hid (by rw [← hw0]; exact (sig_box w g).alloc (sig_box w g).size _)
  have HG0 : Hid (Blk w0 w.heap.size 26 g.cells) := Lib.hid (by rw [← hw0]; exact (Blk.new w 26 g.cells).alloc _)
  have HV0 : Hid (Blk w0 (w.heap.size + 1) 30 wl.cells) := Lib.hid (by rw [← hw0]; exact Blk.new_at (by simp) _ _)
  have HX : Hid (∀ W, Below w0.heap.size w0 W → (W.cell? ⟨w.heap.size, 0, none⟩ = some (.slice g.A0 g.sorts.length g.c0) ∧ W.cell? ⟨w.heap.size, 1, none⟩ = some (.slice g.A1 g.funs.length g.c1) ∧ W.cell? ⟨w.heap.size, 2, none⟩ = some (.slice g.A2 g.macs.length g.c2)) ∧ W.cell? ⟨w.heap.size + 1, 0, none⟩ = some (.slice wl.A0 wl.sizes.length wl.c0) ∧ W.cell? ⟨w.heap.size + 1, 1, none⟩ = some (.slice wl.A1 wl.funs.length wl.c1)) := Lib.hid (fun W hW => ⟨sig_blk (HG0.out.below hW HG0.out.lt), wld_blk (HV0.out.below hW HV0.out.lt)⟩)
  have HSg := Lib.hid (hg.below HB0.out)
  have HWl := Lib.hid (hw.below HB0.out)
  have HWf := Lib.hid hg.wf
  have KC := Lib.hid (xcheck_ok HSg.out (hd.below HB0.out))
  have HCkL : Hid (CkP g qs sf zf → g.sorts.length ≤ 4 ∧ g.funs.length ≤ 12) := Lib.hid (fun h => ⟨h.n0, h.n1⟩)
  obtain ⟨Ck, hCk⟩ : ∃ Ck, CkP g qs sf zf = Ck := ⟨_, rfl⟩
  obtain ⟨Pz, hPz⟩ : ∃ Pz, MayP g wl qs sf zf = Pz := ⟨_, rfl⟩
  have HIff : Hid (Pz ↔ Ck ∧ wl.sizes.length = g.sorts.length ∧ wl.funs.length = g.funs.length ∧ (∀ i (_ : i < wl.sizes.length), 1 ≤ wl.sizes[i] ∧ wl.sizes[i] ≤ 1000) ∧ ∀ i (_ : i < g.funs.length) (_ : i < wl.funs.length), FvP g.sorts.length wl.sizes g.funs[i] wl.funs[i]) := Lib.hid (by
    rw [← hPz, ← hCk]
    exact ⟨fun h => ⟨h.ck, h.sz, h.fl, h.size, h.fv⟩, fun h => ⟨h.1, h.2.1, h.2.2.1, h.2.2.2.1, h.2.2.2.2⟩⟩)
  rw [hCk] at KC HCkL
  rw [hPz]
  clear hCk hPz
  obtain ⟨⟨x0, x1, x2⟩, y0, y1⟩ := HX.out w0 (Below.refl _ _)
  have n0 := hw.n0
  have n1 := hw.n1
  have KFt := Lib.hid (fun W (hW : Below w0.heap.size w0 W) (f : FnM) (r : RwM) (hf : f.Wf) (hl : g.sorts.length ≤ 4) => fits09_ok g r (HWl.out.below hW) (by omega) hf)
  have KIs := Lib.hid (fun W (hW : Below w0.heap.size w0 W) (s v : Int) (hs : I64 s) (hl : g.sorts.length ≤ 4) => is09_ok g (HWl.out.below hW) (by omega) s v hs)
  clear hg hd hw
  obtain ⟨A0, c0, S, A1, c1, F, A2, c2, M⟩ := g
  obtain ⟨B0, dB0, Z, B1, dB1, V⟩ := wl
  unfold SigV.cells WldV.cells at *
  simp only at *
  have HW0 := Lib.hid hw0
  clear hw0 HG0 HV0
  go_enter Tryz.func18, Tryz.ntmps18
  go_upto_region 1 with fail
  rw [HW0.out]
  clear HW0
  go_wp2_with fail
  refine KC.out.mono ?_
  rintro e w1 ⟨r, rfl, hck, hb1⟩
  have HB1 := Lib.hid hb1
  have HCk := Lib.hid hck
  obtain ⟨⟨z0, z1, z2⟩, z3, z4⟩ := HX.out w1 hb1
  clear hb1 hck x0 x1 x2 y0 y1 KC
  by_cases hr : r = 0
  rotate_left
  · have e1 : (r != 0) = true := bne_iff_ne.2 hr
    have HE : Hid (¬ Pz) := Lib.hid (fun h => HCk.out.no hr (HIff.out.1 h).1)
    clear hr
    go_wp2
    go_ret
    exact YesB.no HE.out (HB0.out.trans (HB1.out.mono HB0.out.size))
  have e1 : (r != 0) = false := by rw [hr]; rfl
  have HCt := Lib.hid (HCk.out.ok hr)
  obtain ⟨hl0, hl1⟩ := HCkL.out HCt.out
  have HL0 := Lib.hid hl0
  clear hr HCk HCkL
  by_cases h1 : Z.length = S.length
  rotate_left
  · have e2 : ((Z.length : Int) != (S.length : Int)) = true := bne_iff_ne.2 (by omega)
    have HE : Hid (¬ Pz) := Lib.hid (fun h => h1 (HIff.out.1 h).2.1)
    clear h1 hl0 hl1
    go_wp2
    go_ret
    exact YesB.no HE.out (HB0.out.trans (HB1.out.mono HB0.out.size))
  have e2 : ((Z.length : Int) != (S.length : Int)) = false := by rw [h1]; simp
  by_cases h2 : V.length = F.length
  rotate_left
  · have e3 : ((V.length : Int) != (F.length : Int)) = true := bne_iff_ne.2 (by omega)
    have HE : Hid (¬ Pz) := Lib.hid (fun h => h2 (HIff.out.1 h).2.2.1)
    clear h1 h2 hl0 hl1
    go_wp2
    go_ret
    exact YesB.no HE.out (HB0.out.trans (HB1.out.mono HB0.out.size))
  have e3 : ((V.length : Int) != (F.length : Int)) = false := by rw [h2]; simp
  have H1 := Lib.hid h1
  have H2 := Lib.hid h2
  have HL1 := Lib.hid hl1
  have hV12 : V.length ≤ 12 := by omega
  have hZ4 : Z.length ≤ 4 := by omega
  clear h1 h2 hl0 hl1
  go_wp2
  go_loopg [5] Z.length (fun g v wr => ∃ i : Nat, i + g = Z.length ∧ v = .int .i64 i ∧ w1 = wr ∧ ∀ j (_ : j < Z.length), j < i → 1 ≤ Z[j] ∧ Z[j] ≤ 1000)
  case atStart => exact ⟨0, by omega, rfl, rfl, fun j _ h => absurd h (Nat.not_lt_zero j)⟩
  case round =>
    obtain ⟨i, hig, rfl, rfl, hinv⟩ := hrel
    have HIz := Lib.hid hinv
    clear hinv
    cases gk with
    | succ gk =>
      have hlt : i < Z.length := by omega
      have d1 : decide ((i : Int) < Z.length) = true := by simp; omega
      have t1 : (0 : Int) ≤ (i : Int) := by omega
      have t2 : (i : Int) < (Z.length : Int) := by omega
      obtain ⟨b, off, hA, hb, p0⟩ := (HWl.out.below HB1.out).s i hlt
      dsimp only at hA p0
      subst hA
      have HZi : Hid (Pz → 1 ≤ Z[i] ∧ Z[i] ≤ 1000) := Lib.hid (fun h => (HIff.out.1 h).2.2.2.1 i hlt)
      have HZn : Hid (¬ Z[i] < 1 → ¬ Z[i] > 1000 → ∀ j (_ : j < Z.length), j < i + 1 → 1 ≤ Z[j] ∧ Z[j] ≤ 1000) := Lib.hid (fun h1 h2 j hj h => by
        rcases Nat.lt_or_ge j i with h' | h'
        · exact HIz.out j hj h'
        · obtain rfl : j = i := by omega
          exact ⟨by omega, by omega⟩)
      generalize Z[i] = z at *
      by_cases h1 : z < 1
      · have q1 : decide (z < 1) = true := decide_eq_true h1
        have HE : Hid (¬ Pz) := Lib.hid (fun h => by have := (HZi.out h).1; omega)
        clear h1
        go_wp2
        go_ret
        exact YesB.no HE.out (HB0.out.trans (HB1.out.mono HB0.out.size))
      have q1 : decide (z < 1) = false := decide_eq_false h1
      by_cases h2 : z > 1000
      · have q2 : decide (z > 1000) = true := decide_eq_true h2
        have HE : Hid (¬ Pz) := Lib.hid (fun h => by have := (HZi.out h).2; omega)
        have q2' : decide (1000 < z) = true := decide_eq_true h2
        clear h1 h2
        go_wp2
        go_ret
        exact YesB.no HE.out (HB0.out.trans (HB1.out.mono HB0.out.size))
      have q2 : decide (z > 1000) = false := decide_eq_false h2
      have q2' : decide (1000 < z) = false := decide_eq_false h2
      have HZx := Lib.hid (HZn.out h1 h2)
      clear h1 h2
      go_wp2
      go_roundg gk
      case measure => omega
      case rel => exact ⟨i + 1, by omega, by go_num, rfl, HZx.out⟩
    | zero =>
      obtain rfl : i = Z.length := by omega
      have d1 : decide ((Z.length : Int) < Z.length) = false := by simp
      have HZ1 := Lib.hid (Below.refl w1.heap.size w1)
      have HIzz := Lib.hid (fun j (hj : j < Z.length) => HIz.out j hj hj)
      clear HIz
      clear hig
      go_wp2
      clear d1 z0 z1 z2 z3 z4
      go_loopg [6] V.length (fun g v wr => ∃ i : Nat, i + g = V.length ∧ v = .int .i64 i ∧ (∀ k (h1 : k < F.length) (h2 : k < V.length), k < i → FvP S.length Z F[k] V[k]) ∧ Below w0.heap.size w0 wr)
      case atStart => exact ⟨0, by omega, rfl, fun k _ _ hk => absurd hk (Nat.not_lt_zero _), HB1.out⟩
      case round =>
        obtain ⟨i, hig, rfl, hall, hb⟩ := hrel
        have HB := Lib.hid hb
        have HAll := Lib.hid hall
        obtain ⟨⟨z0, z1, z2⟩, z3, z4⟩ := HX.out wr hb
        clear hb hall
        cases gk with
        | zero =>
          obtain rfl : i = V.length := by omega
          have d1 : decide ((V.length : Int) < V.length) = false := by simp
          have HD : Hid Pz := Lib.hid (HIff.out.2 ⟨HCt.out, H1.out, H2.out, HIzz.out, fun k h1 h2 => HAll.out k h1 h2 h2⟩)
          go_wp2
          go_ret
          exact YesB.yes HD.out (HB0.out.trans (HB.out.mono HB0.out.size))
        | succ gk =>
          have hlt : i < V.length := by omega
          have hlF : i < F.length := by have := H2.out; omega
          have d1 : decide ((i : Int) < V.length) = true := by simp; omega
          have t1 : (0 : Int) ≤ (i : Int) := by omega
          have t2 : (i : Int) < (V.length : Int) := by omega
          have t3 : (i : Int) < (F.length : Int) := by omega
          obtain ⟨b, off, hA, hb, ⟨f0, f1, f2, f3, f4, f5, hfw⟩⟩ := (HSg.out.below HB.out).f i hlF
          obtain ⟨b', off', hA', hb', g0, g1⟩ := (HWl.out.below HB.out).f i hlt
          have HRows := Lib.hid (HWl.out.r V[i] (List.getElem_mem hlt))
          dsimp only at hA hA'
          subst hA hA'
          have HNext : Hid (FvP S.length Z F[i] V[i] → ∀ k (h1 : k < F.length) (h2 : k < V.length), k < i + 1 → FvP S.length Z F[k] V[k]) := Lib.hid (fun e1 k h1 h2 h3 => by
            by_cases hki : k = i
            · subst hki; exact e1
            · exact HAll.out k h1 h2 (by omega))
          have HNoI : Hid (¬ FvP S.length Z F[i] V[i] → ¬ Pz) := Lib.hid (fun hn h => hn ((HIff.out.1 h).2.2.2.2 i hlF hlt))
          have HFw := Lib.hid hfw
          have hrs := hfw.res
          generalize F[i] = f at *
          generalize V[i] = vv at *
          have HFv : Hid (FvP S.length Z f vv ↔ vv.rows.length ≤ 400 ∧ isM S.length Z f.res vv.els = true ∧ ∀ k, k < vv.rows.length → RowP S.length Z f vv.rows k) := Lib.hid ⟨fun h => ⟨h.len, h.els, h.row⟩, fun h => ⟨h.1, h.2.1, h.2.2⟩⟩
          have HRi : Hid (∀ k (h : k < vv.rows.length), RowP S.length Z f vv.rows k ↔ fitsM S.length Z f vv.rows[k] = true ∧ isM S.length Z f.res vv.rows[k].val = true ∧ ∀ j s, vv.rows[j]? = some s → j < k → ¬ s.sm vv.rows[k]) := Lib.hid (fun k h => rowP_iff h)
          obtain ⟨Fv, hFv⟩ : ∃ Fv, FvP S.length Z f vv = Fv := ⟨_, rfl⟩
          obtain ⟨Rp, hRp⟩ : ∃ Rp, RowP S.length Z f vv.rows = Rp := ⟨_, rfl⟩
          rw [hFv] at HNext HNoI HFv
          rw [hRp] at HFv HRi
          clear hFv hRp
          obtain ⟨nm, len, a0, a1, a2, res⟩ := f
          obtain ⟨R, rc, rows, els⟩ := vv
          simp only at HFv HRi
          simp only at f0 f1 f2 f3 f4 f5 g0 g1 hrs
          have s1 : b < wr.heap.size + 1 := by omega
          have s2 : b < wr.heap.size + 1 + 1 := by omega
          have s3 : b < wr.heap.size + 2 := by omega
          have s1' : b' < wr.heap.size + 1 := by omega
          have s2' : b' < wr.heap.size + 1 + 1 := by omega
          have s3' : b' < wr.heap.size + 2 := by omega
          have hl1 : w.heap.size + 1 < wr.heap.size := World.block_lt_of_cell? _ _ z3
          have u1 : w.heap.size < wr.heap.size + 1 := by omega
          have u2 : w.heap.size < wr.heap.size + 1 + 1 := by omega
          have u3 : w.heap.size < wr.heap.size + 2 := by omega
          have u1' : w.heap.size + 1 < wr.heap.size + 1 := by omega
          have u2' : w.heap.size + 1 < wr.heap.size + 1 + 1 := by omega
          have u3' : w.heap.size + 1 < wr.heap.size + 2 := by omega
          have u0 : w.heap.size < wr.heap.size := by omega
          clear hfw
          go_upto_region 11 with fail
          go_cut [7, 8] from 60 to 69 (fun v7 v8 wc => ∃ p q, v7 = .pointer (some ⟨p, 0, none⟩) ∧ v8 = .pointer (some ⟨q, 0, none⟩) ∧ Blk wc p 83 #[.string nm, .int .i64 len, .int .i64 a0, .int .i64 a1, .int .i64 a2, .int .i64 res] ∧ Blk wc q 59 #[.slice R rows.length rc, .int .i64 els] ∧ Below w0.heap.size w0 wc)
          case first =>
            have HBd := Lib.hid (fun (o1 o2 : Obj) => show Below w0.heap.size w0 (((wr.alloc o1).alloc o2).drew) from below_drewN ((HB.out.alloc HB.out.size o1).alloc (Nat.le_trans HB.out.size (by simp)) o2) 1)
            have P1 := Lib.hid (fv_box wr #[.string nm, .int .i64 len, .int .i64 a0, .int .i64 a1, .int .i64 a2, .int .i64 res] #[.slice R rows.length rc, .int .i64 els] 83 59 rfl)
            have P2 := Lib.hid (fv_box wr #[.slice R rows.length rc, .int .i64 els] #[.string nm, .int .i64 len, .int .i64 a0, .int .i64 a1, .int .i64 a2, .int .i64 res] 59 83 rfl)
            go_region
            all_goals go_wp2
            all_goals go_meet
            · exact ⟨_, _, rfl, rfl, P1.out.1, P1.out.2, HBd.out _ _⟩
            · exact ⟨_, _, rfl, rfl, P2.out.2, P2.out.1, HBd.out _ _⟩
          case rest =>
            obtain ⟨p, q, rfl, rfl, hp, hq, hbc⟩ := hcut
            have HBc := Lib.hid hbc
            have HFx0 : Hid (∀ W, Below wc.heap.size wc W → (W.cell? ⟨w.heap.size, 0, none⟩ = some (.slice A0 S.length c0) ∧ W.cell? ⟨w.heap.size, 1, none⟩ = some (.slice (some ⟨b, off, none⟩) F.length c1) ∧ W.cell? ⟨w.heap.size, 2, none⟩ = some (.slice A2 M.length c2)) ∧ (W.cell? ⟨w.heap.size + 1, 0, none⟩ = some (.slice B0 Z.length dB0) ∧ W.cell? ⟨w.heap.size + 1, 1, none⟩ = some (.slice (some ⟨b', off', none⟩) V.length dB1)) ∧ (W.cell? ⟨p, 0, none⟩ = some (.string nm) ∧ W.cell? ⟨p, 1, none⟩ = some (.int .i64 len) ∧ W.cell? ⟨p, 2, none⟩ = some (.int .i64 a0) ∧ W.cell? ⟨p, 3, none⟩ = some (.int .i64 a1) ∧ W.cell? ⟨p, 4, none⟩ = some (.int .i64 a2) ∧ W.cell? ⟨p, 5, none⟩ = some (.int .i64 res)) ∧ W.cell? ⟨q, 0, none⟩ = some (.slice R rows.length rc) ∧ W.cell? ⟨q, 1, none⟩ = some (.int .i64 els)) := Lib.hid (fun W hW => by
              obtain ⟨h1, h2⟩ := HX.out W (hbc.trans (hW.mono hbc.size))
              have h3 := hp.below hW hp.lt
              have h4 := hq.below hW hq.lt
              exact ⟨h1, h2, ⟨h3.cell 0, h3.cell 1, h3.cell 2, h3.cell 3, h3.cell 4, h3.cell 5⟩, h4.cell 0, h4.cell 1⟩)
            have HRw : Hid (∀ k (hk : k < rows.length), ∃ b off, R = some ⟨b, off, none⟩ ∧ b < wc.heap.size ∧ RwAt wc b (off + k * 4) rows[k]) := Lib.hid (fun k hk => by
              obtain ⟨b, off, e, hlt, hat⟩ := HRows.out.2 k hk
              exact ⟨b, off, e, Nat.lt_of_lt_of_le hlt hbc.size, hat.below hbc hlt⟩)
            have HI12 := Lib.hid (KIs.out wc hbc res els hrs HL0.out)
            have HZc := Lib.hid (Below.refl wc.heap.size wc)
            obtain ⟨⟨z0, z1, z2⟩, ⟨z3, z4⟩, ⟨p0, p1, p2, p3, p4, p5⟩, q0, q1⟩ := HFx0.out wc (Below.refl _ _)
            obtain ⟨gk0, rfl⟩ : ∃ go : Nat, go = gk := ⟨_, rfl⟩
            clear hp hq hbc f0 f1 f2 f3 f4 f5 g0 g1 s1 s2 s3 s1' s2' s3' u0 u1 u2 u3 u1' u2' u3' hl1 hb hb'
            by_cases h400 : 400 < rows.length
            · have e4 : decide ((rows.length : Int) > 400) = true := by simp; omega
              have HE : Hid (¬ Pz) := Lib.hid (HNoI.out (fun h => by have := (HFv.out.1 h).1; omega))
              have e4' : decide ((400 : Int) < (rows.length : Int)) = true := by simp; omega
              clear h400
              go_wp2
              go_ret
              exact YesB.no HE.out (HB0.out.trans (HBc.out.mono HB0.out.size))
            have e4 : decide ((rows.length : Int) > 400) = false := by simp; omega
            have e4' : decide ((400 : Int) < (rows.length : Int)) = false := by simp; omega
            obtain ⟨q12, hq12⟩ : ∃ q, isM S.length Z res els = q := ⟨_, rfl⟩
            have HQ12 := Lib.hid hq12
            rw [hq12] at HI12
            clear hq12
            go_wp2_with fail
            refine HI12.out.mono ?_
            rintro e w5 ⟨rfl, hb5⟩
            have HB5 := Lib.hid hb5
            clear hb5 HI12 z0 z1 z2 z3 z4 p0 p1 p2 p3 p4 p5 q0 q1
            cases q12 with
            | false =>
              have HE : Hid (¬ Pz) := Lib.hid (HNoI.out (fun h => Bool.noConfusion (HQ12.out.symm.trans (HFv.out.1 h).2.1)))
              go_wp2
              go_ret
              exact YesB.no HE.out (HB0.out.trans ((HBc.out.trans (HB5.out.mono HBc.out.size)).mono HB0.out.size))
            | true =>
              have h4 : rows.length ≤ 400 := by omega
              clear h400 e4 e4'
              obtain ⟨_, _, _, y0, y1⟩ := HFx0.out w5 HB5.out
              go_wp2
              clear y0 y1
              go_loopg [9] rows.length (fun g v wr => ∃ k : Nat, k + g = rows.length ∧ v = .int .i64 k ∧ (∀ j, j < k → Rp j) ∧ Below wc.heap.size wc wr)
              case atStart => exact ⟨0, by omega, rfl, fun j h => absurd h (Nat.not_lt_zero j), HB5.out⟩
              case round =>
                obtain ⟨k, hkg, rfl, hall, hb⟩ := hrel
                have HB6 := Lib.hid hb
                have HAk := Lib.hid hall
                obtain ⟨⟨z0, z1, z2⟩, ⟨z3, z4⟩, ⟨p0, p1, p2, p3, p4, p5⟩, q0, q1⟩ := HFx0.out _ hb
                clear hb hall
                cases gk with
                | zero =>
                  obtain rfl : k = rows.length := by omega
                  have d2 : decide ((rows.length : Int) < rows.length) = false := by simp
                  have HN := Lib.hid (HNext.out (HFv.out.2 ⟨h4, HQ12.out, HAk.out⟩))
                  go_wp2
                  go_roundg gk0
                  case measure => omega
                  case rel => exact ⟨i + 1, by omega, by go_num, HN.out, HBc.out.trans (HB6.out.mono HBc.out.size)⟩
                | succ gk =>
                  have hlk : k < rows.length := by omega
                  have d2 : decide ((k : Int) < rows.length) = true := by simp; omega
                  have v1 : (0 : Int) ≤ (k : Int) := by omega
                  have v2 : (k : Int) < (rows.length : Int) := by omega
                  obtain ⟨rb, ro, hR, hrb, hat⟩ := HRw.out k hlk
                  have HRt : Hid (∀ W, Below wc.heap.size wc W → ∀ j (hj : j < rows.length), RwAt W rb (ro + j * 4) rows[j]) := Lib.hid (fun W hW j hj => by
                    obtain ⟨b2, o2, e2, hl2, hat2⟩ := HRw.out j hj
                    rw [hR] at e2
                    injection e2 with e2
                    injection e2 with e2 e3
                    subst e2 e3
                    exact hat2.below hW hl2)
                  subst hR
                  have HNk : Hid (¬ Rp k → ¬ Pz) := Lib.hid (fun hn => HNoI.out (fun h => hn ((HFv.out.1 h).2.2 k hlk)))
                  have HRk2 := Lib.hid (HRi.out k hlk)
                  have HRk : Hid (∃ r, rows[k] = r) := Lib.hid ⟨_, rfl⟩
                  obtain ⟨rk, hrk⟩ := HRk.out
                  have HRtk : Hid (∀ W, Below wc.heap.size wc W → RwAt W rb (ro + k * 4) rk) := Lib.hid (fun W hW => by rw [← hrk]; exact HRt.out W hW k hlk)
                  rw [hrk] at HRk2
                  have HFx : Hid (∀ W, Below wr.heap.size wr W → (W.cell? ⟨w.heap.size, 0, none⟩ = some (.slice A0 S.length c0) ∧ W.cell? ⟨w.heap.size, 1, none⟩ = some (.slice (some ⟨b, off, none⟩) F.length c1) ∧ W.cell? ⟨w.heap.size, 2, none⟩ = some (.slice A2 M.length c2)) ∧ (W.cell? ⟨w.heap.size + 1, 0, none⟩ = some (.slice B0 Z.length dB0) ∧ W.cell? ⟨w.heap.size + 1, 1, none⟩ = some (.slice (some ⟨b', off', none⟩) V.length dB1)) ∧ (W.cell? ⟨p, 0, none⟩ = some (.string nm) ∧ W.cell? ⟨p, 1, none⟩ = some (.int .i64 len) ∧ W.cell? ⟨p, 2, none⟩ = some (.int .i64 a0) ∧ W.cell? ⟨p, 3, none⟩ = some (.int .i64 a1) ∧ W.cell? ⟨p, 4, none⟩ = some (.int .i64 a2) ∧ W.cell? ⟨p, 5, none⟩ = some (.int .i64 res)) ∧ W.cell? ⟨q, 0, none⟩ = some (.slice (some ⟨rb, ro, none⟩) rows.length rc) ∧ W.cell? ⟨rb, ro + k * 4, none⟩ = some (.int .i64 rk.a0) ∧ W.cell? ⟨rb, ro + k * 4 + 1, none⟩ = some (.int .i64 rk.a1) ∧ W.cell? ⟨rb, ro + k * 4 + 2, none⟩ = some (.int .i64 rk.a2) ∧ W.cell? ⟨rb, ro + k * 4 + 3, none⟩ = some (.int .i64 rk.val)) := Lib.hid (fun W hW => by
                    have h6 := HB6.out.trans (hW.mono HB6.out.size)
                    obtain ⟨h1, h2, h3, h4, _⟩ := HFx0.out W h6
                    have h5 := HRtk.out W h6
                    exact ⟨h1, h2, h3, h4, h5.c0, h5.c1, h5.c2, h5.c3⟩)
                  have KF : Hid (∀ W, Below wr.heap.size wr W → Calls Tryz.prog 34 #[.agg #[.slice A0 S.length c0, .slice (some ⟨b, off, none⟩) F.length c1, .slice A2 M.length c2], .agg #[.slice B0 Z.length dB0, .slice (some ⟨b', off', none⟩) V.length dB1], .agg #[.string nm, .int .i64 len, .int .i64 a0, .int .i64 a1, .int .i64 a2, .int .i64 res], .agg #[.int .i64 rk.a0, .int .i64 rk.a1, .int .i64 rk.a2]] W (fun e w' => e = .returned (.bool (fitsM S.length Z ⟨nm, len, a0, a1, a2, res⟩ rk)) ∧ Below W.heap.size W w')) := Lib.hid (fun W hW => KFt.out W (HBc.out.trans ((HB6.out.trans (hW.mono HB6.out.size)).mono HBc.out.size)) ⟨nm, len, a0, a1, a2, res⟩ rk HFw.out HL0.out)
                  have KI := Lib.hid (fun W (hW : Below wr.heap.size wr W) => KIs.out W (HBc.out.trans ((HB6.out.trans (hW.mono HB6.out.size)).mono HBc.out.size)) res rk.val hrs HL0.out)
                  obtain ⟨qf, hqf⟩ : ∃ q, fitsM S.length Z ⟨nm, len, a0, a1, a2, res⟩ rk = q := ⟨_, rfl⟩
                  obtain ⟨qi, hqi⟩ : ∃ q, isM S.length Z res rk.val = q := ⟨_, rfl⟩
                  rw [hqf] at KF HRk2
                  rw [hqi] at KI HRk2
                  obtain ⟨gk1, rfl⟩ : ∃ go : Nat, go = gk := ⟨_, rfl⟩
                  clear hrk hqf hqi hat hrb z0 z1 z2 z3 z4 p0 p1 p2 p3 p4 p5 q1
                  obtain ⟨ra0, ra1, ra2, rav⟩ := rk
                  simp only at HFx KF KI HRtk
                  go_upto_region 17 with fail
                  clear q0
                  cases qf with
                  | false =>
                    have HE : Hid (¬ Pz) := Lib.hid (HNk.out (fun h => Bool.noConfusion (HRk2.out.1 h).1))
                    refine wp_region_quiet (C := fun w' => Below wr.heap.size wr w') (by kernel_rfl) (by kernel_rfl) (⟨rfl, rfl, rfl, Nat.le_refl _, fun _ _ => rfl⟩) ?_
                    refine QW.lit ?_
                    refine qw_want rfl ?_ (fun w' hw' => ?_) ?_
                    rotate_left
                    · obtain ⟨⟨k0, k1, k2⟩, ⟨k3, k4⟩, ⟨k5, k6, k7, k8, k9, k10⟩, k11, k12, k13, k14, k15⟩ := HFx.out w' hw'
                      unfold Oper.quietAt
                      go_simp
                      exact rfl
                    simp only [Act.put, List.setIfInBounds_toArray, List.set_cons_succ, List.set_cons_zero]
                    refine qw_want rfl ?_ (fun w' hw' => ?_) ?_
                    rotate_left
                    · obtain ⟨⟨k0, k1, k2⟩, ⟨k3, k4⟩, ⟨k5, k6, k7, k8, k9, k10⟩, k11, k12, k13, k14, k15⟩ := HFx.out w' hw'
                      unfold Oper.quietAt
                      go_simp
                      exact rfl
                    simp only [Act.put, List.setIfInBounds_toArray, List.set_cons_succ, List.set_cons_zero]
                    refine qw_want rfl ?_ (fun w' hw' => ?_) ?_
                    rotate_left
                    · obtain ⟨⟨k0, k1, k2⟩, ⟨k3, k4⟩, ⟨k5, k6, k7, k8, k9, k10⟩, k11, k12, k13, k14, k15⟩ := HFx.out w' hw'
                      unfold Oper.quietAt
                      go_simp
                      exact rfl
                    simp only [Act.put, List.setIfInBounds_toArray, List.set_cons_succ, List.set_cons_zero]
                    refine qw_want rfl ?_ (fun w' hw' => ?_) ?_
                    rotate_left
                    · unfold Oper.quietAt
                      go_simp
                      exact rfl
                    simp only [Act.put, List.setIfInBounds_toArray, List.set_cons_succ, List.set_cons_zero]
                    refine qw_want rfl ?_ (fun w' hw' => ?_) ?_
                    rotate_left
                    · obtain ⟨⟨k0, k1, k2⟩, ⟨k3, k4⟩, ⟨k5, k6, k7, k8, k9, k10⟩, k11, k12, k13, k14, k15⟩ := HFx.out w' hw'
                      unfold Oper.quietAt
                      go_simp
                      exact rfl
                    simp only [Act.put, List.setIfInBounds_toArray, List.set_cons_succ, List.set_cons_zero]
                    refine qw_want rfl ?_ (fun w' hw' => ?_) ?_
                    rotate_left
                    · unfold Oper.quietAt
                      go_simp
                      exact rfl
                    simp only [Act.put, List.setIfInBounds_toArray, List.set_cons_succ, List.set_cons_zero]
                    refine qw_want rfl ?_ (fun w' hw' => ?_) ?_
                    rotate_left
                    · unfold Oper.quietAt
                      go_simp
                      exact rfl
                    simp only [Act.put, List.setIfInBounds_toArray, List.set_cons_succ, List.set_cons_zero]
                    refine qw_want rfl ?_ (fun w' hw' => ?_) ?_
                    rotate_left
                    · unfold Oper.quietAt
                      go_simp
                      exact rfl
                    simp only [Act.put, List.setIfInBounds_toArray, List.set_cons_succ, List.set_cons_zero]
                    refine qw_want rfl ?_ (fun w' hw' => ?_) ?_
                    rotate_left
                    · obtain ⟨⟨k0, k1, k2⟩, ⟨k3, k4⟩, ⟨k5, k6, k7, k8, k9, k10⟩, k11, k12, k13, k14, k15⟩ := HFx.out w' hw'
                      unfold Oper.quietAt
                      go_simp
                      exact rfl
                    simp only [Act.put, List.setIfInBounds_toArray, List.set_cons_succ, List.set_cons_zero]
                    refine qw_want rfl (.bool false) (fun w' hw' => ?_) ?_
                    · unfold Oper.quietAt
                      go_simp
                      refine (KF.out w' hw').mono ?_
                      rintro e w2 ⟨rfl, hb⟩
                      have hz := below_then hw' (Nat.le_refl _) hb
                      exact ⟨rfl, by simpa using hz⟩
                    simp only [Act.put, List.setIfInBounds_toArray, List.set_cons_succ, List.set_cons_zero]
                    refine qw_want rfl ?_ (fun w' hw' => ?_) ?_
                    rotate_left
                    · unfold Oper.quietAt
                      go_simp
                      exact rfl
                    simp only [Act.put, List.setIfInBounds_toArray, List.set_cons_succ, List.set_cons_zero]
                    refine qw_want rfl ?_ (fun w' hw' => ?_) ?_
                    rotate_left
                    · unfold Oper.quietAt
                      go_simp
                      exact rfl
                    simp only [Act.put, List.setIfInBounds_toArray, List.set_cons_succ, List.set_cons_zero]
                    refine qw_skip (by rfl) ?_
                    simp only [Act.put, List.setIfInBounds_toArray, List.set_cons_succ, List.set_cons_zero]
                    refine qw_skip (by rfl) ?_
                    simp only [Act.put, List.setIfInBounds_toArray, List.set_cons_succ, List.set_cons_zero]
                    refine qw_skip (by rfl) ?_
                    simp only [Act.put, List.setIfInBounds_toArray, List.set_cons_succ, List.set_cons_zero]
                    refine qw_skip (by rfl) ?_
                    simp only [Act.put, List.setIfInBounds_toArray, List.set_cons_succ, List.set_cons_zero]
                    refine qw_skip (by rfl) ?_
                    simp only [Act.put, List.setIfInBounds_toArray, List.set_cons_succ, List.set_cons_zero]
                    refine qw_skip (by rfl) ?_
                    simp only [Act.put, List.setIfInBounds_toArray, List.set_cons_succ, List.set_cons_zero]
                    refine qw_skip (by rfl) ?_
                    simp only [Act.put, List.setIfInBounds_toArray, List.set_cons_succ, List.set_cons_zero]
                    refine qw_skip (by rfl) ?_
                    simp only [Act.put, List.setIfInBounds_toArray, List.set_cons_succ, List.set_cons_zero]
                    refine qw_skip (by rfl) ?_
                    simp only [Act.put, List.setIfInBounds_toArray, List.set_cons_succ, List.set_cons_zero]
                    refine qw_skip (by rfl) ?_
                    simp only [Act.put, List.setIfInBounds_toArray, List.set_cons_succ, List.set_cons_zero]
                    refine qw_skip (by rfl) ?_
                    simp only [Act.put, List.setIfInBounds_toArray, List.set_cons_succ, List.set_cons_zero]
                    refine qw_skip (by rfl) ?_
                    simp only [Act.put, List.setIfInBounds_toArray, List.set_cons_succ, List.set_cons_zero]
                    refine qw_want rfl ?_ (fun w' hw' => ?_) ?_
                    rotate_left
                    · unfold Oper.quietAt
                      go_simp
                      exact rfl
                    simp only [Act.put, List.setIfInBounds_toArray, List.set_cons_succ, List.set_cons_zero]
                    refine qw_end (fun w5 hb5 => ?_)
                    have HB7 := Lib.hid (HB6.out.trans (hb5.mono HB6.out.size))
                    clear hb5
                    go_wp2
                    go_ret
                    exact YesB.no HE.out (HB0.out.trans ((HBc.out.trans (HB7.out.mono HBc.out.size)).mono HB0.out.size))
                  | true =>
                    cases qi with
                    | false =>
                      have HE : Hid (¬ Pz) := Lib.hid (HNk.out (fun h => Bool.noConfusion (HRk2.out.1 h).2.1))
                      refine wp_region_quiet (C := fun w' => Below wr.heap.size wr w') (by kernel_rfl) (by kernel_rfl) (⟨rfl, rfl, rfl, Nat.le_refl _, fun _ _ => rfl⟩) ?_
                      refine QW.lit ?_
                      refine qw_want rfl ?_ (fun w' hw' => ?_) ?_
                      rotate_left
                      · obtain ⟨⟨k0, k1, k2⟩, ⟨k3, k4⟩, ⟨k5, k6, k7, k8, k9, k10⟩, k11, k12, k13, k14, k15⟩ := HFx.out w' hw'
                        unfold Oper.quietAt
                        go_simp
                        exact rfl
                      simp only [Act.put, List.setIfInBounds_toArray, List.set_cons_succ, List.set_cons_zero]
                      refine qw_want rfl ?_ (fun w' hw' => ?_) ?_
                      rotate_left
                      · obtain ⟨⟨k0, k1, k2⟩, ⟨k3, k4⟩, ⟨k5, k6, k7, k8, k9, k10⟩, k11, k12, k13, k14, k15⟩ := HFx.out w' hw'
                        unfold Oper.quietAt
                        go_simp
                        exact rfl
                      simp only [Act.put, List.setIfInBounds_toArray, List.set_cons_succ, List.set_cons_zero]
                      refine qw_want rfl ?_ (fun w' hw' => ?_) ?_
                      rotate_left
                      · obtain ⟨⟨k0, k1, k2⟩, ⟨k3, k4⟩, ⟨k5, k6, k7, k8, k9, k10⟩, k11, k12, k13, k14, k15⟩ := HFx.out w' hw'
                        unfold Oper.quietAt
                        go_simp
                        exact rfl
                      simp only [Act.put, List.setIfInBounds_toArray, List.set_cons_succ, List.set_cons_zero]
                      refine qw_want rfl ?_ (fun w' hw' => ?_) ?_
                      rotate_left
                      · unfold Oper.quietAt
                        go_simp
                        exact rfl
                      simp only [Act.put, List.setIfInBounds_toArray, List.set_cons_succ, List.set_cons_zero]
                      refine qw_want rfl ?_ (fun w' hw' => ?_) ?_
                      rotate_left
                      · obtain ⟨⟨k0, k1, k2⟩, ⟨k3, k4⟩, ⟨k5, k6, k7, k8, k9, k10⟩, k11, k12, k13, k14, k15⟩ := HFx.out w' hw'
                        unfold Oper.quietAt
                        go_simp
                        exact rfl
                      simp only [Act.put, List.setIfInBounds_toArray, List.set_cons_succ, List.set_cons_zero]
                      refine qw_want rfl ?_ (fun w' hw' => ?_) ?_
                      rotate_left
                      · unfold Oper.quietAt
                        go_simp
                        exact rfl
                      simp only [Act.put, List.setIfInBounds_toArray, List.set_cons_succ, List.set_cons_zero]
                      refine qw_want rfl ?_ (fun w' hw' => ?_) ?_
                      rotate_left
                      · unfold Oper.quietAt
                        go_simp
                        exact rfl
                      simp only [Act.put, List.setIfInBounds_toArray, List.set_cons_succ, List.set_cons_zero]
                      refine qw_want rfl ?_ (fun w' hw' => ?_) ?_
                      rotate_left
                      · unfold Oper.quietAt
                        go_simp
                        exact rfl
                      simp only [Act.put, List.setIfInBounds_toArray, List.set_cons_succ, List.set_cons_zero]
                      refine qw_want rfl ?_ (fun w' hw' => ?_) ?_
                      rotate_left
                      · obtain ⟨⟨k0, k1, k2⟩, ⟨k3, k4⟩, ⟨k5, k6, k7, k8, k9, k10⟩, k11, k12, k13, k14, k15⟩ := HFx.out w' hw'
                        unfold Oper.quietAt
                        go_simp
                        exact rfl
                      simp only [Act.put, List.setIfInBounds_toArray, List.set_cons_succ, List.set_cons_zero]
                      refine qw_want rfl (.bool true) (fun w' hw' => ?_) ?_
                      · unfold Oper.quietAt
                        go_simp
                        refine (KF.out w' hw').mono ?_
                        rintro e w2 ⟨rfl, hb⟩
                        have hz := below_then hw' (Nat.le_refl _) hb
                        exact ⟨rfl, by simpa using hz⟩
                      simp only [Act.put, List.setIfInBounds_toArray, List.set_cons_succ, List.set_cons_zero]
                      refine qw_want rfl ?_ (fun w' hw' => ?_) ?_
                      rotate_left
                      · unfold Oper.quietAt
                        go_simp
                        exact rfl
                      simp only [Act.put, List.setIfInBounds_toArray, List.set_cons_succ, List.set_cons_zero]
                      refine qw_want rfl ?_ (fun w' hw' => ?_) ?_
                      rotate_left
                      · unfold Oper.quietAt
                        go_simp
                        exact rfl
                      simp only [Act.put, List.setIfInBounds_toArray, List.set_cons_succ, List.set_cons_zero]
                      refine qw_want rfl ?_ (fun w' hw' => ?_) ?_
                      rotate_left
                      · obtain ⟨⟨k0, k1, k2⟩, ⟨k3, k4⟩, ⟨k5, k6, k7, k8, k9, k10⟩, k11, k12, k13, k14, k15⟩ := HFx.out w' hw'
                        unfold Oper.quietAt
                        go_simp
                        exact rfl
                      simp only [Act.put, List.setIfInBounds_toArray, List.set_cons_succ, List.set_cons_zero]
                      refine qw_want rfl ?_ (fun w' hw' => ?_) ?_
                      rotate_left
                      · obtain ⟨⟨k0, k1, k2⟩, ⟨k3, k4⟩, ⟨k5, k6, k7, k8, k9, k10⟩, k11, k12, k13, k14, k15⟩ := HFx.out w' hw'
                        unfold Oper.quietAt
                        go_simp
                        exact rfl
                      simp only [Act.put, List.setIfInBounds_toArray, List.set_cons_succ, List.set_cons_zero]
                      refine qw_want rfl ?_ (fun w' hw' => ?_) ?_
                      rotate_left
                      · unfold Oper.quietAt
                        go_simp
                        exact rfl
                      simp only [Act.put, List.setIfInBounds_toArray, List.set_cons_succ, List.set_cons_zero]
                      refine qw_want rfl ?_ (fun w' hw' => ?_) ?_
                      rotate_left
                      · obtain ⟨⟨k0, k1, k2⟩, ⟨k3, k4⟩, ⟨k5, k6, k7, k8, k9, k10⟩, k11, k12, k13, k14, k15⟩ := HFx.out w' hw'
                        unfold Oper.quietAt
                        go_simp
                        exact rfl
                      simp only [Act.put, List.setIfInBounds_toArray, List.set_cons_succ, List.set_cons_zero]
                      refine qw_want rfl ?_ (fun w' hw' => ?_) ?_
                      rotate_left
                      · unfold Oper.quietAt
                        go_simp
                        exact rfl
                      simp only [Act.put, List.setIfInBounds_toArray, List.set_cons_succ, List.set_cons_zero]
                      refine qw_want rfl ?_ (fun w' hw' => ?_) ?_
                      rotate_left
                      · obtain ⟨⟨k0, k1, k2⟩, ⟨k3, k4⟩, ⟨k5, k6, k7, k8, k9, k10⟩, k11, k12, k13, k14, k15⟩ := HFx.out w' hw'
                        unfold Oper.quietAt
                        go_simp
                        exact rfl
                      simp only [Act.put, List.setIfInBounds_toArray, List.set_cons_succ, List.set_cons_zero]
                      refine qw_want rfl ?_ (fun w' hw' => ?_) ?_
                      rotate_left
                      · unfold Oper.quietAt
                        go_simp
                        exact rfl
                      simp only [Act.put, List.setIfInBounds_toArray, List.set_cons_succ, List.set_cons_zero]
                      refine qw_want rfl ?_ (fun w' hw' => ?_) ?_
                      rotate_left
                      · unfold Oper.quietAt
                        go_simp
                        exact rfl
                      simp only [Act.put, List.setIfInBounds_toArray, List.set_cons_succ, List.set_cons_zero]
                      refine qw_want rfl ?_ (fun w' hw' => ?_) ?_
                      rotate_left
                      · unfold Oper.quietAt
                        go_simp
                        exact rfl
                      simp only [Act.put, List.setIfInBounds_toArray, List.set_cons_succ, List.set_cons_zero]
                      refine qw_want rfl ?_ (fun w' hw' => ?_) ?_
                      rotate_left
                      · obtain ⟨⟨k0, k1, k2⟩, ⟨k3, k4⟩, ⟨k5, k6, k7, k8, k9, k10⟩, k11, k12, k13, k14, k15⟩ := HFx.out w' hw'
                        unfold Oper.quietAt
                        go_simp
                        exact rfl
                      simp only [Act.put, List.setIfInBounds_toArray, List.set_cons_succ, List.set_cons_zero]
                      refine qw_want rfl (.bool false) (fun w' hw' => ?_) ?_
                      · unfold Oper.quietAt
                        go_simp
                        refine (KI.out w' hw').mono ?_
                        rintro e w2 ⟨rfl, hb⟩
                        have hz := below_then hw' (Nat.le_refl _) hb
                        exact ⟨rfl, by simpa using hz⟩
                      simp only [Act.put, List.setIfInBounds_toArray, List.set_cons_succ, List.set_cons_zero]
                      refine qw_want rfl ?_ (fun w' hw' => ?_) ?_
                      rotate_left
                      · unfold Oper.quietAt
                        go_simp
                        exact rfl
                      simp only [Act.put, List.setIfInBounds_toArray, List.set_cons_succ, List.set_cons_zero]
                      refine qw_want rfl ?_ (fun w' hw' => ?_) ?_
                      rotate_left
                      · unfold Oper.quietAt
                        go_simp
                        exact rfl
                      simp only [Act.put, List.setIfInBounds_toArray, List.set_cons_succ, List.set_cons_zero]
                      refine qw_end (fun w5 hb5 => ?_)
                      have HB7 := Lib.hid (HB6.out.trans (hb5.mono HB6.out.size))
                      clear hb5
                      go_wp2
                      go_ret
                      exact YesB.no HE.out (HB0.out.trans ((HBc.out.trans (HB7.out.mono HBc.out.size)).mono HB0.out.size))
                    | true =>
                      refine wp_region_quiet (C := fun w' => Below wr.heap.size wr w') (by kernel_rfl) (by kernel_rfl) (⟨rfl, rfl, rfl, Nat.le_refl _, fun _ _ => rfl⟩) ?_
                      refine QW.lit ?_
                      refine qw_want rfl ?_ (fun w' hw' => ?_) ?_
                      rotate_left
                      · obtain ⟨⟨k0, k1, k2⟩, ⟨k3, k4⟩, ⟨k5, k6, k7, k8, k9, k10⟩, k11, k12, k13, k14, k15⟩ := HFx.out w' hw'
                        unfold Oper.quietAt
                        go_simp
                        exact rfl
                      simp only [Act.put, List.setIfInBounds_toArray, List.set_cons_succ, List.set_cons_zero]
                      refine qw_want rfl ?_ (fun w' hw' => ?_) ?_
                      rotate_left
                      · obtain ⟨⟨k0, k1, k2⟩, ⟨k3, k4⟩, ⟨k5, k6, k7, k8, k9, k10⟩, k11, k12, k13, k14, k15⟩ := HFx.out w' hw'
                        unfold Oper.quietAt
                        go_simp
                        exact rfl
                      simp only [Act.put, List.setIfInBounds_toArray, List.set_cons_succ, List.set_cons_zero]
                      refine qw_want rfl ?_ (fun w' hw' => ?_) ?_
                      rotate_left
                      · obtain ⟨⟨k0, k1, k2⟩, ⟨k3, k4⟩, ⟨k5, k6, k7, k8, k9, k10⟩, k11, k12, k13, k14, k15⟩ := HFx.out w' hw'
                        unfold Oper.quietAt
                        go_simp
                        exact rfl
                      simp only [Act.put, List.setIfInBounds_toArray, List.set_cons_succ, List.set_cons_zero]
                      refine qw_want rfl ?_ (fun w' hw' => ?_) ?_
                      rotate_left
                      · unfold Oper.quietAt
                        go_simp
                        exact rfl
                      simp only [Act.put, List.setIfInBounds_toArray, List.set_cons_succ, List.set_cons_zero]
                      refine qw_want rfl ?_ (fun w' hw' => ?_) ?_
                      rotate_left
                      · obtain ⟨⟨k0, k1, k2⟩, ⟨k3, k4⟩, ⟨k5, k6, k7, k8, k9, k10⟩, k11, k12, k13, k14, k15⟩ := HFx.out w' hw'
                        unfold Oper.quietAt
                        go_simp
                        exact rfl
                      simp only [Act.put, List.setIfInBounds_toArray, List.set_cons_succ, List.set_cons_zero]
                      refine qw_want rfl ?_ (fun w' hw' => ?_) ?_
                      rotate_left
                      · unfold Oper.quietAt
                        go_simp
                        exact rfl
                      simp only [Act.put, List.setIfInBounds_toArray, List.set_cons_succ, List.set_cons_zero]
                      refine qw_want rfl ?_ (fun w' hw' => ?_) ?_
                      rotate_left
                      · unfold Oper.quietAt
                        go_simp
                        exact rfl
                      simp only [Act.put, List.setIfInBounds_toArray, List.set_cons_succ, List.set_cons_zero]
                      refine qw_want rfl ?_ (fun w' hw' => ?_) ?_
                      rotate_left
                      · unfold Oper.quietAt
                        go_simp
                        exact rfl
                      simp only [Act.put, List.setIfInBounds_toArray, List.set_cons_succ, List.set_cons_zero]
                      refine qw_want rfl ?_ (fun w' hw' => ?_) ?_
                      rotate_left
                      · obtain ⟨⟨k0, k1, k2⟩, ⟨k3, k4⟩, ⟨k5, k6, k7, k8, k9, k10⟩, k11, k12, k13, k14, k15⟩ := HFx.out w' hw'
                        unfold Oper.quietAt
                        go_simp
                        exact rfl
                      simp only [Act.put, List.setIfInBounds_toArray, List.set_cons_succ, List.set_cons_zero]
                      refine qw_want rfl (.bool true) (fun w' hw' => ?_) ?_
                      · unfold Oper.quietAt
                        go_simp
                        refine (KF.out w' hw').mono ?_
                        rintro e w2 ⟨rfl, hb⟩
                        have hz := below_then hw' (Nat.le_refl _) hb
                        exact ⟨rfl, by simpa using hz⟩
                      simp only [Act.put, List.setIfInBounds_toArray, List.set_cons_succ, List.set_cons_zero]
                      refine qw_want rfl ?_ (fun w' hw' => ?_) ?_
                      rotate_left
                      · unfold Oper.quietAt
                        go_simp
                        exact rfl
                      simp only [Act.put, List.setIfInBounds_toArray, List.set_cons_succ, List.set_cons_zero]
                      refine qw_want rfl ?_ (fun w' hw' => ?_) ?_
                      rotate_left
                      · unfold Oper.quietAt
                        go_simp
                        exact rfl
                      simp only [Act.put, List.setIfInBounds_toArray, List.set_cons_succ, List.set_cons_zero]
                      refine qw_want rfl ?_ (fun w' hw' => ?_) ?_
                      rotate_left
                      · obtain ⟨⟨k0, k1, k2⟩, ⟨k3, k4⟩, ⟨k5, k6, k7, k8, k9, k10⟩, k11, k12, k13, k14, k15⟩ := HFx.out w' hw'
                        unfold Oper.quietAt
                        go_simp
                        exact rfl
                      simp only [Act.put, List.setIfInBounds_toArray, List.set_cons_succ, List.set_cons_zero]
                      refine qw_want rfl ?_ (fun w' hw' => ?_) ?_
                      rotate_left
                      · obtain ⟨⟨k0, k1, k2⟩, ⟨k3, k4⟩, ⟨k5, k6, k7, k8, k9, k10⟩, k11, k12, k13, k14, k15⟩ := HFx.out w' hw'
                        unfold Oper.quietAt
                        go_simp
                        exact rfl
                      simp only [Act.put, List.setIfInBounds_toArray, List.set_cons_succ, List.set_cons_zero]
                      refine qw_want rfl ?_ (fun w' hw' => ?_) ?_
                      rotate_left
                      · unfold Oper.quietAt
                        go_simp
                        exact rfl
                      simp only [Act.put, List.setIfInBounds_toArray, List.set_cons_succ, List.set_cons_zero]
                      refine qw_want rfl ?_ (fun w' hw' => ?_) ?_
                      rotate_left
                      · obtain ⟨⟨k0, k1, k2⟩, ⟨k3, k4⟩, ⟨k5, k6, k7, k8, k9, k10⟩, k11, k12, k13, k14, k15⟩ := HFx.out w' hw'
                        unfold Oper.quietAt
                        go_simp
                        exact rfl
                      simp only [Act.put, List.setIfInBounds_toArray, List.set_cons_succ, List.set_cons_zero]
                      refine qw_want rfl ?_ (fun w' hw' => ?_) ?_
                      rotate_left
                      · unfold Oper.quietAt
                        go_simp
                        exact rfl
                      simp only [Act.put, List.setIfInBounds_toArray, List.set_cons_succ, List.set_cons_zero]
                      refine qw_want rfl ?_ (fun w' hw' => ?_) ?_
                      rotate_left
                      · obtain ⟨⟨k0, k1, k2⟩, ⟨k3, k4⟩, ⟨k5, k6, k7, k8, k9, k10⟩, k11, k12, k13, k14, k15⟩ := HFx.out w' hw'
                        unfold Oper.quietAt
                        go_simp
                        exact rfl
                      simp only [Act.put, List.setIfInBounds_toArray, List.set_cons_succ, List.set_cons_zero]
                      refine qw_want rfl ?_ (fun w' hw' => ?_) ?_
                      rotate_left
                      · unfold Oper.quietAt
                        go_simp
                        exact rfl
                      simp only [Act.put, List.setIfInBounds_toArray, List.set_cons_succ, List.set_cons_zero]
                      refine qw_want rfl ?_ (fun w' hw' => ?_) ?_
                      rotate_left
                      · unfold Oper.quietAt
                        go_simp
                        exact rfl
                      simp only [Act.put, List.setIfInBounds_toArray, List.set_cons_succ, List.set_cons_zero]
                      refine qw_want rfl ?_ (fun w' hw' => ?_) ?_
                      rotate_left
                      · unfold Oper.quietAt
                        go_simp
                        exact rfl
                      simp only [Act.put, List.setIfInBounds_toArray, List.set_cons_succ, List.set_cons_zero]
                      refine qw_want rfl ?_ (fun w' hw' => ?_) ?_
                      rotate_left
                      · obtain ⟨⟨k0, k1, k2⟩, ⟨k3, k4⟩, ⟨k5, k6, k7, k8, k9, k10⟩, k11, k12, k13, k14, k15⟩ := HFx.out w' hw'
                        unfold Oper.quietAt
                        go_simp
                        exact rfl
                      simp only [Act.put, List.setIfInBounds_toArray, List.set_cons_succ, List.set_cons_zero]
                      refine qw_want rfl (.bool true) (fun w' hw' => ?_) ?_
                      · unfold Oper.quietAt
                        go_simp
                        refine (KI.out w' hw').mono ?_
                        rintro e w2 ⟨rfl, hb⟩
                        have hz := below_then hw' (Nat.le_refl _) hb
                        exact ⟨rfl, by simpa using hz⟩
                      simp only [Act.put, List.setIfInBounds_toArray, List.set_cons_succ, List.set_cons_zero]
                      refine qw_want rfl ?_ (fun w' hw' => ?_) ?_
                      rotate_left
                      · unfold Oper.quietAt
                        go_simp
                        exact rfl
                      simp only [Act.put, List.setIfInBounds_toArray, List.set_cons_succ, List.set_cons_zero]
                      refine qw_want rfl ?_ (fun w' hw' => ?_) ?_
                      rotate_left
                      · unfold Oper.quietAt
                        go_simp
                        exact rfl
                      simp only [Act.put, List.setIfInBounds_toArray, List.set_cons_succ, List.set_cons_zero]
                      refine qw_end (fun w5 hb5 => ?_)
                      have HB7 := Lib.hid (HB6.out.trans (hb5.mono HB6.out.size))
                      clear hb5
                      go_wp2
                      go_loopg [10] k (fun g v wr => ∃ j : Nat, j + g = k ∧ v = .int .i64 j ∧ (∀ j' s, rows[j']? = some s → j' < j → ¬ s.sm ⟨ra0, ra1, ra2, rav⟩) ∧ Below wc.heap.size wc wr)
                      case atStart => exact ⟨0, by omega, rfl, fun j s _ h => absurd h (Nat.not_lt_zero j), HB7.out⟩
                      case round =>
                        obtain ⟨j, hjg, rfl, hinv, hb⟩ := hrel
                        have HB8 := Lib.hid hb
                        have HJ := Lib.hid hinv
                        clear hb hinv
                        cases gk with
                        | zero =>
                          obtain rfl : j = k := by omega
                          have d3 : decide ((j : Int) < (j : Int)) = false := by simp
                          go_wp2
                          go_roundg gk1
                          case measure => omega
                          case rel => exact ⟨j + 1, by omega, by go_num, fun q hq => by
                            rcases Nat.lt_or_ge q j with h' | h'
                            · exact HAk.out q h'
                            · obtain rfl : q = j := by omega
                              exact HRk2.out.2 ⟨by trivial, by trivial, HJ.out⟩, HB8.out⟩
                        | succ gk =>
                          have hjk : j < k := by omega
                          have d3 : decide ((j : Int) < (k : Int)) = true := by simp; omega
                          have w1' : (0 : Int) ≤ (j : Int) := by omega
                          have w2' : (j : Int) < (rows.length : Int) := by omega
                          obtain ⟨j0, j1, j2, _, ji0, ji1, ji2⟩ := HRt.out wr HB8.out j (by omega)
                          obtain ⟨k0, k1, k2, _, ki0, ki1, ki2⟩ := HRtk.out wr HB8.out
                          have HJ1 : Hid (rows[j].sm ⟨ra0, ra1, ra2, rav⟩ → ¬ Pz) := Lib.hid (fun e => HNk.out (fun h => (HRk2.out.1 h).2.2 j _ (List.getElem?_eq_getElem (by omega)) hjk e))
                          have HJ2 : Hid (¬ rows[j].sm ⟨ra0, ra1, ra2, rav⟩ → ∀ j' s, rows[j']? = some s → j' < j + 1 → ¬ s.sm ⟨ra0, ra1, ra2, rav⟩) := Lib.hid (fun e j' s hs h => by
                            rcases Nat.lt_or_ge j' j with h' | h'
                            · exact HJ.out j' s hs h'
                            · obtain rfl : j' = j := by omega
                              rw [List.getElem?_eq_getElem (by omega)] at hs
                              injection hs with hs
                              rw [← hs]
                              exact e)
                          generalize rows[j] = rj at *
                          obtain ⟨rb0, rb1, rb2, rbv⟩ := rj
                          simp only at j0 j1 j2 ji0 ji1 ji2 k0 k1 k2 ki0 ki1 ki2
                          obtain ⟨⟨z0, z1, z2⟩, ⟨z3, z4⟩, ⟨p0, p1, p2, p3, p4, p5⟩, q0, q1⟩ := HFx0.out _ HB8.out
                          obtain ⟨rr, hiff, hrr⟩ := tri_eq ji0 ji1 ji2 ki0 ki1 ki2
                          have HI3 := Lib.hid hiff
                          unfold triV at hrr
                          have ge := tri_eql hrr
                          have gg := tri_guard
                          clear hiff hrr ji0 ji1 ji2 ki0 ki1 ki2 z0 z1 z2 z3 z4 p0 p1 p2 p3 p4 p5 q1
                          have HFj : Hid (∀ W, Below wr.heap.size wr W → W.cell? ⟨q, 0, none⟩ = some (.slice (some ⟨rb, ro, none⟩) rows.length rc) ∧ (W.cell? ⟨rb, ro + j * 4, none⟩ = some (.int .i64 rb0) ∧ W.cell? ⟨rb, ro + j * 4 + 1, none⟩ = some (.int .i64 rb1) ∧ W.cell? ⟨rb, ro + j * 4 + 2, none⟩ = some (.int .i64 rb2)) ∧ W.cell? ⟨rb, ro + k * 4, none⟩ = some (.int .i64 ra0) ∧ W.cell? ⟨rb, ro + k * 4 + 1, none⟩ = some (.int .i64 ra1) ∧ W.cell? ⟨rb, ro + k * 4 + 2, none⟩ = some (.int .i64 ra2)) := Lib.hid (fun W hW => by
                            have hq2 := World.block_lt_of_cell? _ _ q0
                            have hr2 := World.block_lt_of_cell? _ _ j0
                            exact ⟨(hW.cell hq2).trans q0, ⟨(hW.cell (p := ⟨rb, ro + j * 4, none⟩) hr2).trans j0, (hW.cell (p := ⟨rb, ro + j * 4 + 1, none⟩) hr2).trans j1, (hW.cell (p := ⟨rb, ro + j * 4 + 2, none⟩) hr2).trans j2⟩, (hW.cell (p := ⟨rb, ro + k * 4, none⟩) hr2).trans k0, (hW.cell (p := ⟨rb, ro + k * 4 + 1, none⟩) hr2).trans k1, (hW.cell (p := ⟨rb, ro + k * 4 + 2, none⟩) hr2).trans k2⟩)
                          clear j0 j1 j2 k0 k1 k2 q0
                          go_upto_region 22 with fail
                          cases rr with
                          | true =>
                            have HE : Hid (¬ Pz) := Lib.hid (HJ1.out (HI3.out.1 rfl))
                            refine wp_region_quiet (C := fun w' => Below wr.heap.size wr w') (by kernel_rfl) (by kernel_rfl) (⟨rfl, rfl, rfl, Nat.le_refl _, fun _ _ => rfl⟩) ?_
                            refine QW.lit ?_
                            refine qw_want rfl ?_ (fun w' hw' => ?_) ?_
                            rotate_left
                            · unfold Oper.quietAt
                              go_simp
                              exact rfl
                            simp only [Act.put, List.setIfInBounds_toArray, List.set_cons_succ, List.set_cons_zero]
                            refine qw_want rfl ?_ (fun w' hw' => ?_) ?_
                            rotate_left
                            · obtain ⟨k0, ⟨k1, k2, k3⟩, k4, k5, k6⟩ := HFj.out w' hw'
                              unfold Oper.quietAt
                              go_simp
                              exact rfl
                            simp only [Act.put, List.setIfInBounds_toArray, List.set_cons_succ, List.set_cons_zero]
                            refine qw_want rfl ?_ (fun w' hw' => ?_) ?_
                            rotate_left
                            · unfold Oper.quietAt
                              go_simp
                              exact rfl
                            simp only [Act.put, List.setIfInBounds_toArray, List.set_cons_succ, List.set_cons_zero]
                            refine qw_want rfl ?_ (fun w' hw' => ?_) ?_
                            rotate_left
                            · unfold Oper.quietAt
                              go_simp
                              exact rfl
                            simp only [Act.put, List.setIfInBounds_toArray, List.set_cons_succ, List.set_cons_zero]
                            refine qw_want rfl ?_ (fun w' hw' => ?_) ?_
                            rotate_left
                            · unfold Oper.quietAt
                              go_simp
                              exact rfl
                            simp only [Act.put, List.setIfInBounds_toArray, List.set_cons_succ, List.set_cons_zero]
                            refine qw_want rfl ?_ (fun w' hw' => ?_) ?_
                            rotate_left
                            · obtain ⟨k0, ⟨k1, k2, k3⟩, k4, k5, k6⟩ := HFj.out w' hw'
                              unfold Oper.quietAt
                              go_simp
                              exact rfl
                            simp only [Act.put, List.setIfInBounds_toArray, List.set_cons_succ, List.set_cons_zero]
                            refine qw_want rfl ?_ (fun w' hw' => ?_) ?_
                            rotate_left
                            · unfold Oper.quietAt
                              go_simp
                              exact rfl
                            simp only [Act.put, List.setIfInBounds_toArray, List.set_cons_succ, List.set_cons_zero]
                            refine qw_want rfl ?_ (fun w' hw' => ?_) ?_
                            rotate_left
                            · obtain ⟨k0, ⟨k1, k2, k3⟩, k4, k5, k6⟩ := HFj.out w' hw'
                              unfold Oper.quietAt
                              go_simp
                              exact rfl
                            simp only [Act.put, List.setIfInBounds_toArray, List.set_cons_succ, List.set_cons_zero]
                            refine qw_want rfl ?_ (fun w' hw' => ?_) ?_
                            rotate_left
                            · unfold Oper.quietAt
                              go_simp
                              exact rfl
                            simp only [Act.put, List.setIfInBounds_toArray, List.set_cons_succ, List.set_cons_zero]
                            refine qw_want rfl ?_ (fun w' hw' => ?_) ?_
                            rotate_left
                            · unfold Oper.quietAt
                              go_simp
                              exact rfl
                            simp only [Act.put, List.setIfInBounds_toArray, List.set_cons_succ, List.set_cons_zero]
                            refine qw_want rfl ?_ (fun w' hw' => ?_) ?_
                            rotate_left
                            · unfold Oper.quietAt
                              go_simp
                              exact rfl
                            simp only [Act.put, List.setIfInBounds_toArray, List.set_cons_succ, List.set_cons_zero]
                            refine qw_want rfl ?_ (fun w' hw' => ?_) ?_
                            rotate_left
                            · obtain ⟨k0, ⟨k1, k2, k3⟩, k4, k5, k6⟩ := HFj.out w' hw'
                              unfold Oper.quietAt
                              go_simp
                              exact rfl
                            simp only [Act.put, List.setIfInBounds_toArray, List.set_cons_succ, List.set_cons_zero]
                            refine qw_want rfl ?_ (fun w' hw' => ?_) ?_
                            rotate_left
                            · unfold Oper.quietAt
                              go_simp
                              exact rfl
                            simp only [Act.put, List.setIfInBounds_toArray, List.set_cons_succ, List.set_cons_zero]
                            refine qw_end (fun w5 hb5 => ?_)
                            have HB9 := Lib.hid (HB8.out.trans (hb5.mono HB8.out.size))
                            clear hb5
                            go_wp2
                            go_ret
                            exact YesB.no HE.out (HB0.out.trans ((HBc.out.trans (HB9.out.mono HBc.out.size)).mono HB0.out.size))
                          | false =>
                            have HSt := Lib.hid (HJ2.out (fun h => Bool.noConfusion (HI3.out.2 h)))
                            refine wp_region_quiet (C := fun w' => Below wr.heap.size wr w') (by kernel_rfl) (by kernel_rfl) (⟨rfl, rfl, rfl, Nat.le_refl _, fun _ _ => rfl⟩) ?_
                            refine QW.lit ?_
                            refine qw_want rfl ?_ (fun w' hw' => ?_) ?_
                            rotate_left
                            · unfold Oper.quietAt
                              go_simp
                              exact rfl
                            simp only [Act.put, List.setIfInBounds_toArray, List.set_cons_succ, List.set_cons_zero]
                            refine qw_want rfl ?_ (fun w' hw' => ?_) ?_
                            rotate_left
                            · obtain ⟨k0, ⟨k1, k2, k3⟩, k4, k5, k6⟩ := HFj.out w' hw'
                              unfold Oper.quietAt
                              go_simp
                              exact rfl
                            simp only [Act.put, List.setIfInBounds_toArray, List.set_cons_succ, List.set_cons_zero]
                            refine qw_want rfl ?_ (fun w' hw' => ?_) ?_
                            rotate_left
                            · unfold Oper.quietAt
                              go_simp
                              exact rfl
                            simp only [Act.put, List.setIfInBounds_toArray, List.set_cons_succ, List.set_cons_zero]
                            refine qw_want rfl ?_ (fun w' hw' => ?_) ?_
                            rotate_left
                            · unfold Oper.quietAt
                              go_simp
                              exact rfl
                            simp only [Act.put, List.setIfInBounds_toArray, List.set_cons_succ, List.set_cons_zero]
                            refine qw_want rfl ?_ (fun w' hw' => ?_) ?_
                            rotate_left
                            · unfold Oper.quietAt
                              go_simp
                              exact rfl
                            simp only [Act.put, List.setIfInBounds_toArray, List.set_cons_succ, List.set_cons_zero]
                            refine qw_want rfl ?_ (fun w' hw' => ?_) ?_
                            rotate_left
                            · obtain ⟨k0, ⟨k1, k2, k3⟩, k4, k5, k6⟩ := HFj.out w' hw'
                              unfold Oper.quietAt
                              go_simp
                              exact rfl
                            simp only [Act.put, List.setIfInBounds_toArray, List.set_cons_succ, List.set_cons_zero]
                            refine qw_want rfl ?_ (fun w' hw' => ?_) ?_
                            rotate_left
                            · unfold Oper.quietAt
                              go_simp
                              exact rfl
                            simp only [Act.put, List.setIfInBounds_toArray, List.set_cons_succ, List.set_cons_zero]
                            refine qw_want rfl ?_ (fun w' hw' => ?_) ?_
                            rotate_left
                            · obtain ⟨k0, ⟨k1, k2, k3⟩, k4, k5, k6⟩ := HFj.out w' hw'
                              unfold Oper.quietAt
                              go_simp
                              exact rfl
                            simp only [Act.put, List.setIfInBounds_toArray, List.set_cons_succ, List.set_cons_zero]
                            refine qw_want rfl ?_ (fun w' hw' => ?_) ?_
                            rotate_left
                            · unfold Oper.quietAt
                              go_simp
                              exact rfl
                            simp only [Act.put, List.setIfInBounds_toArray, List.set_cons_succ, List.set_cons_zero]
                            refine qw_want rfl ?_ (fun w' hw' => ?_) ?_
                            rotate_left
                            · unfold Oper.quietAt
                              go_simp
                              exact rfl
                            simp only [Act.put, List.setIfInBounds_toArray, List.set_cons_succ, List.set_cons_zero]
                            refine qw_want rfl ?_ (fun w' hw' => ?_) ?_
                            rotate_left
                            · unfold Oper.quietAt
                              go_simp
                              exact rfl
                            simp only [Act.put, List.setIfInBounds_toArray, List.set_cons_succ, List.set_cons_zero]
                            refine qw_want rfl ?_ (fun w' hw' => ?_) ?_
                            rotate_left
                            · obtain ⟨k0, ⟨k1, k2, k3⟩, k4, k5, k6⟩ := HFj.out w' hw'
                              unfold Oper.quietAt
                              go_simp
                              exact rfl
                            simp only [Act.put, List.setIfInBounds_toArray, List.set_cons_succ, List.set_cons_zero]
                            refine qw_want rfl ?_ (fun w' hw' => ?_) ?_
                            rotate_left
                            · unfold Oper.quietAt
                              go_simp
                              exact rfl
                            simp only [Act.put, List.setIfInBounds_toArray, List.set_cons_succ, List.set_cons_zero]
                            refine qw_end (fun w5 hb5 => ?_)
                            have HB9 := Lib.hid (HB8.out.trans (hb5.mono HB8.out.size))
                            clear hb5
                            go_wp2
                            go_roundg gk
                            case measure => omega
                            case rel => exact ⟨j + 1, by omega, by go_num, HSt.out, HB9.out⟩
end Go.Proofs.YtkapbdjobfbhhaaGreat

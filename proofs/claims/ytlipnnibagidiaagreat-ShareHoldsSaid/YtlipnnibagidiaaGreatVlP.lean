/- Whether a table fits a signature. -/
import Derived.Test.YtlipnnibagidiaaGreatVlL
import Derived.Test.YtlipnnibagidiaaGreatImC
import Derived.BigRegion
import Derived.Deep.RegionHeld3
namespace Go.Proofs.YtlipnnibagidiaaGreat
open Go.RowKit Go.Lib
structure MayW (g : SigV) (wl : WldV) : Prop where
  sz : wl.sizes.length = g.sorts.length
  fl : wl.funs.length = g.funs.length
  n0 : g.sorts.length ≤ 4
  n1 : g.funs.length ≤ 12
  is : ∀ i (h1 : i < g.funs.length) (h2 : i < wl.funs.length), isM g.sorts.length wl.sizes g.funs[i].res wl.funs[i].els = true ∧ ∀ r ∈ wl.funs[i].rows, isM g.sorts.length wl.sizes g.funs[i].res r.val = true
def MayIs (g : SigV) (wl : WldV) (w : World) (e : Ending) (w' : World) : Prop := ∃ q, e = .returned (.bool q) ∧ (q = true → MayW g wl) ∧ Below w.heap.size w w'
theorem MayIs.no {g : SigV} {wl : WldV} {w w' : World} (h : Below w.heap.size w w') : MayIs g wl w (.returned (.bool false)) w' := ⟨false, rfl, fun e => (by cases e), h⟩
theorem fv_box (w : World) (c1 c2 : Array Value) (t1 t2 : TypeId) {s : Nat} (hs : w.heap.size = s) : Blk ((w.alloc (.cells c1 t1)).alloc (.cells c2 t2)) s t1 c1 ∧ Blk ((w.alloc (.cells c1 t1)).alloc (.cells c2 t2)) (s + 1) t2 c2 := by
  subst hs
  exact ⟨(Blk.new w t1 c1).alloc _, Blk.new_at (by simp) _ _⟩
set_option maxRecDepth 100000 in
set_option maxHeartbeats 16000000 in
theorem lmay09_ok {w : World} {g : SigV} {wl : WldV} (hg : SigAt w g) (hd : SigDeep w g) (hw : WldAt w wl) :
    Calls Tryz.prog 63 #[.agg g.cells, .agg wl.cells] w (MayIs g wl w) := by
  obtain ⟨w0, hw0⟩ : ∃ w0, (w.alloc (.cells g.cells 26)).alloc (.cells wl.cells 30) = w0 := ⟨_, rfl⟩
  have HB0 : Hid (Below w.heap.size w w0) := zzh (by rw [← hw0]; exact (sig_box w g).alloc (sig_box w g).size _)
  have HG0 : Hid (Blk w0 w.heap.size 26 g.cells) := zzh (by rw [← hw0]; exact (Blk.new w 26 g.cells).alloc _)
  have HV0 : Hid (Blk w0 (w.heap.size + 1) 30 wl.cells) := zzh (by rw [← hw0]; exact Blk.new_at (by simp) _ _)
  have HX : Hid (∀ W, Below w0.heap.size w0 W → (W.cell? ⟨w.heap.size, 0, none⟩ = some (.slice g.A0 g.sorts.length g.c0) ∧ W.cell? ⟨w.heap.size, 1, none⟩ = some (.slice g.A1 g.funs.length g.c1) ∧ W.cell? ⟨w.heap.size, 2, none⟩ = some (.slice g.A2 g.macs.length g.c2)) ∧ W.cell? ⟨w.heap.size + 1, 0, none⟩ = some (.slice wl.A0 wl.sizes.length wl.c0) ∧ W.cell? ⟨w.heap.size + 1, 1, none⟩ = some (.slice wl.A1 wl.funs.length wl.c1)) := zzh (fun W hW => ⟨sig_blk (HG0.out.below hW HG0.out.lt), wld_blk (HV0.out.below hW HV0.out.lt)⟩)
  have HSg := zzh (hg.below HB0.out)
  have HWl := zzh (hw.below HB0.out)
  have HWf := zzh hg.wf
  have KC := zzh (lcheck_ok HSg.out (hd.below HB0.out))
  have HIsOf : Hid (MayIs g wl w = MayIs g wl w) := zzh rfl
  have HMk : Hid (∀ w', wl.sizes.length = g.sorts.length → wl.funs.length = g.funs.length → g.sorts.length ≤ 4 → g.funs.length ≤ 12 → (∀ i (h1 : i < g.funs.length) (h2 : i < wl.funs.length), isM g.sorts.length wl.sizes g.funs[i].res wl.funs[i].els = true ∧ ∀ r ∈ wl.funs[i].rows, isM g.sorts.length wl.sizes g.funs[i].res r.val = true) → Below w.heap.size w w' → MayIs g wl w (.returned (.bool true)) w') := zzh (fun w' h1 h2 h3 h4 h5 h6 => ⟨true, rfl, fun _ => ⟨h1, h2, h3, h4, h5⟩, h6⟩)
  have HNo : Hid (∀ w', Below w.heap.size w w' → MayIs g wl w (.returned (.bool false)) w') := zzh (fun w' h => MayIs.no h)
  obtain ⟨⟨x0, x1, x2⟩, y0, y1⟩ := HX.out w0 (Below.refl _ _)
  have n0 := hw.n0
  have n1 := hw.n1
  have KFt := zzh (fun W (hW : Below w0.heap.size w0 W) (f : FnM) (r : RwM) (hf : f.Wf) (hl : g.sorts.length ≤ 4) => fits09_ok g r (HWl.out.below hW) (by omega) hf)
  have KIs := zzh (fun W (hW : Below w0.heap.size w0 W) (s v : Int) (hs : I64 s) (hl : g.sorts.length ≤ 4) => is09_ok g (HWl.out.below hW) (by omega) s v hs)
  clear hg hd hw HIsOf
  obtain ⟨A0, c0, S, A1, c1, F, A2, c2, M⟩ := g
  obtain ⟨B0, dB0, Z, B1, dB1, V⟩ := wl
  unfold SigV.cells WldV.cells at *
  simp only at *
  have HW0 := zzh hw0
  clear hw0 HG0 HV0
  go_enter Tryz.func63, Tryz.ntmps63
  go_upto_region 1 with fail
  rw [HW0.out]
  clear HW0
  go_wp2_with fail
  refine KC.out.mono ?_
  rintro e w1 ⟨r, rfl, hlen, hb1⟩
  have HB1 := zzh hb1
  have HLen := zzh hlen
  obtain ⟨⟨z0, z1, z2⟩, z3, z4⟩ := HX.out w1 hb1
  clear hb1 hlen x0 x1 x2 y0 y1 KC
  by_cases hr : r = 0
  rotate_left
  · have e1 : (r != 0) = true := bne_iff_ne.2 hr
    clear hr HLen
    go_wp2
    go_ret
    exact HNo.out _ (HB0.out.trans (HB1.out.mono HB0.out.size))
  have e1 : (r != 0) = false := by rw [hr]; rfl
  obtain ⟨hl0, hl1, _⟩ := HLen.out hr
  simp only at hl0 hl1
  have HL0 := zzh hl0
  clear hr HLen
  by_cases h1 : Z.length = S.length
  rotate_left
  · have e2 : ((Z.length : Int) != (S.length : Int)) = true := bne_iff_ne.2 (by omega)
    clear h1 hl0 hl1
    go_wp2
    go_ret
    exact HNo.out _ (HB0.out.trans (HB1.out.mono HB0.out.size))
  have e2 : ((Z.length : Int) != (S.length : Int)) = false := by rw [h1]; simp
  by_cases h2 : V.length = F.length
  rotate_left
  · have e3 : ((V.length : Int) != (F.length : Int)) = true := bne_iff_ne.2 (by omega)
    clear h1 h2 hl0 hl1
    go_wp2
    go_ret
    exact HNo.out _ (HB0.out.trans (HB1.out.mono HB0.out.size))
  have e3 : ((V.length : Int) != (F.length : Int)) = false := by rw [h2]; simp
  have H1 := zzh h1
  have H2 := zzh h2
  have HL1 := zzh hl1
  have hV12 : V.length ≤ 12 := by omega
  have hZ4 : Z.length ≤ 4 := by omega
  clear h1 h2 hl0 hl1
  go_wp2
  go_loopg [5] Z.length (fun g v wr => ∃ i : Nat, i + g = Z.length ∧ v = .int .i64 i ∧ w1 = wr)
  case atStart => exact ⟨0, by omega, rfl, rfl⟩
  case round =>
    obtain ⟨i, hig, rfl, rfl⟩ := hrel
    cases gk with
    | succ gk =>
      have hlt : i < Z.length := by omega
      have d1 : decide ((i : Int) < Z.length) = true := by simp; omega
      have t1 : (0 : Int) ≤ (i : Int) := by omega
      have t2 : (i : Int) < (Z.length : Int) := by omega
      obtain ⟨b, off, hA, hb, p0⟩ := (HWl.out.below HB1.out).s i hlt
      dsimp only at hA p0
      subst hA
      generalize Z[i] = z at *
      by_cases h1 : z < 1
      · have q1 : decide (z < 1) = true := decide_eq_true h1
        clear h1
        go_wp2
        go_ret
        exact HNo.out _ (HB0.out.trans (HB1.out.mono HB0.out.size))
      have q1 : decide (z < 1) = false := decide_eq_false h1
      by_cases h2 : z > 1000
      · have q2 : decide (z > 1000) = true := decide_eq_true h2
        have q2' : decide (1000 < z) = true := decide_eq_true h2
        clear h1 h2
        go_wp2
        go_ret
        exact HNo.out _ (HB0.out.trans (HB1.out.mono HB0.out.size))
      have q2 : decide (z > 1000) = false := decide_eq_false h2
      have q2' : decide (1000 < z) = false := decide_eq_false h2
      clear h1 h2
      go_wp2
      go_roundg gk
      case measure => omega
      case rel => exact ⟨i + 1, by omega, by go_num, rfl⟩
    | zero =>
      obtain rfl : i = Z.length := by omega
      have d1 : decide ((Z.length : Int) < Z.length) = false := by simp
      have HZ1 := zzh (Below.refl w1.heap.size w1)
      clear hig
      go_wp2
      clear d1 z0 z1 z2 z3 z4
      go_loopg [6] V.length (fun g v wr => ∃ i : Nat, i + g = V.length ∧ v = .int .i64 i ∧ (∀ k (h1 : k < F.length) (h2 : k < V.length), k < i → isM S.length Z F[k].res V[k].els = true ∧ ∀ r ∈ V[k].rows, isM S.length Z F[k].res r.val = true) ∧ Below w0.heap.size w0 wr)
      case atStart => exact ⟨0, by omega, rfl, fun k _ _ hk => absurd hk (Nat.not_lt_zero _), HB1.out⟩
      case round =>
        obtain ⟨i, hig, rfl, hall, hb⟩ := hrel
        have HB := zzh hb
        have HAll := zzh hall
        obtain ⟨⟨z0, z1, z2⟩, z3, z4⟩ := HX.out wr hb
        clear hb hall
        cases gk with
        | zero =>
          obtain rfl : i = V.length := by omega
          have d1 : decide ((V.length : Int) < V.length) = false := by simp
          have HD := zzh (HMk.out wr H1.out H2.out HL0.out HL1.out (fun k h1 h2 => HAll.out k h1 h2 h2) (HB0.out.trans (HB.out.mono HB0.out.size)))
          go_wp2
          go_ret
          exact HD.out
        | succ gk =>
          have hlt : i < V.length := by omega
          have hlF : i < F.length := by have := H2.out; omega
          have d1 : decide ((i : Int) < V.length) = true := by simp; omega
          have t1 : (0 : Int) ≤ (i : Int) := by omega
          have t2 : (i : Int) < (V.length : Int) := by omega
          have t3 : (i : Int) < (F.length : Int) := by omega
          obtain ⟨b, off, hA, hb, ⟨f0, f1, f2, f3, f4, f5, hfw⟩⟩ := (HSg.out.below HB.out).f i hlF
          obtain ⟨b', off', hA', hb', g0, g1⟩ := (HWl.out.below HB.out).f i hlt
          have HRows := zzh (HWl.out.r V[i] (List.getElem_mem hlt))
          dsimp only at hA hA'
          subst hA hA'
          have HNext : Hid (isM S.length Z F[i].res V[i].els = true → (∀ r ∈ V[i].rows, isM S.length Z F[i].res r.val = true) → ∀ k (h1 : k < F.length) (h2 : k < V.length), k < i + 1 → isM S.length Z F[k].res V[k].els = true ∧ ∀ r ∈ V[k].rows, isM S.length Z F[k].res r.val = true) := zzh (fun e1 e2 k h1 h2 hk => by
            by_cases hki : k = i
            · subst hki; exact ⟨e1, e2⟩
            · exact HAll.out k h1 h2 (by omega))
          have HFw := zzh hfw
          have hrs := hfw.res
          generalize F[i] = f at *
          generalize V[i] = vv at *
          obtain ⟨nm, len, a0, a1, a2, res⟩ := f
          obtain ⟨R, rc, rows, els⟩ := vv
          simp only at f0 f1 f2 f3 f4 f5 g0 g1 hrs
          have s1 : b < wr.heap.size + 1 := by omega
          have s2 : b < wr.heap.size + 1 + 1 := by omega
          have s3 : b < wr.heap.size + 2 := by omega
          have s1' : b' < wr.heap.size + 1 := by omega
          have s2' : b' < wr.heap.size + 1 + 1 := by omega
          have s3' : b' < wr.heap.size + 2 := by omega
          have hl1 : w.heap.size + 1 < wr.heap.size := World.block_lt_of_cell? _ _ z3
          have u1 : w.heap.size < wr.heap.size + 1 := by omega
          have u2 : w.heap.size < wr.heap.size + 1 + 1 := by omega
          have u3 : w.heap.size < wr.heap.size + 2 := by omega
          have u1' : w.heap.size + 1 < wr.heap.size + 1 := by omega
          have u2' : w.heap.size + 1 < wr.heap.size + 1 + 1 := by omega
          have u3' : w.heap.size + 1 < wr.heap.size + 2 := by omega
          have u0 : w.heap.size < wr.heap.size := by omega
          clear hfw
          go_upto_region 11 with fail
          go_cut [7, 8] from 60 to 69 (fun v7 v8 wc => ∃ p q, v7 = .pointer (some ⟨p, 0, none⟩) ∧ v8 = .pointer (some ⟨q, 0, none⟩) ∧ Blk wc p 149 #[.string nm, .int .i64 len, .int .i64 a0, .int .i64 a1, .int .i64 a2, .int .i64 res] ∧ Blk wc q 84 #[.slice R rows.length rc, .int .i64 els] ∧ Below w0.heap.size w0 wc)
          case first =>
            have HBd := zzh (fun (o1 o2 : Obj) => show Below w0.heap.size w0 (((wr.alloc o1).alloc o2).drew) from below_drewN ((HB.out.alloc HB.out.size o1).alloc (Nat.le_trans HB.out.size (by simp)) o2) 1)
            have P1 := zzh (fv_box wr #[.string nm, .int .i64 len, .int .i64 a0, .int .i64 a1, .int .i64 a2, .int .i64 res] #[.slice R rows.length rc, .int .i64 els] 149 84 rfl)
            have P2 := zzh (fv_box wr #[.slice R rows.length rc, .int .i64 els] #[.string nm, .int .i64 len, .int .i64 a0, .int .i64 a1, .int .i64 a2, .int .i64 res] 84 149 rfl)
            go_region
            all_goals go_wp2
            all_goals go_meet
            · exact ⟨_, _, rfl, rfl, P1.out.1, P1.out.2, HBd.out _ _⟩
            · exact ⟨_, _, rfl, rfl, P2.out.2, P2.out.1, HBd.out _ _⟩
          case rest =>
            obtain ⟨p, q, rfl, rfl, hp, hq, hbc⟩ := hcut
            have HBc := zzh hbc
            have HFx0 : Hid (∀ W, Below wc.heap.size wc W → (W.cell? ⟨w.heap.size, 0, none⟩ = some (.slice A0 S.length c0) ∧ W.cell? ⟨w.heap.size, 1, none⟩ = some (.slice (some ⟨b, off, none⟩) F.length c1) ∧ W.cell? ⟨w.heap.size, 2, none⟩ = some (.slice A2 M.length c2)) ∧ (W.cell? ⟨w.heap.size + 1, 0, none⟩ = some (.slice B0 Z.length dB0) ∧ W.cell? ⟨w.heap.size + 1, 1, none⟩ = some (.slice (some ⟨b', off', none⟩) V.length dB1)) ∧ (W.cell? ⟨p, 0, none⟩ = some (.string nm) ∧ W.cell? ⟨p, 1, none⟩ = some (.int .i64 len) ∧ W.cell? ⟨p, 2, none⟩ = some (.int .i64 a0) ∧ W.cell? ⟨p, 3, none⟩ = some (.int .i64 a1) ∧ W.cell? ⟨p, 4, none⟩ = some (.int .i64 a2) ∧ W.cell? ⟨p, 5, none⟩ = some (.int .i64 res)) ∧ W.cell? ⟨q, 0, none⟩ = some (.slice R rows.length rc) ∧ W.cell? ⟨q, 1, none⟩ = some (.int .i64 els)) := zzh (fun W hW => by
              obtain ⟨h1, h2⟩ := HX.out W (hbc.trans (hW.mono hbc.size))
              have h3 := hp.below hW hp.lt
              have h4 := hq.below hW hq.lt
              exact ⟨h1, h2, ⟨h3.cell 0, h3.cell 1, h3.cell 2, h3.cell 3, h3.cell 4, h3.cell 5⟩, h4.cell 0, h4.cell 1⟩)
            have HRw : Hid (∀ k (hk : k < rows.length), ∃ b off, R = some ⟨b, off, none⟩ ∧ b < wc.heap.size ∧ RwAt wc b (off + k * 4) rows[k]) := zzh (fun k hk => by
              obtain ⟨b, off, e, hlt, hat⟩ := HRows.out.2 k hk
              exact ⟨b, off, e, Nat.lt_of_lt_of_le hlt hbc.size, hat.below hbc hlt⟩)
            have HI12 := zzh (KIs.out wc hbc res els hrs HL0.out)
            have HZc := zzh (Below.refl wc.heap.size wc)
            obtain ⟨⟨z0, z1, z2⟩, ⟨z3, z4⟩, ⟨p0, p1, p2, p3, p4, p5⟩, q0, q1⟩ := HFx0.out wc (Below.refl _ _)
            obtain ⟨gk0, rfl⟩ : ∃ go : Nat, go = gk := ⟨_, rfl⟩
            clear hp hq hbc f0 f1 f2 f3 f4 f5 g0 g1 s1 s2 s3 s1' s2' s3' u0 u1 u2 u3 u1' u2' u3' hl1 hb hb'
            by_cases h400 : 400 < rows.length
            · have e4 : decide ((rows.length : Int) > 400) = true := by simp; omega
              have e4' : decide ((400 : Int) < (rows.length : Int)) = true := by simp; omega
              clear h400
              go_wp2
              go_ret
              exact HNo.out _ (HB0.out.trans (HBc.out.mono HB0.out.size))
            have e4 : decide ((rows.length : Int) > 400) = false := by simp; omega
            have e4' : decide ((400 : Int) < (rows.length : Int)) = false := by simp; omega
            obtain ⟨q12, hq12⟩ : ∃ q, isM S.length Z res els = q := ⟨_, rfl⟩
            have HQ12 := zzh hq12
            rw [hq12] at HI12
            clear hq12
            go_wp2_with fail
            refine HI12.out.mono ?_
            rintro e w5 ⟨rfl, hb5⟩
            have HB5 := zzh hb5
            clear hb5 HI12 z0 z1 z2 z3 z4 p0 p1 p2 p3 p4 p5 q0 q1
            cases q12 with
            | false =>
              go_wp2
              go_ret
              exact HNo.out _ (HB0.out.trans ((HBc.out.trans (HB5.out.mono HBc.out.size)).mono HB0.out.size))
            | true =>
              have h4 : rows.length ≤ 400 := by omega
              clear h400 e4 e4'
              obtain ⟨_, _, _, y0, y1⟩ := HFx0.out w5 HB5.out
              go_wp2
              clear y0 y1
              go_loopg [9] rows.length (fun g v wr => ∃ k : Nat, k + g = rows.length ∧ v = .int .i64 k ∧ (∀ r ∈ rows.take k, isM S.length Z res r.val = true) ∧ Below wc.heap.size wc wr)
              case atStart => exact ⟨0, by omega, rfl, fun r hr => (by rw [List.take_zero] at hr; cases hr), HB5.out⟩
              case round =>
                obtain ⟨k, hkg, rfl, hall, hb⟩ := hrel
                have HB6 := zzh hb
                have HAk := zzh hall
                obtain ⟨⟨z0, z1, z2⟩, ⟨z3, z4⟩, ⟨p0, p1, p2, p3, p4, p5⟩, q0, q1⟩ := HFx0.out _ hb
                clear hb hall
                cases gk with
                | zero =>
                  obtain rfl : k = rows.length := by omega
                  have d2 : decide ((rows.length : Int) < rows.length) = false := by simp
                  have HN := zzh (HNext.out HQ12.out (fun r hr => HAk.out r (by rw [List.take_length]; exact hr)))
                  go_wp2
                  go_roundg gk0
                  case measure => omega
                  case rel => exact ⟨i + 1, by omega, by go_num, HN.out, HBc.out.trans (HB6.out.mono HBc.out.size)⟩
                | succ gk =>
                  have hlk : k < rows.length := by omega
                  have d2 : decide ((k : Int) < rows.length) = true := by simp; omega
                  have v1 : (0 : Int) ≤ (k : Int) := by omega
                  have v2 : (k : Int) < (rows.length : Int) := by omega
                  obtain ⟨rb, ro, hR, hrb, hat⟩ := HRw.out k hlk
                  have HRt : Hid (∀ W, Below wc.heap.size wc W → ∀ j (hj : j < rows.length), RwAt W rb (ro + j * 4) rows[j]) := zzh (fun W hW j hj => by
                    obtain ⟨b2, o2, e2, hl2, hat2⟩ := HRw.out j hj
                    rw [hR] at e2
                    injection e2 with e2
                    injection e2 with e2 e3
                    subst e2 e3
                    exact hat2.below hW hl2)
                  subst hR
                  have HTk : Hid (isM S.length Z res rows[k].val = true → ∀ r ∈ rows.take (k + 1), isM S.length Z res r.val = true) := zzh (fun e r hr => by
                    rw [List.take_add_one, List.getElem?_eq_getElem hlk] at hr
                    rcases List.mem_append.1 hr with hr | hr
                    · exact HAk.out r hr
                    · have hr2 : r = rows[k] := by simpa using hr
                      rw [hr2]; exact e)
                  have HRk : Hid (∃ r, rows[k] = r) := zzh ⟨_, rfl⟩
                  obtain ⟨rk, hrk⟩ := HRk.out
                  have HRtk : Hid (∀ W, Below wc.heap.size wc W → RwAt W rb (ro + k * 4) rk) := zzh (fun W hW => by rw [← hrk]; exact HRt.out W hW k hlk)
                  rw [hrk] at HTk
                  have HFx : Hid (∀ W, Below wr.heap.size wr W → (W.cell? ⟨w.heap.size, 0, none⟩ = some (.slice A0 S.length c0) ∧ W.cell? ⟨w.heap.size, 1, none⟩ = some (.slice (some ⟨b, off, none⟩) F.length c1) ∧ W.cell? ⟨w.heap.size, 2, none⟩ = some (.slice A2 M.length c2)) ∧ (W.cell? ⟨w.heap.size + 1, 0, none⟩ = some (.slice B0 Z.length dB0) ∧ W.cell? ⟨w.heap.size + 1, 1, none⟩ = some (.slice (some ⟨b', off', none⟩) V.length dB1)) ∧ (W.cell? ⟨p, 0, none⟩ = some (.string nm) ∧ W.cell? ⟨p, 1, none⟩ = some (.int .i64 len) ∧ W.cell? ⟨p, 2, none⟩ = some (.int .i64 a0) ∧ W.cell? ⟨p, 3, none⟩ = some (.int .i64 a1) ∧ W.cell? ⟨p, 4, none⟩ = some (.int .i64 a2) ∧ W.cell? ⟨p, 5, none⟩ = some (.int .i64 res)) ∧ W.cell? ⟨q, 0, none⟩ = some (.slice (some ⟨rb, ro, none⟩) rows.length rc) ∧ W.cell? ⟨rb, ro + k * 4, none⟩ = some (.int .i64 rk.a0) ∧ W.cell? ⟨rb, ro + k * 4 + 1, none⟩ = some (.int .i64 rk.a1) ∧ W.cell? ⟨rb, ro + k * 4 + 2, none⟩ = some (.int .i64 rk.a2) ∧ W.cell? ⟨rb, ro + k * 4 + 3, none⟩ = some (.int .i64 rk.val)) := zzh (fun W hW => by
                    have h6 := HB6.out.trans (hW.mono HB6.out.size)
                    obtain ⟨h1, h2, h3, h4, _⟩ := HFx0.out W h6
                    have h5 := HRtk.out W h6
                    exact ⟨h1, h2, h3, h4, h5.c0, h5.c1, h5.c2, h5.c3⟩)
                  have KF : Hid (∀ W, Below wr.heap.size wr W → Calls Tryz.prog 100 #[.agg #[.slice A0 S.length c0, .slice (some ⟨b, off, none⟩) F.length c1, .slice A2 M.length c2], .agg #[.slice B0 Z.length dB0, .slice (some ⟨b', off', none⟩) V.length dB1], .agg #[.string nm, .int .i64 len, .int .i64 a0, .int .i64 a1, .int .i64 a2, .int .i64 res], .agg #[.int .i64 rk.a0, .int .i64 rk.a1, .int .i64 rk.a2]] W (fun e w' => e = .returned (.bool (fitsM S.length Z ⟨nm, len, a0, a1, a2, res⟩ rk)) ∧ Below W.heap.size W w')) := zzh (fun W hW => KFt.out W (HBc.out.trans ((HB6.out.trans (hW.mono HB6.out.size)).mono HBc.out.size)) ⟨nm, len, a0, a1, a2, res⟩ rk HFw.out HL0.out)
                  have KI := zzh (fun W (hW : Below wr.heap.size wr W) => KIs.out W (HBc.out.trans ((HB6.out.trans (hW.mono HB6.out.size)).mono HBc.out.size)) res rk.val hrs HL0.out)
                  obtain ⟨qf, hqf⟩ : ∃ q, fitsM S.length Z ⟨nm, len, a0, a1, a2, res⟩ rk = q := ⟨_, rfl⟩
                  obtain ⟨qi, hqi⟩ : ∃ q, isM S.length Z res rk.val = q := ⟨_, rfl⟩
                  rw [hqf] at KF
                  rw [hqi] at KI HTk
                  obtain ⟨gk1, rfl⟩ : ∃ go : Nat, go = gk := ⟨_, rfl⟩
                  clear hrk hqf hqi hat hrb z0 z1 z2 z3 z4 p0 p1 p2 p3 p4 p5 q1
                  obtain ⟨ra0, ra1, ra2, rav⟩ := rk
                  simp only at HFx KF KI HTk HRtk
                  go_upto_region 17 with fail
                  clear q0
                  cases qf with
                  | false =>
                    refine wp_region_quiet (C := fun w' => Below wr.heap.size wr w') (by kernel_rfl) (by kernel_rfl) (⟨rfl, rfl, rfl, Nat.le_refl _, fun _ _ => rfl⟩) ?_
                    refine QW.lit ?_
                    refine qw_want rfl ?_ (fun w' hw' => ?_) ?_
                    rotate_left
                    · obtain ⟨⟨k0, k1, k2⟩, ⟨k3, k4⟩, ⟨k5, k6, k7, k8, k9, k10⟩, k11, k12, k13, k14, k15⟩ := HFx.out w' hw'
                      unfold Oper.quietAt
                      go_simp
                      exact rfl
                    simp only [Act.put, zza, zzc, zzb]
                    refine qw_want rfl ?_ (fun w' hw' => ?_) ?_
                    rotate_left
                    · obtain ⟨⟨k0, k1, k2⟩, ⟨k3, k4⟩, ⟨k5, k6, k7, k8, k9, k10⟩, k11, k12, k13, k14, k15⟩ := HFx.out w' hw'
                      unfold Oper.quietAt
                      go_simp
                      exact rfl
                    simp only [Act.put, zza, zzc, zzb]
                    refine qw_want rfl ?_ (fun w' hw' => ?_) ?_
                    rotate_left
                    · obtain ⟨⟨k0, k1, k2⟩, ⟨k3, k4⟩, ⟨k5, k6, k7, k8, k9, k10⟩, k11, k12, k13, k14, k15⟩ := HFx.out w' hw'
                      unfold Oper.quietAt
                      go_simp
                      exact rfl
                    simp only [Act.put, zza, zzc, zzb]
                    refine qw_want rfl ?_ (fun w' hw' => ?_) ?_
                    rotate_left
                    · unfold Oper.quietAt
                      go_simp
                      exact rfl
                    simp only [Act.put, zza, zzc, zzb]
                    refine qw_want rfl ?_ (fun w' hw' => ?_) ?_
                    rotate_left
                    · obtain ⟨⟨k0, k1, k2⟩, ⟨k3, k4⟩, ⟨k5, k6, k7, k8, k9, k10⟩, k11, k12, k13, k14, k15⟩ := HFx.out w' hw'
                      unfold Oper.quietAt
                      go_simp
                      exact rfl
                    simp only [Act.put, zza, zzc, zzb]
                    refine qw_want rfl ?_ (fun w' hw' => ?_) ?_
                    rotate_left
                    · unfold Oper.quietAt
                      go_simp
                      exact rfl
                    simp only [Act.put, zza, zzc, zzb]
                    refine qw_want rfl ?_ (fun w' hw' => ?_) ?_
                    rotate_left
                    · unfold Oper.quietAt
                      go_simp
                      exact rfl
                    simp only [Act.put, zza, zzc, zzb]
                    refine qw_want rfl ?_ (fun w' hw' => ?_) ?_
                    rotate_left
                    · unfold Oper.quietAt
                      go_simp
                      exact rfl
                    simp only [Act.put, zza, zzc, zzb]
                    refine qw_want rfl ?_ (fun w' hw' => ?_) ?_
                    rotate_left
                    · obtain ⟨⟨k0, k1, k2⟩, ⟨k3, k4⟩, ⟨k5, k6, k7, k8, k9, k10⟩, k11, k12, k13, k14, k15⟩ := HFx.out w' hw'
                      unfold Oper.quietAt
                      go_simp
                      exact rfl
                    simp only [Act.put, zza, zzc, zzb]
                    refine qw_want rfl (.bool false) (fun w' hw' => ?_) ?_
                    · unfold Oper.quietAt
                      go_simp
                      refine (KF.out w' hw').mono ?_
                      rintro e w2 ⟨rfl, hb⟩
                      have hz := below_then hw' (Nat.le_refl _) hb
                      exact ⟨rfl, by simpa using hz⟩
                    simp only [Act.put, zza, zzc, zzb]
                    refine qw_want rfl ?_ (fun w' hw' => ?_) ?_
                    rotate_left
                    · unfold Oper.quietAt
                      go_simp
                      exact rfl
                    simp only [Act.put, zza, zzc, zzb]
                    refine qw_want rfl ?_ (fun w' hw' => ?_) ?_
                    rotate_left
                    · unfold Oper.quietAt
                      go_simp
                      exact rfl
                    simp only [Act.put, zza, zzc, zzb]
                    refine qw_skip (by rfl) ?_
                    simp only [Act.put, zza, zzc, zzb]
                    refine qw_skip (by rfl) ?_
                    simp only [Act.put, zza, zzc, zzb]
                    refine qw_skip (by rfl) ?_
                    simp only [Act.put, zza, zzc, zzb]
                    refine qw_skip (by rfl) ?_
                    simp only [Act.put, zza, zzc, zzb]
                    refine qw_skip (by rfl) ?_
                    simp only [Act.put, zza, zzc, zzb]
                    refine qw_skip (by rfl) ?_
                    simp only [Act.put, zza, zzc, zzb]
                    refine qw_skip (by rfl) ?_
                    simp only [Act.put, zza, zzc, zzb]
                    refine qw_skip (by rfl) ?_
                    simp only [Act.put, zza, zzc, zzb]
                    refine qw_skip (by rfl) ?_
                    simp only [Act.put, zza, zzc, zzb]
                    refine qw_skip (by rfl) ?_
                    simp only [Act.put, zza, zzc, zzb]
                    refine qw_skip (by rfl) ?_
                    simp only [Act.put, zza, zzc, zzb]
                    refine qw_skip (by rfl) ?_
                    simp only [Act.put, zza, zzc, zzb]
                    refine qw_want rfl ?_ (fun w' hw' => ?_) ?_
                    rotate_left
                    · unfold Oper.quietAt
                      go_simp
                      exact rfl
                    simp only [Act.put, zza, zzc, zzb]
                    refine qw_end (fun w5 hb5 => ?_)
                    have HB7 := zzh (HB6.out.trans (hb5.mono HB6.out.size))
                    clear hb5
                    go_wp2
                    go_ret
                    exact HNo.out _ (HB0.out.trans ((HBc.out.trans (HB7.out.mono HBc.out.size)).mono HB0.out.size))
                  | true =>
                    cases qi with
                    | false =>
                      refine wp_region_quiet (C := fun w' => Below wr.heap.size wr w') (by kernel_rfl) (by kernel_rfl) (⟨rfl, rfl, rfl, Nat.le_refl _, fun _ _ => rfl⟩) ?_
                      refine QW.lit ?_
                      refine qw_want rfl ?_ (fun w' hw' => ?_) ?_
                      rotate_left
                      · obtain ⟨⟨k0, k1, k2⟩, ⟨k3, k4⟩, ⟨k5, k6, k7, k8, k9, k10⟩, k11, k12, k13, k14, k15⟩ := HFx.out w' hw'
                        unfold Oper.quietAt
                        go_simp
                        exact rfl
                      simp only [Act.put, zza, zzc, zzb]
                      refine qw_want rfl ?_ (fun w' hw' => ?_) ?_
                      rotate_left
                      · obtain ⟨⟨k0, k1, k2⟩, ⟨k3, k4⟩, ⟨k5, k6, k7, k8, k9, k10⟩, k11, k12, k13, k14, k15⟩ := HFx.out w' hw'
                        unfold Oper.quietAt
                        go_simp
                        exact rfl
                      simp only [Act.put, zza, zzc, zzb]
                      refine qw_want rfl ?_ (fun w' hw' => ?_) ?_
                      rotate_left
                      · obtain ⟨⟨k0, k1, k2⟩, ⟨k3, k4⟩, ⟨k5, k6, k7, k8, k9, k10⟩, k11, k12, k13, k14, k15⟩ := HFx.out w' hw'
                        unfold Oper.quietAt
                        go_simp
                        exact rfl
                      simp only [Act.put, zza, zzc, zzb]
                      refine qw_want rfl ?_ (fun w' hw' => ?_) ?_
                      rotate_left
                      · unfold Oper.quietAt
                        go_simp
                        exact rfl
                      simp only [Act.put, zza, zzc, zzb]
                      refine qw_want rfl ?_ (fun w' hw' => ?_) ?_
                      rotate_left
                      · obtain ⟨⟨k0, k1, k2⟩, ⟨k3, k4⟩, ⟨k5, k6, k7, k8, k9, k10⟩, k11, k12, k13, k14, k15⟩ := HFx.out w' hw'
                        unfold Oper.quietAt
                        go_simp
                        exact rfl
                      simp only [Act.put, zza, zzc, zzb]
                      refine qw_want rfl ?_ (fun w' hw' => ?_) ?_
                      rotate_left
                      · unfold Oper.quietAt
                        go_simp
                        exact rfl
                      simp only [Act.put, zza, zzc, zzb]
                      refine qw_want rfl ?_ (fun w' hw' => ?_) ?_
                      rotate_left
                      · unfold Oper.quietAt
                        go_simp
                        exact rfl
                      simp only [Act.put, zza, zzc, zzb]
                      refine qw_want rfl ?_ (fun w' hw' => ?_) ?_
                      rotate_left
                      · unfold Oper.quietAt
                        go_simp
                        exact rfl
                      simp only [Act.put, zza, zzc, zzb]
                      refine qw_want rfl ?_ (fun w' hw' => ?_) ?_
                      rotate_left
                      · obtain ⟨⟨k0, k1, k2⟩, ⟨k3, k4⟩, ⟨k5, k6, k7, k8, k9, k10⟩, k11, k12, k13, k14, k15⟩ := HFx.out w' hw'
                        unfold Oper.quietAt
                        go_simp
                        exact rfl
                      simp only [Act.put, zza, zzc, zzb]
                      refine qw_want rfl (.bool true) (fun w' hw' => ?_) ?_
                      · unfold Oper.quietAt
                        go_simp
                        refine (KF.out w' hw').mono ?_
                        rintro e w2 ⟨rfl, hb⟩
                        have hz := below_then hw' (Nat.le_refl _) hb
                        exact ⟨rfl, by simpa using hz⟩
                      simp only [Act.put, zza, zzc, zzb]
                      refine qw_want rfl ?_ (fun w' hw' => ?_) ?_
                      rotate_left
                      · unfold Oper.quietAt
                        go_simp
                        exact rfl
                      simp only [Act.put, zza, zzc, zzb]
                      refine qw_want rfl ?_ (fun w' hw' => ?_) ?_
                      rotate_left
                      · unfold Oper.quietAt
                        go_simp
                        exact rfl
                      simp only [Act.put, zza, zzc, zzb]
                      refine qw_want rfl ?_ (fun w' hw' => ?_) ?_
                      rotate_left
                      · obtain ⟨⟨k0, k1, k2⟩, ⟨k3, k4⟩, ⟨k5, k6, k7, k8, k9, k10⟩, k11, k12, k13, k14, k15⟩ := HFx.out w' hw'
                        unfold Oper.quietAt
                        go_simp
                        exact rfl
                      simp only [Act.put, zza, zzc, zzb]
                      refine qw_want rfl ?_ (fun w' hw' => ?_) ?_
                      rotate_left
                      · obtain ⟨⟨k0, k1, k2⟩, ⟨k3, k4⟩, ⟨k5, k6, k7, k8, k9, k10⟩, k11, k12, k13, k14, k15⟩ := HFx.out w' hw'
                        unfold Oper.quietAt
                        go_simp
                        exact rfl
                      simp only [Act.put, zza, zzc, zzb]
                      refine qw_want rfl ?_ (fun w' hw' => ?_) ?_
                      rotate_left
                      · unfold Oper.quietAt
                        go_simp
                        exact rfl
                      simp only [Act.put, zza, zzc, zzb]
                      refine qw_want rfl ?_ (fun w' hw' => ?_) ?_
                      rotate_left
                      · obtain ⟨⟨k0, k1, k2⟩, ⟨k3, k4⟩, ⟨k5, k6, k7, k8, k9, k10⟩, k11, k12, k13, k14, k15⟩ := HFx.out w' hw'
                        unfold Oper.quietAt
                        go_simp
                        exact rfl
                      simp only [Act.put, zza, zzc, zzb]
                      refine qw_want rfl ?_ (fun w' hw' => ?_) ?_
                      rotate_left
                      · unfold Oper.quietAt
                        go_simp
                        exact rfl
                      simp only [Act.put, zza, zzc, zzb]
                      refine qw_want rfl ?_ (fun w' hw' => ?_) ?_
                      rotate_left
                      · obtain ⟨⟨k0, k1, k2⟩, ⟨k3, k4⟩, ⟨k5, k6, k7, k8, k9, k10⟩, k11, k12, k13, k14, k15⟩ := HFx.out w' hw'
                        unfold Oper.quietAt
                        go_simp
                        exact rfl
                      simp only [Act.put, zza, zzc, zzb]
                      refine qw_want rfl ?_ (fun w' hw' => ?_) ?_
                      rotate_left
                      · unfold Oper.quietAt
                        go_simp
                        exact rfl
                      simp only [Act.put, zza, zzc, zzb]
                      refine qw_want rfl ?_ (fun w' hw' => ?_) ?_
                      rotate_left
                      · unfold Oper.quietAt
                        go_simp
                        exact rfl
                      simp only [Act.put, zza, zzc, zzb]
                      refine qw_want rfl ?_ (fun w' hw' => ?_) ?_
                      rotate_left
                      · unfold Oper.quietAt
                        go_simp
                        exact rfl
                      simp only [Act.put, zza, zzc, zzb]
                      refine qw_want rfl ?_ (fun w' hw' => ?_) ?_
                      rotate_left
                      · obtain ⟨⟨k0, k1, k2⟩, ⟨k3, k4⟩, ⟨k5, k6, k7, k8, k9, k10⟩, k11, k12, k13, k14, k15⟩ := HFx.out w' hw'
                        unfold Oper.quietAt
                        go_simp
                        exact rfl
                      simp only [Act.put, zza, zzc, zzb]
                      refine qw_want rfl (.bool false) (fun w' hw' => ?_) ?_
                      · unfold Oper.quietAt
                        go_simp
                        refine (KI.out w' hw').mono ?_
                        rintro e w2 ⟨rfl, hb⟩
                        have hz := below_then hw' (Nat.le_refl _) hb
                        exact ⟨rfl, by simpa using hz⟩
                      simp only [Act.put, zza, zzc, zzb]
                      refine qw_want rfl ?_ (fun w' hw' => ?_) ?_
                      rotate_left
                      · unfold Oper.quietAt
                        go_simp
                        exact rfl
                      simp only [Act.put, zza, zzc, zzb]
                      refine qw_want rfl ?_ (fun w' hw' => ?_) ?_
                      rotate_left
                      · unfold Oper.quietAt
                        go_simp
                        exact rfl
                      simp only [Act.put, zza, zzc, zzb]
                      refine qw_end (fun w5 hb5 => ?_)
                      have HB7 := zzh (HB6.out.trans (hb5.mono HB6.out.size))
                      clear hb5
                      go_wp2
                      go_ret
                      exact HNo.out _ (HB0.out.trans ((HBc.out.trans (HB7.out.mono HBc.out.size)).mono HB0.out.size))
                    | true =>
                      refine wp_region_quiet (C := fun w' => Below wr.heap.size wr w') (by kernel_rfl) (by kernel_rfl) (⟨rfl, rfl, rfl, Nat.le_refl _, fun _ _ => rfl⟩) ?_
                      refine QW.lit ?_
                      refine qw_want rfl ?_ (fun w' hw' => ?_) ?_
                      rotate_left
                      · obtain ⟨⟨k0, k1, k2⟩, ⟨k3, k4⟩, ⟨k5, k6, k7, k8, k9, k10⟩, k11, k12, k13, k14, k15⟩ := HFx.out w' hw'
                        unfold Oper.quietAt
                        go_simp
                        exact rfl
                      simp only [Act.put, zza, zzc, zzb]
                      refine qw_want rfl ?_ (fun w' hw' => ?_) ?_
                      rotate_left
                      · obtain ⟨⟨k0, k1, k2⟩, ⟨k3, k4⟩, ⟨k5, k6, k7, k8, k9, k10⟩, k11, k12, k13, k14, k15⟩ := HFx.out w' hw'
                        unfold Oper.quietAt
                        go_simp
                        exact rfl
                      simp only [Act.put, zza, zzc, zzb]
                      refine qw_want rfl ?_ (fun w' hw' => ?_) ?_
                      rotate_left
                      · obtain ⟨⟨k0, k1, k2⟩, ⟨k3, k4⟩, ⟨k5, k6, k7, k8, k9, k10⟩, k11, k12, k13, k14, k15⟩ := HFx.out w' hw'
                        unfold Oper.quietAt
                        go_simp
                        exact rfl
                      simp only [Act.put, zza, zzc, zzb]
                      refine qw_want rfl ?_ (fun w' hw' => ?_) ?_
                      rotate_left
                      · unfold Oper.quietAt
                        go_simp
                        exact rfl
                      simp only [Act.put, zza, zzc, zzb]
                      refine qw_want rfl ?_ (fun w' hw' => ?_) ?_
                      rotate_left
                      · obtain ⟨⟨k0, k1, k2⟩, ⟨k3, k4⟩, ⟨k5, k6, k7, k8, k9, k10⟩, k11, k12, k13, k14, k15⟩ := HFx.out w' hw'
                        unfold Oper.quietAt
                        go_simp
                        exact rfl
                      simp only [Act.put, zza, zzc, zzb]
                      refine qw_want rfl ?_ (fun w' hw' => ?_) ?_
                      rotate_left
                      · unfold Oper.quietAt
                        go_simp
                        exact rfl
                      simp only [Act.put, zza, zzc, zzb]
                      refine qw_want rfl ?_ (fun w' hw' => ?_) ?_
                      rotate_left
                      · unfold Oper.quietAt
                        go_simp
                        exact rfl
                      simp only [Act.put, zza, zzc, zzb]
                      refine qw_want rfl ?_ (fun w' hw' => ?_) ?_
                      rotate_left
                      · unfold Oper.quietAt
                        go_simp
                        exact rfl
                      simp only [Act.put, zza, zzc, zzb]
                      refine qw_want rfl ?_ (fun w' hw' => ?_) ?_
                      rotate_left
                      · obtain ⟨⟨k0, k1, k2⟩, ⟨k3, k4⟩, ⟨k5, k6, k7, k8, k9, k10⟩, k11, k12, k13, k14, k15⟩ := HFx.out w' hw'
                        unfold Oper.quietAt
                        go_simp
                        exact rfl
                      simp only [Act.put, zza, zzc, zzb]
                      refine qw_want rfl (.bool true) (fun w' hw' => ?_) ?_
                      · unfold Oper.quietAt
                        go_simp
                        refine (KF.out w' hw').mono ?_
                        rintro e w2 ⟨rfl, hb⟩
                        have hz := below_then hw' (Nat.le_refl _) hb
                        exact ⟨rfl, by simpa using hz⟩
                      simp only [Act.put, zza, zzc, zzb]
                      refine qw_want rfl ?_ (fun w' hw' => ?_) ?_
                      rotate_left
                      · unfold Oper.quietAt
                        go_simp
                        exact rfl
                      simp only [Act.put, zza, zzc, zzb]
                      refine qw_want rfl ?_ (fun w' hw' => ?_) ?_
                      rotate_left
                      · unfold Oper.quietAt
                        go_simp
                        exact rfl
                      simp only [Act.put, zza, zzc, zzb]
                      refine qw_want rfl ?_ (fun w' hw' => ?_) ?_
                      rotate_left
                      · obtain ⟨⟨k0, k1, k2⟩, ⟨k3, k4⟩, ⟨k5, k6, k7, k8, k9, k10⟩, k11, k12, k13, k14, k15⟩ := HFx.out w' hw'
                        unfold Oper.quietAt
                        go_simp
                        exact rfl
                      simp only [Act.put, zza, zzc, zzb]
                      refine qw_want rfl ?_ (fun w' hw' => ?_) ?_
                      rotate_left
                      · obtain ⟨⟨k0, k1, k2⟩, ⟨k3, k4⟩, ⟨k5, k6, k7, k8, k9, k10⟩, k11, k12, k13, k14, k15⟩ := HFx.out w' hw'
                        unfold Oper.quietAt
                        go_simp
                        exact rfl
                      simp only [Act.put, zza, zzc, zzb]
                      refine qw_want rfl ?_ (fun w' hw' => ?_) ?_
                      rotate_left
                      · unfold Oper.quietAt
                        go_simp
                        exact rfl
                      simp only [Act.put, zza, zzc, zzb]
                      refine qw_want rfl ?_ (fun w' hw' => ?_) ?_
                      rotate_left
                      · obtain ⟨⟨k0, k1, k2⟩, ⟨k3, k4⟩, ⟨k5, k6, k7, k8, k9, k10⟩, k11, k12, k13, k14, k15⟩ := HFx.out w' hw'
                        unfold Oper.quietAt
                        go_simp
                        exact rfl
                      simp only [Act.put, zza, zzc, zzb]
                      refine qw_want rfl ?_ (fun w' hw' => ?_) ?_
                      rotate_left
                      · unfold Oper.quietAt
                        go_simp
                        exact rfl
                      simp only [Act.put, zza, zzc, zzb]
                      refine qw_want rfl ?_ (fun w' hw' => ?_) ?_
                      rotate_left
                      · obtain ⟨⟨k0, k1, k2⟩, ⟨k3, k4⟩, ⟨k5, k6, k7, k8, k9, k10⟩, k11, k12, k13, k14, k15⟩ := HFx.out w' hw'
                        unfold Oper.quietAt
                        go_simp
                        exact rfl
                      simp only [Act.put, zza, zzc, zzb]
                      refine qw_want rfl ?_ (fun w' hw' => ?_) ?_
                      rotate_left
                      · unfold Oper.quietAt
                        go_simp
                        exact rfl
                      simp only [Act.put, zza, zzc, zzb]
                      refine qw_want rfl ?_ (fun w' hw' => ?_) ?_
                      rotate_left
                      · unfold Oper.quietAt
                        go_simp
                        exact rfl
                      simp only [Act.put, zza, zzc, zzb]
                      refine qw_want rfl ?_ (fun w' hw' => ?_) ?_
                      rotate_left
                      · unfold Oper.quietAt
                        go_simp
                        exact rfl
                      simp only [Act.put, zza, zzc, zzb]
                      refine qw_want rfl ?_ (fun w' hw' => ?_) ?_
                      rotate_left
                      · obtain ⟨⟨k0, k1, k2⟩, ⟨k3, k4⟩, ⟨k5, k6, k7, k8, k9, k10⟩, k11, k12, k13, k14, k15⟩ := HFx.out w' hw'
                        unfold Oper.quietAt
                        go_simp
                        exact rfl
                      simp only [Act.put, zza, zzc, zzb]
                      refine qw_want rfl (.bool true) (fun w' hw' => ?_) ?_
                      · unfold Oper.quietAt
                        go_simp
                        refine (KI.out w' hw').mono ?_
                        rintro e w2 ⟨rfl, hb⟩
                        have hz := below_then hw' (Nat.le_refl _) hb
                        exact ⟨rfl, by simpa using hz⟩
                      simp only [Act.put, zza, zzc, zzb]
                      refine qw_want rfl ?_ (fun w' hw' => ?_) ?_
                      rotate_left
                      · unfold Oper.quietAt
                        go_simp
                        exact rfl
                      simp only [Act.put, zza, zzc, zzb]
                      refine qw_want rfl ?_ (fun w' hw' => ?_) ?_
                      rotate_left
                      · unfold Oper.quietAt
                        go_simp
                        exact rfl
                      simp only [Act.put, zza, zzc, zzb]
                      refine qw_end (fun w5 hb5 => ?_)
                      have HB7 := zzh (HB6.out.trans (hb5.mono HB6.out.size))
                      have HTk1 := zzh (HTk.out rfl)
                      clear hb5
                      go_wp2
                      go_loopg [10] k (fun g v wr => ∃ j : Nat, j + g = k ∧ v = .int .i64 j ∧ Below wc.heap.size wc wr)
                      case atStart => exact ⟨0, by omega, rfl, HB7.out⟩
                      case round =>
                        obtain ⟨j, hjg, rfl, hb⟩ := hrel
                        have HB8 := zzh hb
                        clear hb
                        cases gk with
                        | zero =>
                          obtain rfl : j = k := by omega
                          have d3 : decide ((j : Int) < (j : Int)) = false := by simp
                          go_wp2
                          go_roundg gk1
                          case measure => omega
                          case rel => exact ⟨j + 1, by omega, by go_num, HTk1.out, HB8.out⟩
                        | succ gk =>
                          have hjk : j < k := by omega
                          have d3 : decide ((j : Int) < (k : Int)) = true := by simp; omega
                          have w1' : (0 : Int) ≤ (j : Int) := by omega
                          have w2' : (j : Int) < (rows.length : Int) := by omega
                          obtain ⟨j0, j1, j2, _, ji0, ji1, ji2⟩ := HRt.out wr HB8.out j (by omega)
                          obtain ⟨k0, k1, k2, _, ki0, ki1, ki2⟩ := HRtk.out wr HB8.out
                          generalize rows[j] = rj at *
                          obtain ⟨rb0, rb1, rb2, rbv⟩ := rj
                          simp only at j0 j1 j2 ji0 ji1 ji2 k0 k1 k2 ki0 ki1 ki2
                          obtain ⟨⟨z0, z1, z2⟩, ⟨z3, z4⟩, ⟨p0, p1, p2, p3, p4, p5⟩, q0, q1⟩ := HFx0.out _ HB8.out
                          obtain ⟨rr, hiff, hrr⟩ := tri_eq ji0 ji1 ji2 ki0 ki1 ki2
                          unfold triV at hrr
                          have ge := tri_eql hrr
                          have gg := tri_guard
                          clear hiff hrr ji0 ji1 ji2 ki0 ki1 ki2 z0 z1 z2 z3 z4 p0 p1 p2 p3 p4 p5 q1
                          have HFj : Hid (∀ W, Below wr.heap.size wr W → W.cell? ⟨q, 0, none⟩ = some (.slice (some ⟨rb, ro, none⟩) rows.length rc) ∧ (W.cell? ⟨rb, ro + j * 4, none⟩ = some (.int .i64 rb0) ∧ W.cell? ⟨rb, ro + j * 4 + 1, none⟩ = some (.int .i64 rb1) ∧ W.cell? ⟨rb, ro + j * 4 + 2, none⟩ = some (.int .i64 rb2)) ∧ W.cell? ⟨rb, ro + k * 4, none⟩ = some (.int .i64 ra0) ∧ W.cell? ⟨rb, ro + k * 4 + 1, none⟩ = some (.int .i64 ra1) ∧ W.cell? ⟨rb, ro + k * 4 + 2, none⟩ = some (.int .i64 ra2)) := zzh (fun W hW => by
                            have hq2 := World.block_lt_of_cell? _ _ q0
                            have hr2 := World.block_lt_of_cell? _ _ j0
                            exact ⟨(hW.cell hq2).trans q0, ⟨(hW.cell (p := ⟨rb, ro + j * 4, none⟩) hr2).trans j0, (hW.cell (p := ⟨rb, ro + j * 4 + 1, none⟩) hr2).trans j1, (hW.cell (p := ⟨rb, ro + j * 4 + 2, none⟩) hr2).trans j2⟩, (hW.cell (p := ⟨rb, ro + k * 4, none⟩) hr2).trans k0, (hW.cell (p := ⟨rb, ro + k * 4 + 1, none⟩) hr2).trans k1, (hW.cell (p := ⟨rb, ro + k * 4 + 2, none⟩) hr2).trans k2⟩)
                          clear j0 j1 j2 k0 k1 k2 q0
                          go_upto_region 22 with fail
                          cases rr with
                          | true =>
                            refine wp_region_quiet (C := fun w' => Below wr.heap.size wr w') (by kernel_rfl) (by kernel_rfl) (⟨rfl, rfl, rfl, Nat.le_refl _, fun _ _ => rfl⟩) ?_
                            refine QW.lit ?_
                            refine qw_want rfl ?_ (fun w' hw' => ?_) ?_
                            rotate_left
                            · unfold Oper.quietAt
                              go_simp
                              exact rfl
                            simp only [Act.put, zza, zzc, zzb]
                            refine qw_want rfl ?_ (fun w' hw' => ?_) ?_
                            rotate_left
                            · obtain ⟨k0, ⟨k1, k2, k3⟩, k4, k5, k6⟩ := HFj.out w' hw'
                              unfold Oper.quietAt
                              go_simp
                              exact rfl
                            simp only [Act.put, zza, zzc, zzb]
                            refine qw_want rfl ?_ (fun w' hw' => ?_) ?_
                            rotate_left
                            · unfold Oper.quietAt
                              go_simp
                              exact rfl
                            simp only [Act.put, zza, zzc, zzb]
                            refine qw_want rfl ?_ (fun w' hw' => ?_) ?_
                            rotate_left
                            · unfold Oper.quietAt
                              go_simp
                              exact rfl
                            simp only [Act.put, zza, zzc, zzb]
                            refine qw_want rfl ?_ (fun w' hw' => ?_) ?_
                            rotate_left
                            · unfold Oper.quietAt
                              go_simp
                              exact rfl
                            simp only [Act.put, zza, zzc, zzb]
                            refine qw_want rfl ?_ (fun w' hw' => ?_) ?_
                            rotate_left
                            · obtain ⟨k0, ⟨k1, k2, k3⟩, k4, k5, k6⟩ := HFj.out w' hw'
                              unfold Oper.quietAt
                              go_simp
                              exact rfl
                            simp only [Act.put, zza, zzc, zzb]
                            refine qw_want rfl ?_ (fun w' hw' => ?_) ?_
                            rotate_left
                            · unfold Oper.quietAt
                              go_simp
                              exact rfl
                            simp only [Act.put, zza, zzc, zzb]
                            refine qw_want rfl ?_ (fun w' hw' => ?_) ?_
                            rotate_left
                            · obtain ⟨k0, ⟨k1, k2, k3⟩, k4, k5, k6⟩ := HFj.out w' hw'
                              unfold Oper.quietAt
                              go_simp
                              exact rfl
                            simp only [Act.put, zza, zzc, zzb]
                            refine qw_want rfl ?_ (fun w' hw' => ?_) ?_
                            rotate_left
                            · unfold Oper.quietAt
                              go_simp
                              exact rfl
                            simp only [Act.put, zza, zzc, zzb]
                            refine qw_want rfl ?_ (fun w' hw' => ?_) ?_
                            rotate_left
                            · unfold Oper.quietAt
                              go_simp
                              exact rfl
                            simp only [Act.put, zza, zzc, zzb]
                            refine qw_want rfl ?_ (fun w' hw' => ?_) ?_
                            rotate_left
                            · unfold Oper.quietAt
                              go_simp
                              exact rfl
                            simp only [Act.put, zza, zzc, zzb]
                            refine qw_want rfl ?_ (fun w' hw' => ?_) ?_
                            rotate_left
                            · obtain ⟨k0, ⟨k1, k2, k3⟩, k4, k5, k6⟩ := HFj.out w' hw'
                              unfold Oper.quietAt
                              go_simp
                              exact rfl
                            simp only [Act.put, zza, zzc, zzb]
                            refine qw_want rfl ?_ (fun w' hw' => ?_) ?_
                            rotate_left
                            · unfold Oper.quietAt
                              go_simp
                              exact rfl
                            simp only [Act.put, zza, zzc, zzb]
                            refine qw_end (fun w5 hb5 => ?_)
                            have HB9 := zzh (HB8.out.trans (hb5.mono HB8.out.size))
                            clear hb5
                            go_wp2
                            go_ret
                            exact HNo.out _ (HB0.out.trans ((HBc.out.trans (HB9.out.mono HBc.out.size)).mono HB0.out.size))
                          | false =>
                            refine wp_region_quiet (C := fun w' => Below wr.heap.size wr w') (by kernel_rfl) (by kernel_rfl) (⟨rfl, rfl, rfl, Nat.le_refl _, fun _ _ => rfl⟩) ?_
                            refine QW.lit ?_
                            refine qw_want rfl ?_ (fun w' hw' => ?_) ?_
                            rotate_left
                            · unfold Oper.quietAt
                              go_simp
                              exact rfl
                            simp only [Act.put, zza, zzc, zzb]
                            refine qw_want rfl ?_ (fun w' hw' => ?_) ?_
                            rotate_left
                            · obtain ⟨k0, ⟨k1, k2, k3⟩, k4, k5, k6⟩ := HFj.out w' hw'
                              unfold Oper.quietAt
                              go_simp
                              exact rfl
                            simp only [Act.put, zza, zzc, zzb]
                            refine qw_want rfl ?_ (fun w' hw' => ?_) ?_
                            rotate_left
                            · unfold Oper.quietAt
                              go_simp
                              exact rfl
                            simp only [Act.put, zza, zzc, zzb]
                            refine qw_want rfl ?_ (fun w' hw' => ?_) ?_
                            rotate_left
                            · unfold Oper.quietAt
                              go_simp
                              exact rfl
                            simp only [Act.put, zza, zzc, zzb]
                            refine qw_want rfl ?_ (fun w' hw' => ?_) ?_
                            rotate_left
                            · unfold Oper.quietAt
                              go_simp
                              exact rfl
                            simp only [Act.put, zza, zzc, zzb]
                            refine qw_want rfl ?_ (fun w' hw' => ?_) ?_
                            rotate_left
                            · obtain ⟨k0, ⟨k1, k2, k3⟩, k4, k5, k6⟩ := HFj.out w' hw'
                              unfold Oper.quietAt
                              go_simp
                              exact rfl
                            simp only [Act.put, zza, zzc, zzb]
                            refine qw_want rfl ?_ (fun w' hw' => ?_) ?_
                            rotate_left
                            · unfold Oper.quietAt
                              go_simp
                              exact rfl
                            simp only [Act.put, zza, zzc, zzb]
                            refine qw_want rfl ?_ (fun w' hw' => ?_) ?_
                            rotate_left
                            · obtain ⟨k0, ⟨k1, k2, k3⟩, k4, k5, k6⟩ := HFj.out w' hw'
                              unfold Oper.quietAt
                              go_simp
                              exact rfl
                            simp only [Act.put, zza, zzc, zzb]
                            refine qw_want rfl ?_ (fun w' hw' => ?_) ?_
                            rotate_left
                            · unfold Oper.quietAt
                              go_simp
                              exact rfl
                            simp only [Act.put, zza, zzc, zzb]
                            refine qw_want rfl ?_ (fun w' hw' => ?_) ?_
                            rotate_left
                            · unfold Oper.quietAt
                              go_simp
                              exact rfl
                            simp only [Act.put, zza, zzc, zzb]
                            refine qw_want rfl ?_ (fun w' hw' => ?_) ?_
                            rotate_left
                            · unfold Oper.quietAt
                              go_simp
                              exact rfl
                            simp only [Act.put, zza, zzc, zzb]
                            refine qw_want rfl ?_ (fun w' hw' => ?_) ?_
                            rotate_left
                            · obtain ⟨k0, ⟨k1, k2, k3⟩, k4, k5, k6⟩ := HFj.out w' hw'
                              unfold Oper.quietAt
                              go_simp
                              exact rfl
                            simp only [Act.put, zza, zzc, zzb]
                            refine qw_want rfl ?_ (fun w' hw' => ?_) ?_
                            rotate_left
                            · unfold Oper.quietAt
                              go_simp
                              exact rfl
                            simp only [Act.put, zza, zzc, zzb]
                            refine qw_end (fun w5 hb5 => ?_)
                            have HB9 := zzh (HB8.out.trans (hb5.mono HB8.out.size))
                            clear hb5
                            go_wp2
                            go_roundg gk
                            case measure => omega
                            case rel => exact ⟨j + 1, by omega, by go_num, HB9.out⟩
theorem FnAt.argc {w : World} {b o : Nat} {f : FnM} (h : FnAt w b o f) {i : Nat} (hi : i < 3) : w.cell? ⟨b, o + 2 + i, none⟩ = some (.int .i64 (f.arg i)) := by
  match i, hi with
  | 0, _ => exact h.c2
  | 1, _ => exact h.c3
  | 2, _ => exact h.c4
def App06Is (g : SigV) (fn : Int) (w : World) (e : Ending) (w' : World) : Prop := ∃ s r, e = .returned (.tuple #[.int .i64 s, .int .i64 r]) ∧ (r = 0 → ∃ (i : Nat) (h : i < g.funs.length), fn = i ∧ s = g.funs[i].res) ∧ Below w.heap.size w w'
theorem App06Is.no {g : SigV} {fn s r : Int} {w w' : World} (hr : r ≠ 0) (h : Below w.heap.size w w') : App06Is g fn w (.returned (.tuple #[.int .i64 s, .int .i64 r])) w' := ⟨s, r, rfl, fun e => absurd e hr, h⟩
set_option maxRecDepth 100000 in
set_option maxHeartbeats 8000000 in
theorem app06_ok {w : World} {g : SigV} {A : Option Addr} {L : List Int} (c : Nat) (hg : SigAt w g) (hd : SigDeep w g) (hL : Row w A L) (h3 : L.length ≤ 3) (fn : Int) :
    Calls Tryz.prog 147 #[.agg g.cells, .int .i64 fn, .slice A L.length c] w (App06Is g fn w) := by
  have HB0 := zzh (sig_box w g)
  have HG0 := zzh (Blk.new w 26 g.cells)
  have H := zzh (hg.below HB0.out)
  have HLr := zzh (hL.below HB0.out)
  have KC := zzh (lcheck_ok H.out (hd.below HB0.out))
  have HX := zzh (fun W (hW : Below (w.alloc (.cells g.cells 26)).heap.size (w.alloc (.cells g.cells 26)) W) => sig_blk (HG0.out.below hW HG0.out.lt))
  have hn1 := hg.n1
  obtain ⟨x0, x1, x2⟩ := sig_blk HG0.out
  clear hg hd hL
  obtain ⟨A0, c0, S, A1, c1, F, A2, c2, M⟩ := g
  unfold SigV.cells at *
  simp only at *
  go_enter Tryz.func147, Tryz.ntmps147
  go_upto_region 1 with fail
  generalize w.alloc (.cells #[.slice A0 S.length c0, .slice A1 F.length c1, .slice A2 M.length c2] 26) = w0 at *
  go_wp2_with fail
  refine KC.out.mono ?_
  rintro e w1 ⟨r, rfl, hlen, hb1⟩
  have HB1 := zzh hb1
  have HBB := zzh (HB0.out.trans (hb1.mono HB0.out.size))
  obtain ⟨z0, z1, z2⟩ := HX.out w1 hb1
  clear hb1 hlen x0 x1 x2 KC
  by_cases hr : r = 0
  rotate_left
  · have e1 : (r != 0) = true := bne_iff_ne.2 hr
    clear hr
    go_wp2
    refine bodyPost_ret (v := .tuple #[.int .i64 0, .int .i64 2]) (by simp [results, Tryz.results147, go_sem]) rfl (App06Is.no (by decide) HBB.out)
  have e1 : (r != 0) = false := by rw [hr]; rfl
  clear hr
  by_cases h1 : fn < 0
  · have e2 : decide (fn < 0) = true := decide_eq_true h1
    clear h1
    go_wp2
    refine bodyPost_ret (v := .tuple #[.int .i64 0, .int .i64 2]) (by simp [results, Tryz.results147, go_sem]) rfl (App06Is.no (by decide) HBB.out)
  have e2 : decide (fn < 0) = false := decide_eq_false h1
  obtain ⟨k, rfl⟩ : ∃ k : Nat, fn = k := ⟨fn.toNat, by omega⟩
  clear h1 e2
  have e2 : decide ((k : Int) < 0) = false := decide_eq_false (by omega)
  by_cases h2 : k < F.length
  rotate_left
  · have e3 : decide ((k : Int) ≥ (F.length : Int)) = true := decide_eq_true (by omega)
    have e3' : decide ((F.length : Int) ≤ (k : Int)) = true := decide_eq_true (by omega)
    have e3'' : decide (F.length ≤ k) = true := decide_eq_true (by omega)
    clear h2
    go_wp2
    refine bodyPost_ret (v := .tuple #[.int .i64 0, .int .i64 2]) (by simp [results, Tryz.results147, go_sem]) rfl (App06Is.no (by decide) HBB.out)
  have e3 : decide ((k : Int) ≥ (F.length : Int)) = false := decide_eq_false (by omega)
  have e3' : decide ((F.length : Int) ≤ (k : Int)) = false := decide_eq_false (by omega)
  have e3'' : decide (F.length ≤ k) = false := decide_eq_false (by omega)
  have t1 : (0 : Int) ≤ (k : Int) := by omega
  have t2 : (k : Int) < (F.length : Int) := by omega
  obtain ⟨b, off, hA, hb, hat⟩ := (H.out.below HB1.out).f k h2
  have HYes : Hid (∀ w', Below w.heap.size w w' → App06Is ⟨A0, c0, S, A1, c1, F, A2, c2, M⟩ (k : Int) w (.returned (.tuple #[.int .i64 F[k].res, .int .i64 0])) w') := zzh (fun w' h => ⟨_, _, rfl, fun _ => ⟨k, h2, rfl, rfl⟩, h⟩)
  have HArg : Hid (∀ i, i < 3 → w1.cell? ⟨b, off + k * 6 + 2 + i, none⟩ = some (.int .i64 (F[k].arg i))) := zzh (fun i hi => hat.argc hi)
  have f1 := hat.c1
  have f5 := hat.c5
  dsimp only at hA f1 f5 HArg HYes
  generalize F[k] = f at *
  obtain ⟨nm, len, a0, a1, a2, res⟩ := f
  simp only at f1 f5 HYes
  have HAq := zzh hA
  rw [hA] at z1 HX
  have HNo : Hid (∀ r, r ≠ 0 → ∀ w', Below w.heap.size w w' → App06Is ⟨A0, c0, S, A1, c1, F, A2, c2, M⟩ (k : Int) w (.returned (.tuple #[.int .i64 0, .int .i64 r])) w') := zzh (fun r hr w' h => App06Is.no hr h)
  clear hat hA hb h2
  by_cases h4 : (L.length : Int) = len
  rotate_left
  · have e4 : ((L.length : Int) != len) = true := bne_iff_ne.2 h4
    clear h4
    go_wp2
    refine bodyPost_ret (v := .tuple #[.int .i64 0, .int .i64 2]) (by simp [results, Tryz.results147, go_sem]) rfl (HNo.out 2 (by decide) _ HBB.out)
  subst h4
  have e4 : ((L.length : Int) != (L.length : Int)) = false := by simp
  go_wp2
  go_loopg [8] L.length (fun g v wr => ∃ (i q : Nat), i + g = L.length ∧ v = .int .i64 i ∧ wr = w1.drewN q)
  case atStart => exact ⟨0, 0, by omega, rfl, rfl⟩
  case round =>
    obtain ⟨i, q, hig, rfl, rfl⟩ := hrel
    cases gk with
    | zero =>
      obtain rfl : i = L.length := by omega
      have d1 : decide ((L.length : Int) < L.length) = false := by simp
      have HBq := zzh (below_drewN HBB.out q)
      go_wp2
      refine bodyPost_ret (v := .tuple #[.int .i64 res, .int .i64 0]) (by simp [results, Tryz.results147, go_sem]) rfl (HYes.out _ HBq.out)
    | succ gk =>
      have hlt : i < L.length := by omega
      have d1 : decide ((i : Int) < L.length) = true := by simp; omega
      have u1 : (0 : Int) ≤ (i : Int) := by omega
      have u2 : (i : Int) < (L.length : Int) := by omega
      have u3 : (i : Int) < (3 : Int) := by omega
      obtain ⟨b2, off2, hA2, hb2, hc2⟩ := (HLr.out.below HB1.out).at_.resolve_left (by omega)
      have y0 := hc2 i hlt
      have y1 := HArg.out i (by omega)
      subst hA2
      have HBq := zzh (below_drewN (below_drewN HBB.out q) 1)
      clear hc2
      generalize L[i] = x at *
      generalize FnM.arg ⟨nm, (L.length : Int), a0, a1, a2, res⟩ i = ai at *
      by_cases hx : x = ai
      · have e5 : (x != ai) = false := by rw [hx]; simp
        clear hx
        go_wp2
        go_quiet (fail)
        go_wp2
        go_roundg gk
        case measure => omega
        case rel => exact ⟨i + 1, _, by omega, by go_num, rfl⟩
      · have e5 : (x != ai) = true := bne_iff_ne.2 hx
        clear hx
        go_wp2
        go_quiet (fail)
        go_wp2
        refine bodyPost_ret (v := .tuple #[.int .i64 0, .int .i64 33]) (by simp [results, Tryz.results147, go_sem]) rfl (HNo.out 33 (by decide) _ (below_drewN (below_drewN HBB.out q) _))
structure RX (w : World) (B : Nat) (g : SigV) (A : Option Addr) (T : List Nd) (c : Nat) (n : Nd) (j : Nat) (sv : Value) (W : World) : Prop where
  sg : Blk W B 26 g.cells
  t : Blk W (B + 1) 33 #[.slice A T.length c]
  nd : Blk W (B + 2) 51 (nodeCells n).toArray
  hB : w.heap.size = B
  tab0 : Tab w A T
  own : W.ownsRow (B + 3) 3 1 sv j (((List.range n.len.toNat).take j).map fun k => Value.int .i64 (ndAt T (n.arg k)).sort)
  bel : Below B w W
theorem RX.push {w W W2 : World} {B : Nat} {g : SigV} {A : Option Addr} {T : List Nd} {c j : Nat} {n : Nd} {sv : Value} (h : RX w B g A T c n j sv W) (hj : j < n.len.toNat) {x : Int} (hx : (ndAt T (n.arg j)).sort = x) {q cap k : Nat}
    (ho : W2.ownsRow (B + 3) 3 1 (.slice (some ⟨q, 0, none⟩) (j + 1) cap) (j + 1) (((List.range n.len.toNat).take j).map (fun k => Value.int .i64 (ndAt T (n.arg k)).sort) ++ #[Value.int .i64 x].toList)) {cs : Obj} (hg : ((W.alloc cs).drewN k).grownBy W2 sv.ownBlock) : RX w B g A T c n (j + 1) (.slice (some ⟨q, 0, none⟩) (j + 1) cap) W2 := by
  have hk0 : Kept (fun b => some b = sv.ownBlock) W ((W.alloc cs).drewN k) := Kept.of_below (S := fun b => some b = sv.ownBlock) (below_drewN ((Below.refl _ W).alloc (Nat.le_refl _) _) k)
  have hk := hk0.grown hg (fun k e => .inl e.symm)
  have hob : ∀ b, some b = sv.ownBlock → B + 3 ≤ b := fun b e => (h.own.lt b e.symm).1
  have hsz := h.bel.size
  have hB := h.hB
  refine ⟨h.sg.kept hk (fun e => by have := hob _ e; omega), h.t.kept hk (fun e => by have := hob _ e; omega), h.nd.kept hk (fun e => by have := hob _ e; omega), h.hB, h.tab0, ?_, h.bel.trans (hk.below (by omega) (fun k e => by have := hob k e; omega))⟩
  rw [List.take_add_one, List.getElem?_range hj, List.map_append]
  simpa [hx] using ho
def RuleIs (g : SigV) (T : List Nd) (n : Nd) (w : World) (e : Ending) (w' : World) : Prop := ∃ s r, e = .returned (.tuple #[.int .i64 s, .int .i64 r]) ∧ (r = 0 → (n.op = 13 → ∃ (i : Nat) (h : i < g.funs.length), n.fn = i ∧ s = g.funs[i].res) ∧ (n.op ≠ 13 → opL n.op (argSorts T n) = some s)) ∧ Below w.heap.size w w'
set_option maxRecDepth 100000 in
set_option maxHeartbeats 8000000 in
theorem rule_ok {g : SigV} {T : List Nd} {w : World} {A : Option Addr} {n : Nd} (c : Nat) (hg : SigAt w g) (hd : SigDeep w g) (hT : TabOk T) (h : Tab w A T) (hn : n ∈ T) :
    Calls Tryz.prog 101 #[.agg g.cells, .agg #[.slice A T.length c], nodeVal n] w (RuleIs g T n w) := by
  have hlen := h.len
  obtain ⟨i0, hi0, hz0, hz1, hz2⟩ := info_parts int_info
  obtain ⟨at_, hat_, _, hst⟩ := hT.stands hn
  have HT := zzh hT
  have H := zzh h
  have HG := zzh hg
  have HD := zzh hd
  have HST := zzh hst
  have HAt := zzh hat_
  obtain ⟨w0, hw0⟩ : ∃ w0, ((w.alloc (.cells g.cells 26)).alloc (.cells #[.slice A T.length c] 33)).alloc (.cells #[.int .i8 n.op, .int .i8 n.len, .int .i64 n.a0, .int .i64 n.a1, .int .i64 n.a2, .int .i64 n.sort, .int .i64 n.fn, .int .i64 n.num] 51) = w0 := ⟨_, rfl⟩
  obtain ⟨B, hB⟩ : ∃ B, w.heap.size = B := ⟨_, rfl⟩
  have HR0 : Hid (RX w B g A T c n 0 (.slice none 0 0) w0) := zzh (by
    rw [← hw0, ← hB]
    exact ⟨((Blk.new w _ _).alloc _).alloc _, (Blk.new_at (by simp) _ _).alloc _, Blk.new_at (by simp) _ _, rfl, h, World.ownsRow_nil _ _ _ _, (((Below.refl _ w).alloc (Nat.le_refl _) _).alloc (by simp) _).alloc (by simp; omega) _⟩)
  have HBs := zzh hB
  have hl0 : 0 ≤ n.len ∧ n.len ≤ 3 := hst.len
  obtain ⟨ln, hln⟩ : ∃ ln : Nat, n.len = ln := ⟨n.len.toNat, by omega⟩
  have HLN := zzh hln
  have hln3 : ln ≤ 3 := by omega
  have HGC : Hid (g.cells = #[.slice g.A0 g.sorts.length g.c0, .slice g.A1 g.funs.length g.c1, .slice g.A2 g.macs.length g.c2]) := zzh rfl
  have HYes : Hid (∀ s r w', (r = 0 → (n.op = 13 → ∃ (i : Nat) (h : i < g.funs.length), n.fn = i ∧ s = g.funs[i].res) ∧ (n.op ≠ 13 → opL n.op (argSorts T n) = some s)) → Below B w w' → RuleIs g T n w (.returned (.tuple #[.int .i64 s, .int .i64 r])) w') := zzh (fun s r w' h1 h2 => ⟨s, r, rfl, h1, by rw [hB]; exact h2⟩)
  rw [HGC.out] at hw0 ⊢
  have HW0 := zzh hw0
  clear h hg hd hT hn hst hat_ hl0 hln hw0
  unfold nodeVal nodeCells
  go_enter Tryz.func101, Tryz.ntmps101
  go_upto_region 1 with fail
  rw [HW0.out]
  clear HW0 hB
  go_wp2
  go_loopg [9, 8] ln (fun gg v vs W => ∃ (j : Nat) (sv : Value), j + gg = ln ∧ v = .int .i64 j ∧ sv = vs ∧ RX w B g A T c n j sv W)
  case atStart => exact ⟨0, _, by omega, rfl, rfl, HR0.out⟩
  case round =>
    obtain ⟨j, sv, hjg, rfl, rfl, hx⟩ := hrel
    have HX := zzh hx
    obtain ⟨m0, m1, m2, m3, m4, m6⟩ : wr.cell? ⟨B + 1 + 1, 0, none⟩ = some (.int .i8 n.op) ∧ wr.cell? ⟨B + 1 + 1, 1, none⟩ = some (.int .i8 n.len) ∧ wr.cell? ⟨B + 1 + 1, 2, none⟩ = some (.int .i64 n.a0) ∧ wr.cell? ⟨B + 1 + 1, 3, none⟩ = some (.int .i64 n.a1) ∧ wr.cell? ⟨B + 1 + 1, 4, none⟩ = some (.int .i64 n.a2) ∧ wr.cell? ⟨B + 1 + 1, 6, none⟩ = some (.int .i64 n.fn) := ⟨hx.nd.cell 0, hx.nd.cell 1, hx.nd.cell 2, hx.nd.cell 3, hx.nd.cell 4, hx.nd.cell 6⟩
    have s0 := hx.t.cell 0
    simp only [zzg, zzi] at s0
    obtain ⟨g0, g1, g2⟩ := sig_blk hx.sg
    rw [HLN.out] at m1
    have hw8 : IntKind.i64.wrap (ln : Int) = ln := by have : ln ≤ 3 := hln3; unfold IntKind.wrap; simp [IntKind.bits, IntKind.signed]; omega
    clear hx
    cases gk with
    | zero =>
      obtain rfl : j = ln := by omega
      have f1 : decide ((j : Int) < (j : Int)) = false := by simp
      obtain ⟨SA, sc, hsv⟩ := own_slice HX.out.own
      subst hsv
      have hlnN : n.len.toNat = j := by have := HLN.out; omega
      have hO : OwnL wr (B + 3) (.slice SA j sc) (argSorts T n) := by
        have := HX.out.own
        rw [List.take_of_length_le (by rw [List.length_range]; omega)] at this
        unfold OwnL argSorts
        rw [List.length_map, List.length_range, List.map_map, hlnN]
        rw [hlnN] at this
        exact this
      have hlA : (argSorts T n).length = j := by unfold argSorts; rw [List.length_map, List.length_range, hlnN]
      have HRow := zzh (hO.row (by omega)).1
      have HlA := zzh hlA
      have hbB : Below w.heap.size w wr := by rw [HBs.out]; exact HX.out.bel
      by_cases h13 : n.op = 13
      · have e1 : (n.op == 13) = true := beq_iff_eq.2 h13
        have KA := zzh (app06_ok sc (HG.out.below hbB) (HD.out.below hbB) HRow.out (by rw [HlA.out]; exact hln3) n.fn)
        rw [hlA] at KA
        rw [HGC.out] at KA
        have H13 := zzh h13
        clear hO hlA hlnN h13 hbB m2 m3 m4
        go_wp2_with fail
        refine KA.out.mono ?_
        rintro e w2 ⟨s, r, rfl, hyes, hb2⟩
        have HB2 : Hid (Below B w w2) := zzh (HX.out.bel.trans (hb2.mono (by have := HX.out.bel.size; rw [HBs.out] at this; exact this)))
        have HYs := zzh hyes
        clear hyes hb2
        by_cases hr : r = 0
        · have e2 : (r != 0) = false := by rw [hr]; rfl
          have HF := zzh (HYs.out hr)
          clear hr
          go_wp2
          refine bodyPost_ret (v := .tuple #[.int .i64 s, .int .i64 0]) (by simp [results, Tryz.results101, go_sem]) rfl (HYes.out s 0 w2 (fun _ => ⟨fun _ => HF.out, fun e => absurd H13.out e⟩) HB2.out)
        · have e2 : (r != 0) = true := bne_iff_ne.2 hr
          clear hr
          go_wp2
          refine bodyPost_ret (v := .tuple #[.int .i64 0, .int .i64 33]) (by simp [results, Tryz.results101, go_sem]) rfl (HYes.out 0 33 w2 (fun e => absurd e (by decide)) HB2.out)
      · have e1 : (n.op == 13) = false := beq_eq_false_iff_ne.2 h13
        have H13 := zzh h13
        have KO := op_ok (op := n.op) sc (by
          unfold Op12
          have h6 := H13.out
          rcases arity_ops HST.out with e | e | e | e | e | e | e | e | e | e | e | e | e | e
          all_goals first
            | exact absurd e h6
            | omega) HRow.out (fun x hx => by
          unfold argSorts at hx
          obtain ⟨k, hk, rfl⟩ := List.mem_map.1 hx
          have hk' := List.mem_range.1 hk
          have ha := HST.out.arg_lt k (by omega) (by have := HLN.out; omega)
          obtain ⟨_, _, _, hst⟩ := HT.out.stands (ndAt_mem (T := T) ha.1 (by have := HAt.out; omega))
          exact hst.srt.1)
        rw [hlA] at KO
        have KO := zzh KO
        clear hO hlA hlnN h13 hbB m2 m3 m4
        go_wp2_with fail
        refine KO.out.mono ?_
        rintro e w2 ⟨s, er, rfl, hso, hno, hb2⟩
        have HB2 : Hid (Below B w w2) := zzh (HX.out.bel.trans (hb2.mono (by have := HX.out.bel.size; rw [HBs.out] at this; exact this)))
        have HRes : Hid (er = 0 → opL n.op (argSorts T n) = some s) := zzh (fun e => by
          cases ho : opL n.op (argSorts T n) with
          | none => exact absurd e (hno ho)
          | some q => rw [(hso q ho).1])
        clear hso hno hb2
        go_wp2
        refine bodyPost_ret (v := .tuple #[.int .i64 s, .int .i64 er]) (by simp [results, Tryz.results101, go_sem]) rfl (HYes.out s er w2 (fun e => ⟨fun h => absurd h H13.out, fun _ => HRes.out e⟩) HB2.out)
    | succ g2 =>
      have hjl : j < ln := by omega
      have f1 : decide ((j : Int) < (ln : Int)) = true := by simp; omega
      have hja : (j : Int) < n.len := by rw [HLN.out]; omega
      have hai := HST.out.arg_lt j (by omega) hja
      obtain ⟨k, hk⟩ : ∃ k : Nat, n.arg j = k := ⟨(n.arg j).toNat, by omega⟩
      have hkl : k < T.length := by have := HAt.out; omega
      have HK := zzh hk
      obtain ⟨b2, off2, hA2, hgb, hgc⟩ := (H.out.below (by rw [HBs.out]; exact HX.out.bel)).at_.resolve_left (by omega)
      subst hA2
      obtain ⟨_, _, _, _, _, z5, _, _⟩ := (hgc k hkl).all
      have HND := zzh (ndAt_nat (T := T) hkl)
      have k1 : (0 : Int) ≤ (k : Int) := by omega
      have k2 : (k : Int) < (T.length : Int) := by omega
      have hjN : j < n.len.toNat := by have := HLN.out; omega
      have HJN := zzh hjN
      have HSZ := zzh HX.out.nd.lt
      have z2 : wr.cell? ⟨B + 1 + 1, 2 + j, none⟩ = some (.int .i64 (k : Int)) := by
        rw [← hk]
        rcases (show j = 0 ∨ j = 1 ∨ j = 2 by omega) with rfl | rfl | rfl
        · exact m2
        · exact m3
        · exact m4
      have tk1 : (0 : Int) ≤ (j : Int) := by omega
      have tk2 : (j : Int) < (ln : Int) := by omega
      have tk3 : (j : Int) < 3 := by omega
      have tk4 : (2 : Int) + (j : Int) < 5 := by omega
      clear hgc hja hai hjN m2 m3 m4 m6 m0
      generalize T[k] = m at *
      have h1c : Hid (∀ u ∈ #[Value.int .i64 m.sort].toList, u.oneCell' = true) := zzh (by simp [Value.oneCell'])
      go_wp2
      go_region_law (refine step_push _ rfl (.tmp 19) (.tmp 29) 27 rfl (B + 3) 3 i0 (.int .i64 0) 1 8 Tryz.underlying27 hi0 hz0 hz1 hz2 rfl (by decide) sv j _ rfl (own_drewN (HX.out.own.alloc _) _) wr.heap.size #[.int .i64 m.sort] rfl (Blk.new _ _ _) rfl h1c.out (by omega) (by omega) (by have := HSZ.out; omega) (fun g2' cap3 w2 hown1 hgrow hat hlt1 => ?_))
      all_goals
        have hp := HX.out.push HJN.out (x := m.sort) (by rw [HK.out, HND.out]) hown1 hgrow
        have HP := zzh hp
        clear hp hown1 hgrow hat hlt1
      all_goals go_wp2
      all_goals
        go_roundg g2
        case measure => omega
        case rel => exact ⟨j + 1, _, by omega, by go_num, rfl, HP.out⟩
def RuleOk (g : SigV) (T : List Nd) (n : Nd) : Prop := (n.op = 13 → ∃ (i : Nat) (h : i < g.funs.length), n.fn = i ∧ n.sort = g.funs[i].res) ∧ (n.op ≠ 13 → opL n.op (argSorts T n) = some n.sort)
def TableIs (g : SigV) (T : List Nd) (w : World) (e : Ending) (w' : World) : Prop := ∃ r, e = .returned (.int .i64 r) ∧ (r = 0 → TabOk T ∧ ∀ n ∈ T, RuleOk g T n) ∧ Below w.heap.size w w'
theorem TableIs.no {g : SigV} {T : List Nd} {r : Int} {w w' : World} (hr : r ≠ 0) (h : Below w.heap.size w w') : TableIs g T w (.returned (.int .i64 r)) w' := ⟨r, rfl, fun e => absurd e hr, h⟩
set_option maxRecDepth 100000 in
set_option maxHeartbeats 8000000 in
theorem table06_ok {g : SigV} {T : List Nd} {w : World} {A : Option Addr} (c : Nat) (hg : SigAt w g) (hd : SigDeep w g) (h : Tab w A T) :
    Calls Tryz.prog 64 #[.agg g.cells, .agg #[.slice A T.length c]] w (TableIs g T w) := by
  have hlen := h.len
  obtain ⟨w0, hw0⟩ : ∃ w0, (w.alloc (.cells g.cells 26)).alloc (.cells #[.slice A T.length c] 33) = w0 := ⟨_, rfl⟩
  have HB0 : Hid (Below w.heap.size w w0) := zzh (by rw [← hw0]; exact (sig_box w g).alloc (sig_box w g).size _)
  have HG0 : Hid (Blk w0 w.heap.size 26 g.cells) := zzh (by rw [← hw0]; exact (Blk.new w 26 g.cells).alloc _)
  have HT0 : Hid (Blk w0 (w.heap.size + 1) 33 #[.slice A T.length c]) := zzh (by rw [← hw0]; exact Blk.new_at (by simp) _ _)
  have HX : Hid (∀ W, Below w0.heap.size w0 W → (W.cell? ⟨w.heap.size, 0, none⟩ = some (.slice g.A0 g.sorts.length g.c0) ∧ W.cell? ⟨w.heap.size, 1, none⟩ = some (.slice g.A1 g.funs.length g.c1) ∧ W.cell? ⟨w.heap.size, 2, none⟩ = some (.slice g.A2 g.macs.length g.c2)) ∧ W.cell? ⟨w.heap.size + 1, 0, none⟩ = some (.slice A T.length c)) := zzh (fun W hW => ⟨sig_blk (HG0.out.below hW HG0.out.lt), (HT0.out.below hW HT0.out.lt).cell 0⟩)
  have HTab := zzh (h.below HB0.out)
  have HSg := zzh (hg.below HB0.out)
  have HSd := zzh (hd.below HB0.out)
  have KC := zzh (lcheck_ok HSg.out HSd.out)
  have KT := zzh (fun W (hW : Below w0.heap.size w0 W) => rcheck_ok c (HTab.out.below hW))
  have KR := zzh (fun W (hW : Below w0.heap.size w0 W) (hT : TabOk T) (n : Nd) (hn : n ∈ T) => rule_ok c (HSg.out.below hW) (HSd.out.below hW) hT (HTab.out.below hW) hn)
  have HGC : Hid (g.cells = #[.slice g.A0 g.sorts.length g.c0, .slice g.A1 g.funs.length g.c1, .slice g.A2 g.macs.length g.c2]) := zzh rfl
  obtain ⟨⟨x0, x1, x2⟩, x3⟩ := HX.out w0 (Below.refl _ _)
  rw [HGC.out] at hw0 KC KR ⊢
  have HW0 := zzh hw0
  clear hw0 HG0 HT0 hg hd h
  go_enter Tryz.func64, Tryz.ntmps64
  go_upto_region 1 with fail
  rw [HW0.out]
  clear HW0
  go_wp2_with fail
  refine KC.out.mono ?_
  rintro e w1 ⟨r, rfl, hlen2, hb1⟩
  have HB1 := zzh hb1
  obtain ⟨⟨y0, y1, y2⟩, y3⟩ := HX.out w1 hb1
  clear hb1 hlen2 x0 x1 x2 x3 KC
  by_cases hr : r = 0
  rotate_left
  · have e1 : (r != 0) = true := bne_iff_ne.2 hr
    clear hr
    go_wp2
    go_ret
    exact TableIs.no (by decide) (HB0.out.trans (HB1.out.mono HB0.out.size))
  have e1 : (r != 0) = false := by rw [hr]; rfl
  clear hr
  go_wp2_with fail
  refine (KT.out _ HB1.out).mono ?_
  rintro e w2 ⟨rt, rfl, hrt, hb2⟩
  have HB2 := zzh (HB1.out.trans (hb2.mono HB1.out.size))
  have HRt := zzh hrt
  obtain ⟨⟨x0, x1, x2⟩, x3⟩ := HX.out w2 HB2.out
  clear hb2 hrt y0 y1 y2 y3
  cases rt with
  | false =>
    go_wp2
    go_ret
    exact TableIs.no (by decide) (HB0.out.trans (HB2.out.mono HB0.out.size))
  | true =>
    have HTOk : Hid (TabOk T) := zzh (HRt.out.1 rfl)
    go_wp2
    clear x0 x1 x2 x3
    go_loopg [5] T.length (fun g' v wr => ∃ i : Nat, i + g' = T.length ∧ v = .int .i64 i ∧ (∀ n ∈ T.take i, RuleOk g T n) ∧ Below w0.heap.size w0 wr)
    case atStart => exact ⟨0, by omega, rfl, fun n hn => (by rw [List.take_zero] at hn; cases hn), HB2.out⟩
    case round =>
      obtain ⟨i, hig, rfl, hall, hb⟩ := hrel
      have HB := zzh hb
      have HA := zzh hall
      obtain ⟨⟨x0, x1, x2⟩, x3⟩ := HX.out wr hb
      clear hb hall
      cases gk with
      | zero =>
        obtain rfl : i = T.length := by omega
        have d1 : decide ((T.length : Int) < T.length) = false := by simp
        go_wp2
        go_ret
        exact ⟨0, rfl, fun _ => ⟨HTOk.out, fun n hn => HA.out n (by rw [List.take_length]; exact hn)⟩, HB0.out.trans (HB.out.mono HB0.out.size)⟩
      | succ gk =>
        have hlt : i < T.length := by omega
        have d1 : decide ((i : Int) < T.length) = true := by simp; omega
        have t1 : (0 : Int) ≤ (i : Int) := by omega
        have t2 : (i : Int) < (T.length : Int) := by omega
        obtain ⟨b, off, hA, hbb, hcell⟩ := HTab.out.at_.resolve_left (by omega)
        have HD1 := zzh (HB.out.trans ((below_drewN (Below.refl wr.heap.size wr) 1).mono HB.out.size))
        have HNext : Hid (RuleOk g T T[i] → ∀ n ∈ T.take (i + 1), RuleOk g T n) := zzh (fun e n hn => by
          rw [List.take_add_one, List.getElem?_eq_getElem hlt] at hn
          rcases List.mem_append.1 hn with hn | hn
          · exact HA.out n hn
          · simp at hn
            rw [hn]
            exact e)
        have KX := zzh (KR.out wr.drew HD1.out HTOk.out T[i] (List.getElem_mem hlt))
        have hcs := (hcell i hlt).all
        have HFx : Hid (∀ W, Below w0.heap.size w0 W → ((W.cell? ⟨w.heap.size, 0, none⟩ = some (.slice g.A0 g.sorts.length g.c0) ∧ W.cell? ⟨w.heap.size, 1, none⟩ = some (.slice g.A1 g.funs.length g.c1) ∧ W.cell? ⟨w.heap.size, 2, none⟩ = some (.slice g.A2 g.macs.length g.c2)) ∧ W.cell? ⟨w.heap.size + 1, 0, none⟩ = some (.slice (some ⟨b, off, none⟩) T.length c)) ∧ W.cell? ⟨b, off + i * 8, none⟩ = some (.int .i8 T[i].op) ∧ W.cell? ⟨b, off + i * 8 + 1, none⟩ = some (.int .i8 T[i].len) ∧ W.cell? ⟨b, off + i * 8 + 2, none⟩ = some (.int .i64 T[i].a0) ∧ W.cell? ⟨b, off + i * 8 + 3, none⟩ = some (.int .i64 T[i].a1) ∧ W.cell? ⟨b, off + i * 8 + 4, none⟩ = some (.int .i64 T[i].a2) ∧ W.cell? ⟨b, off + i * 8 + 5, none⟩ = some (.int .i64 T[i].sort) ∧ W.cell? ⟨b, off + i * 8 + 6, none⟩ = some (.int .i64 T[i].fn) ∧ W.cell? ⟨b, off + i * 8 + 7, none⟩ = some (.int .i64 T[i].num)) := zzh (fun W hW => by
          obtain ⟨k0, k1, k2, k3, k4, k5, k6, k7⟩ := hcs
          exact ⟨by rw [← hA]; exact HX.out W hW, (hW.cell (p := ⟨b, off + i * 8, none⟩) hbb).trans k0, (hW.cell (p := ⟨b, off + i * 8 + 1, none⟩) hbb).trans k1, (hW.cell (p := ⟨b, off + i * 8 + 2, none⟩) hbb).trans k2, (hW.cell (p := ⟨b, off + i * 8 + 3, none⟩) hbb).trans k3, (hW.cell (p := ⟨b, off + i * 8 + 4, none⟩) hbb).trans k4, (hW.cell (p := ⟨b, off + i * 8 + 5, none⟩) hbb).trans k5, (hW.cell (p := ⟨b, off + i * 8 + 6, none⟩) hbb).trans k6, (hW.cell (p := ⟨b, off + i * 8 + 7, none⟩) hbb).trans k7⟩)
        subst hA
        unfold nodeVal nodeCells at KX
        generalize T[i] = n at *
        obtain ⟨⟨⟨x0, x1, x2⟩, x3⟩, k0, k1, k2, k3, k4, k5, k6, k7⟩ := HFx.out wr.drew HD1.out
        clear hcell hcs hbb
        go_upto_region 6 with fail
        go_region_held3 (fun w' => w'.cell? ⟨w.heap.size, 0, none⟩ = some (.slice g.A0 g.sorts.length g.c0) ∧ w'.cell? ⟨w.heap.size, 1, none⟩ = some (.slice g.A1 g.funs.length g.c1) ∧ w'.cell? ⟨w.heap.size, 2, none⟩ = some (.slice g.A2 g.macs.length g.c2) ∧ w'.cell? ⟨w.heap.size + 1, 0, none⟩ = some (.slice (some ⟨b, off, none⟩) T.length c) ∧ w'.cell? ⟨b, off + i * 8, none⟩ = some (.int .i8 n.op) ∧ w'.cell? ⟨b, off + i * 8 + 1, none⟩ = some (.int .i8 n.len) ∧ w'.cell? ⟨b, off + i * 8 + 2, none⟩ = some (.int .i64 n.a0) ∧ w'.cell? ⟨b, off + i * 8 + 3, none⟩ = some (.int .i64 n.a1) ∧ w'.cell? ⟨b, off + i * 8 + 4, none⟩ = some (.int .i64 n.a2) ∧ w'.cell? ⟨b, off + i * 8 + 5, none⟩ = some (.int .i64 n.sort) ∧ w'.cell? ⟨b, off + i * 8 + 6, none⟩ = some (.int .i64 n.fn) ∧ w'.cell? ⟨b, off + i * 8 + 7, none⟩ = some (.int .i64 n.num)) (go_keep) ((go_at_call 101; refine KX.out.mono ?_; rintro e w3 ⟨s, er, rfl, hs, hb3⟩; have HB3 := zzh (HD1.out.trans (hb3.mono HD1.out.size)); have HS := zzh hs; obtain ⟨⟨⟨y0, y1, y2⟩, y3⟩, z0, z1, z2, z3, z4, z5, z6, z7⟩ := HFx.out w3 HB3.out; clear hs hb3 x0 x1 x2 x3 k0 k1 k2 k3 k4 k5 k6 k7))
        by_cases he : er = 0
        rotate_left
        · have e2 : (er != 0) = true := bne_iff_ne.2 he
          clear he
          go_wp2
          go_ret
          exact TableIs.no (by decide) (HB0.out.trans (HB3.out.mono HB0.out.size))
        have e2 : (er != 0) = false := by rw [he]; rfl
        have HE := zzh (HS.out he)
        clear he
        by_cases hs : s = n.sort
        rotate_left
        · have e3 : (s != n.sort) = true := bne_iff_ne.2 hs
          clear hs
          go_wp2
          go_ret
          exact TableIs.no (by decide) (HB0.out.trans (HB3.out.mono HB0.out.size))
        have e3 : (s != n.sort) = false := by rw [hs]; simp
        have HN := zzh (HNext.out (by have h := HE.out; rw [hs] at h; exact h))
        clear hs
        go_wp2
        go_roundg gk
        case measure => omega
        case rel => exact ⟨i + 1, by omega, by go_num, HN.out, HB3.out⟩
end Go.Proofs.YtlipnnibagidiaaGreat

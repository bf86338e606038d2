/- Check, loosely. -/
import Derived.Test.YtkapbdjobfbhhaaGreatVlH
import Derived.Deep.RegionHeldLaw
import Derived.Deep.RegionHeld3
import Derived.Deep.RegionLaw
namespace Go.Proofs.YtkapbdjobfbhhaaGreat
open Go.RowKit Go.Lib
theorem SayN.no {n : Int} {P : Prop} (h : SayN n P) (hn : n ≠ 0) : ¬ P := fun p => hn (h.iff.2 p)
theorem SayN.ok {n : Int} {P : Prop} (h : SayN n P) (hn : n = 0) : P := h.iff.1 hn
theorem YesI.cg {P Q : Prop} {w : World} (h : Q ↔ P) (e : Ending) (w' : World) : YesI P w e w' → YesI Q w e w' := fun ⟨n, h1, h2, h3⟩ => ⟨n, h1, ⟨h2.iff.trans h.symm⟩, h3⟩
theorem YesB.cg {P Q : Prop} {w : World} (h : Q ↔ P) (e : Ending) (w' : World) : YesB P w e w' → YesB Q w e w' := fun ⟨n, h1, h2, h3⟩ => ⟨n, h1, ⟨h2.iff.trans h.symm⟩, h3⟩
def SigX (w : World) (g : SigV) (qs : Nat → Bool) (sf : Nat → Nat → ByteArray) (zf : Nat → Nat → Int) : Prop := ∀ i (h : i < g.macs.length), MacX w g.macs[i] (qs i) (sf i) (zf i)
theorem SigX.below {w w' : World} {g : SigV} {qs : Nat → Bool} {sf : Nat → Nat → ByteArray} {zf : Nat → Nat → Int} (h : SigX w g qs sf zf) (hb : Below w.heap.size w w') : SigX w' g qs sf zf := fun i hi => (h i hi).below hb
theorem SigDeep.x {w : World} {g : SigV} (h : SigDeep w g) : ∃ qs sf zf, SigX w g qs sf zf := by
  have h1 : ∀ i, ∃ p : Bool × (Nat → ByteArray) × (Nat → Int), ∀ h : i < g.macs.length, MacX w g.macs[i] p.1 p.2.1 p.2.2 := fun i => by
    by_cases hi : i < g.macs.length
    · obtain ⟨q, s, z, h2⟩ := (h _ (List.getElem_mem hi)).x
      exact ⟨(q, s, z), fun _ => h2⟩
    · exact ⟨(false, fun _ => ByteArray.empty, fun _ => 0), fun h => absurd h hi⟩
  exact ⟨fun i => (Classical.choose (h1 i)).1, fun i => (Classical.choose (h1 i)).2.1, fun i => (Classical.choose (h1 i)).2.2, fun i hi => Classical.choose_spec (h1 i) hi⟩
structure CkP (g : SigV) (qs : Nat → Bool) (sf : Nat → Nat → ByteArray) (zf : Nat → Nat → Int) : Prop where
  n0 : g.sorts.length ≤ 4
  n1 : g.funs.length ≤ 12
  n2 : g.macs.length ≤ 12
  s : ∀ i (_ : i < g.sorts.length), FreeP (g.sorts.take i) (g.funs.take 0) (g.macs.take 0) g.sorts[i] true
  f : ∀ i (_ : i < g.funs.length), FreeP (g.sorts.take g.sorts.length) (g.funs.take i) (g.macs.take 0) g.funs[i].nm false ∧ FunP (g.sorts.take g.sorts.length).length g.funs[i]
  m : ∀ i (_ : i < g.macs.length), FreeP (g.sorts.take g.sorts.length) (g.funs.take g.funs.length) (g.macs.take i) g.macs[i].nm false ∧ MacP (g.sorts.take g.sorts.length).length g.macs[i] (qs i) (sf i) (zf i)
theorem some_law {n : Nat} (Q : ∀ i, i < n → Prop) : ∃ P : Nat → Prop, ∀ i (h : i < n), P i ↔ Q i h := ⟨fun i => ∀ h, Q i h, fun _ h => ⟨fun k => k h, fun k _ => k⟩⟩
set_option maxRecDepth 100000 in
set_option maxHeartbeats 8000000 in
theorem xcheck_ok {w : World} {g : SigV} {qs : Nat → Bool} {sf : Nat → Nat → ByteArray} {zf : Nat → Nat → Int} (h : SigAt w g) (hd : SigX w g qs sf zf) : Calls Tryz.prog 32 #[.agg g.cells] w (YesI (CkP g qs sf zf) w) := by
  obtain ⟨i0, hi0, hz0, hz1, hz2⟩ := info_parts str_info
  obtain ⟨i1, ji0, jz0, jz1, jz2⟩ := info_parts fun_info
  obtain ⟨i2, ki0, kz0, kz1, kz2⟩ := info_parts mac_info
  have HB0 := Lib.hid (sig_box w g)
  have HG0 := Lib.hid (Blk.new w 26 g.cells)
  have HWf := Lib.hid h.wf
  have H := Lib.hid (h.below HB0.out)
  have HD := Lib.hid (hd.below HB0.out)
  obtain ⟨x0, x1, x2⟩ := sig_blk HG0.out
  have HGC : Hid (g.cells = #[.slice g.A0 g.sorts.length g.c0, .slice g.A1 g.funs.length g.c1, .slice g.A2 g.macs.length g.c2]) := Lib.hid rfl
  clear h hd
  rw [HGC.out] at HB0 HG0 H HD x0 x1 x2 ⊢
  obtain ⟨Q0, hQ0⟩ := some_law (n := g.sorts.length) (fun i _ => FreeP (g.sorts.take i) (g.funs.take 0) (g.macs.take 0) g.sorts[i] true)
  obtain ⟨Q1, hQ1⟩ := some_law (n := g.funs.length) (fun i _ => FreeP (g.sorts.take g.sorts.length) (g.funs.take i) (g.macs.take 0) g.funs[i].nm false)
  obtain ⟨R1, hR1⟩ := some_law (n := g.funs.length) (fun i _ => FunP (g.sorts.take g.sorts.length).length g.funs[i])
  obtain ⟨Q2, hQ2⟩ := some_law (n := g.macs.length) (fun i _ => FreeP (g.sorts.take g.sorts.length) (g.funs.take g.funs.length) (g.macs.take i) g.macs[i].nm false)
  obtain ⟨R2, hR2⟩ := some_law (n := g.macs.length) (fun i _ => MacP (g.sorts.take g.sorts.length).length g.macs[i] (qs i) (sf i) (zf i))
  obtain ⟨Pz, hP⟩ : ∃ Pz, CkP g qs sf zf = Pz := ⟨_, rfl⟩
  have HIff : Hid (Pz ↔ (g.sorts.length ≤ 4 ∧ g.funs.length ≤ 12 ∧ g.macs.length ≤ 12) ∧ (∀ i, i < g.sorts.length → Q0 i) ∧ (∀ i, i < g.funs.length → Q1 i ∧ R1 i) ∧ ∀ i, i < g.macs.length → Q2 i ∧ R2 i) := Lib.hid (by
    rw [← hP]
    exact ⟨fun h => ⟨⟨h.n0, h.n1, h.n2⟩, fun i hi => (hQ0 i hi).2 (h.s i hi), fun i hi => ⟨(hQ1 i hi).2 (h.f i hi).1, (hR1 i hi).2 (h.f i hi).2⟩, fun i hi => ⟨(hQ2 i hi).2 (h.m i hi).1, (hR2 i hi).2 (h.m i hi).2⟩⟩,
      fun h => ⟨h.1.1, h.1.2.1, h.1.2.2, fun i hi => (hQ0 i hi).1 (h.2.1 i hi), fun i hi => ⟨(hQ1 i hi).1 (h.2.2.1 i hi).1, (hR1 i hi).1 (h.2.2.1 i hi).2⟩, fun i hi => ⟨(hQ2 i hi).1 (h.2.2.2 i hi).1, (hR2 i hi).1 (h.2.2.2 i hi).2⟩⟩⟩)
  rw [hP]
  have HQ0 := Lib.hid hQ0
  have HQ1 := Lib.hid hQ1
  have HR1 := Lib.hid hR1
  have HQ2 := Lib.hid hQ2
  have HR2 := Lib.hid hR2
  clear hP hQ0 hQ1 hR1 hQ2 hR2
  obtain ⟨n0, hn0⟩ : ∃ n, g.sorts.length = n := ⟨_, rfl⟩
  obtain ⟨n1, hn1⟩ : ∃ n, g.funs.length = n := ⟨_, rfl⟩
  obtain ⟨n2, hn2⟩ : ∃ n, g.macs.length = n := ⟨_, rfl⟩
  have HN0 := Lib.hid hn0
  have HN1 := Lib.hid hn1
  have HN2 := Lib.hid hn2
  rw [hn0, hn1, hn2] at HB0 HG0 H HD x0 x1 x2 HIff ⊢
  rw [hn0] at HQ1 HR1 HQ2 HR2
  rw [hn1] at HQ2
  clear hn0 hn1 hn2
  go_enter Tryz.func32, Tryz.ntmps32
  go_upto_region 1 with fail
  generalize w.alloc (.cells #[.slice g.A0 n0 g.c0, .slice g.A1 n1 g.c1, .slice g.A2 n2 g.c2] 26) = w0 at *
  by_cases h0 : 4 < n0
  · have d0 : decide ((n0 : Int) > 4) = true := decide_eq_true (by omega)
    have d0' : decide ((4 : Int) < (n0 : Int)) = true := decide_eq_true (by omega)
    have HE : Hid (¬ Pz) := Lib.hid (fun h => by have := (HIff.out.1 h).1; omega)
    clear h0
    go_wp2
    go_ret
    exact YesI.no (by decide) HE.out HB0.out
  have d0 : decide ((n0 : Int) > 4) = false := decide_eq_false (by omega)
  have d0' : decide ((4 : Int) < (n0 : Int)) = false := decide_eq_false (by omega)
  by_cases h1 : 12 < n1
  · have d1 : decide ((n1 : Int) > 12) = true := decide_eq_true (by omega)
    have d1' : decide ((12 : Int) < (n1 : Int)) = true := decide_eq_true (by omega)
    have HE : Hid (¬ Pz) := Lib.hid (fun h => by have := (HIff.out.1 h).1; omega)
    clear h1 h0
    go_wp2
    go_ret
    exact YesI.no (by decide) HE.out HB0.out
  have d1 : decide ((n1 : Int) > 12) = false := decide_eq_false (by omega)
  have d1' : decide ((12 : Int) < (n1 : Int)) = false := decide_eq_false (by omega)
  by_cases h2 : 12 < n2
  · have d2 : decide ((n2 : Int) > 12) = true := decide_eq_true (by omega)
    have d2' : decide ((12 : Int) < (n2 : Int)) = true := decide_eq_true (by omega)
    have HE : Hid (¬ Pz) := Lib.hid (fun h => by have := (HIff.out.1 h).1; omega)
    clear h2 h0 h1
    go_wp2
    go_ret
    exact YesI.no (by decide) HE.out HB0.out
  have d2 : decide ((n2 : Int) > 12) = false := decide_eq_false (by omega)
  have d2' : decide ((12 : Int) < (n2 : Int)) = false := decide_eq_false (by omega)
  have HL : Hid (g.sorts.length ≤ 4 ∧ g.funs.length ≤ 12 ∧ g.macs.length ≤ 12) := Lib.hid (by rw [HN0.out, HN1.out, HN2.out]; omega)
  have hl0 : n0 ≤ 4 := by omega
  have hl1 : n1 ≤ 12 := by omega
  have hl2 : n2 ≤ 12 := by omega
  have HX : Hid (∀ W, Below w0.heap.size w0 W → W.cell? ⟨w.heap.size, 0, none⟩ = some (.slice g.A0 n0 g.c0) ∧ W.cell? ⟨w.heap.size, 1, none⟩ = some (.slice g.A1 n1 g.c1) ∧ W.cell? ⟨w.heap.size, 2, none⟩ = some (.slice g.A2 n2 g.c2)) := Lib.hid (fun W hW => by
    have h1 := HG0.out.below hW HG0.out.lt
    exact ⟨h1.cell 0, h1.cell 1, h1.cell 2⟩)
  obtain ⟨ob, hob⟩ : ∃ ob, w0.heap.size = ob := ⟨_, rfl⟩
  obtain ⟨w1, hw1⟩ : ∃ w1, w0.alloc (.cells #[.slice none 0 0, .slice none 0 0, .slice none 0 0] 26) = w1 := ⟨_, rfl⟩
  have HC1 : Hid (CkI w0 ob 0 0 0 g (.slice none 0 0) (.slice none 0 0) (.slice none 0 0) w1) := Lib.hid (by
    rw [← hw1, ← hob]
    exact ⟨Blk.new _ _ _, World.ownsRow_nil _ _ _ _, World.ownsRow_nil _ _ _ _, World.ownsRow_nil _ _ _ _, (Below.refl _ w0).alloc (Nat.le_refl _) _, Nat.le_refl _, Nat.zero_le _, Nat.zero_le _, Nat.zero_le _⟩)
  have HW1 := Lib.hid hw1
  have HOB := Lib.hid hob
  clear hw1 hob d0 d0' d1 d1' d2 d2' h0 h1 h2
  go_upto_region 4 with fail
  rw [HW1.out, HOB.out]
  clear HW1 HOB HG0 x0 x1 x2
  go_wp2
  go_loopg [4] n0 (fun gg v wr => ∃ i : Nat, i + gg = n0 ∧ v = .int .i64 i ∧ (∀ j, j < i → Q0 j) ∧ ∃ v0, CkI w0 ob i 0 0 g v0 (.slice none 0 0) (.slice none 0 0) wr)
  case atStart => exact ⟨0, by omega, rfl, fun j h => absurd h (Nat.not_lt_zero j), _, HC1.out⟩
  case round =>
    obtain ⟨i, hig, rfl, hinv, v0, hc⟩ := hrel
    have HC := Lib.hid hc
    have HI0 := Lib.hid hinv
    clear hinv
    obtain ⟨x0, x1, x2⟩ := HX.out wr hc.bel
    clear hc
    cases gk with
    | succ gk =>
      have hlt : i < n0 := by omega
      have d1 : decide ((i : Int) < (n0 : Int)) = true := decide_eq_true (by omega)
      have t1 : (0 : Int) ≤ (i : Int) := by omega
      have t2 : (i : Int) < (n0 : Int) := by omega
      have hls : i < g.sorts.length := by rw [HN0.out]; exact hlt
      obtain ⟨b, off, hA, hb, hcell⟩ := H.out.s i hls
      obtain ⟨A0, c0, A1, c1, A2, c2, hv0, hv1, hv2, hsig, hcells⟩ := HC.out.sig HWf.out HL.out
      have KF := Lib.hid (fun W (hW : Below wr.heap.size wr W) => (xfree_ok (hsig.below hW) g.sorts[i] true).mono (YesI.cg (HQ0.out i hls)))
      rw [hcells, hv0] at KF
      rw [hv0] at HC
      have HFx : Hid (∀ W, Below wr.heap.size wr W → W.cell? ⟨w.heap.size, 0, none⟩ = some (.slice g.A0 n0 g.c0) ∧ W.cell? ⟨b, off + i, none⟩ = some (.string g.sorts[i]) ∧ W.cell? ⟨ob, 0, none⟩ = some (.slice A0 i c0) ∧ W.cell? ⟨ob, 1, none⟩ = some (.slice none 0 0) ∧ W.cell? ⟨ob, 2, none⟩ = some (.slice none 0 0)) := Lib.hid (fun W hW => by
        have h2 := HC.out.blk.below hW HC.out.blk.lt
        have h3 := HC.out.bel.trans (hW.mono HC.out.bel.size)
        exact ⟨(HX.out W h3).1, (h3.cell (p := ⟨b, off + i, none⟩) hb).trans hcell, h2.cell 0, h2.cell 1, h2.cell 2⟩)
      have HPush := Lib.hid (fun (W W3 : World) (o : Obj) v (hW : Below wr.heap.size wr W) (hg : (W.alloc o).grownBy W3 (Value.slice A0 i c0).ownBlock) (ho : W3.ownsRow (ob + 1) 9 1 v (i + 1) ((g.sorts.take i).flatMap strCells ++ strCells g.sorts[i])) => (HC.out.below hW).push0 hls hg ho)
      have HO := Lib.hid (fun (W : World) (hW : Below wr.heap.size wr W) => (HC.out.below hW).o0)
      have HSz := Lib.hid HC.out.blk.lt
      unfold strCells at HPush
      generalize g.sorts[i] = s at *
      have HA := Lib.hid hA
      have HD1 := Lib.hid (below_drewN (Below.refl wr.heap.size wr) 1)
      rw [hA] at HFx
      clear hcell hsig hcells hv0 hv1 hv2 hb x1 x2
      rw [hA] at x0
      clear hA
      obtain ⟨y0, y1, y2, y3, y4⟩ := HFx.out wr.drew HD1.out
      have KF1 := Lib.hid (KF.out _ HD1.out)
      go_upto_region 7 with fail
      go_region_held3 (fun w' => w'.cell? ⟨w.heap.size, 0, none⟩ = some (.slice (some ⟨b, off, none⟩) n0 g.c0) ∧ w'.cell? ⟨b, off + i, none⟩ = some (.string s) ∧ w'.cell? ⟨ob, 0, none⟩ = some (.slice A0 i c0) ∧ w'.cell? ⟨ob, 1, none⟩ = some (.slice none 0 0) ∧ w'.cell? ⟨ob, 2, none⟩ = some (.slice none 0 0)) (go_keep) ((go_at_call 60; refine KF1.out.mono ?_; rintro e w3 ⟨r, rfl, hr3, hb3⟩; have HRr := Lib.hid hr3; clear hr3; have HB3 := Lib.hid (HD1.out.trans (hb3.mono HD1.out.size)); obtain ⟨z0, z1, z2, z3, z4⟩ := HFx.out w3 HB3.out; clear hb3 y0 y1 y2 y3 y4 x0))
      by_cases hr : r = 0
      rotate_left
      · have e1 : (r != 0) = true := bne_iff_ne.2 hr
        have HE : Hid (¬ Pz) := Lib.hid (fun h => HRr.out.no hr ((HIff.out.1 h).2.1 i hlt))
        clear hr
        go_wp2
        go_ret
        exact YesI.no (by decide) HE.out (HB0.out.trans ((HC.out.bel.trans (HB3.out.mono HC.out.bel.size)).mono HB0.out.size))
      · have e1 : (r != 0) = false := by rw [hr]; rfl
        have HOk := Lib.hid (HRr.out.ok hr)
        clear hr
        have HD3 := Lib.hid (HB3.out.trans ((below_drewN (Below.refl w3.heap.size w3) 1).mono HB3.out.size))
        obtain ⟨y0, y1, y2, _, _⟩ := HFx.out (w3.alloc (.cells #[.string s] 9)) (HB3.out.alloc HB3.out.size _)
        have HSz3 : Hid (ob < w3.drew.heap.size) := Lib.hid (Nat.lt_of_lt_of_le HSz.out HD3.out.size)
        have HK3 := Lib.hid ((HC.out.below HD3.out).blk)
        clear z3 z4
        go_upto_region 9 with fail
        go_region_law (refine step_push _ rfl (.tmp 40) (.tmp 46) 22 rfl (ob + 1) 9 i0 (.string { data := #[] }) 1 16 Tryz.underlying22 hi0 hz0 hz1 hz2 rfl (by decide) (.slice A0 i c0) i ((g.sorts.take i).flatMap strCells) rfl (own_kept (HO.out _ HD3.out) ((Kept.refl (fun _ => False) w3.drew).alloc _) (fun _ _ e => e)) w3.heap.size #[.string s] rfl (Blk.new _ _ _) rfl (by simp [Value.oneCell']) (by omega) (by omega) HSz3.out (fun g3 cap3 w5 hown hgrow hat hlt1 => ?_); have HO5 := Lib.hid hown; have HG5 := Lib.hid hgrow; have hb5 := (HK3.out.alloc (.cells #[.string s] 9)).grown hgrow (fun e => by have := ((HO.out _ HD3.out).lt ob e.symm).1; omega); have q2 : w5.cell? ⟨ob, 0, none⟩ = some (.slice A0 i c0) := hb5.cell 0; have q3 := hb5.frozen 0; clear hown hgrow hat hlt1 hb5)
        all_goals
          have HP := Lib.hid (HPush.out _ _ _ _ HD3.out HG5.out HO5.out)
          go_wp2
          go_roundg gk
          case measure => omega
          case rel => exact ⟨i + 1, by omega, by go_num, fun j h => by
            rcases Nat.lt_or_ge j i with h' | h'
            · exact HI0.out j h'
            · obtain rfl : j = i := by omega
              exact HOk.out, _, HP.out⟩
    | zero =>
      obtain rfl : n0 = i := by omega
      have d1 : decide ((n0 : Int) < (n0 : Int)) = false := by simp
      obtain ⟨B0, dd0, hvB⟩ := own_slice HC.out.o0
      subst hvB
      go_wp2
      go_loopg [5] n1 (fun gg v wr => ∃ i : Nat, i + gg = n1 ∧ v = .int .i64 i ∧ (∀ j, j < i → Q1 j ∧ R1 j) ∧ ∃ vq, CkI w0 ob n0 i 0 g (.slice B0 n0 dd0) vq (.slice none 0 0) wr)
      case atStart => exact ⟨0, by omega, rfl, fun j h => absurd h (Nat.not_lt_zero j), _, HC.out⟩
      case round =>
        obtain ⟨i, hig, rfl, hinv, vq, hc⟩ := hrel
        have HI1 := Lib.hid hinv
        clear HC hinv
        have HC := Lib.hid hc
        obtain ⟨x0, x1, x2⟩ := HX.out wr hc.bel
        clear hc
        cases gk with
        | succ gk =>
          have hlt : i < n1 := by omega
          have d1 : decide ((i : Int) < (n1 : Int)) = true := decide_eq_true (by omega)
          have t1 : (0 : Int) ≤ (i : Int) := by omega
          have t2 : (i : Int) < (n1 : Int) := by omega
          have hls : i < g.funs.length := by rw [HN1.out]; exact hlt
          obtain ⟨b, off, hA, hb, hcell⟩ := H.out.f i hls
          obtain ⟨_, _, A1, c1, A2, c2, _, hv1, hv2, hsig, hcells⟩ := HC.out.sig HWf.out HL.out
          have KF := Lib.hid (fun W (hW : Below wr.heap.size wr W) => (xfree_ok (hsig.below hW) g.funs[i].nm false).mono (YesI.cg (HQ1.out i hls)))
          have KG := Lib.hid (fun W (hW : Below wr.heap.size wr W) => (xfunOk_ok (hsig.below hW) (HWf.out.f _ (List.getElem_mem hls))).mono (YesB.cg (HR1.out i hls)))
          rw [hcells, hv1] at KF KG
          rw [hv1] at HC
          have HFx : Hid (∀ W, Below wr.heap.size wr W → W.cell? ⟨w.heap.size, 1, none⟩ = some (.slice g.A1 n1 g.c1) ∧ W.cell? ⟨b, off + i * 6, none⟩ = some (.string g.funs[i].nm) ∧ W.cell? ⟨b, off + i * 6 + 1, none⟩ = some (.int .i64 g.funs[i].len) ∧ W.cell? ⟨b, off + i * 6 + 2, none⟩ = some (.int .i64 g.funs[i].a0) ∧ W.cell? ⟨b, off + i * 6 + 3, none⟩ = some (.int .i64 g.funs[i].a1) ∧ W.cell? ⟨b, off + i * 6 + 4, none⟩ = some (.int .i64 g.funs[i].a2) ∧ W.cell? ⟨b, off + i * 6 + 5, none⟩ = some (.int .i64 g.funs[i].res) ∧ W.cell? ⟨ob, 0, none⟩ = some (.slice B0 n0 dd0) ∧ W.cell? ⟨ob, 1, none⟩ = some (.slice A1 i c1) ∧ W.cell? ⟨ob, 2, none⟩ = some (.slice none 0 0)) := Lib.hid (fun W hW => by
            have h2 := HC.out.blk.below hW HC.out.blk.lt
            have h3 := HC.out.bel.trans (hW.mono HC.out.bel.size)
            have h4 := hcell.below h3 hb
            obtain ⟨_, e1, e2⟩ := HX.out W h3
            exact ⟨e1, h4.c0, h4.c1, h4.c2, h4.c3, h4.c4, h4.c5, h2.cell 0, h2.cell 1, h2.cell 2⟩)
          have HPush := Lib.hid (fun (W W3 : World) (o : Obj) v (hW : Below wr.heap.size wr W) (hg : (W.alloc o).grownBy W3 (.slice A1 i c1 : Value).ownBlock) (ho : W3.ownsRow (ob + 1) 83 6 v (i + 1) ((g.funs.take i).flatMap FnM.cells ++ g.funs[i].cells)) => (HC.out.below hW).push1 hls hg ho)
          have HO := Lib.hid (fun (W : World) (hW : Below wr.heap.size wr W) => (HC.out.below hW).o1)
          have HKb := Lib.hid (fun (W : World) (hW : Below wr.heap.size wr W) => (HC.out.below hW).blk)
          have HSz := Lib.hid HC.out.blk.lt
          generalize g.funs[i] = m at *
          obtain ⟨nm, len, a0, a1, a2, res⟩ := m
          unfold FnM.agg at KG
          simp only at KF KG HFx HPush hA
          rw [hA] at HFx
          have HD1 := Lib.hid (below_drewN (Below.refl wr.heap.size wr) 1)
          clear hcell hsig hcells hv1 hv2 hb x0 x2
          rw [hA] at x1
          clear hA
          obtain ⟨y0, y1, y2, y3, y4, y5, y6, y7, y8, y9⟩ := HFx.out wr.drew HD1.out
          have KF1 := Lib.hid (KF.out _ HD1.out)
          go_upto_region 13 with fail
          refine wp_region_held_drew (S := (fun w' => w'.cell? ⟨w.heap.size, 1, none⟩ = some (.slice (some ⟨b, off, none⟩) n1 g.c1) ∧ w'.cell? ⟨b, off + i * 6, none⟩ = some (.string nm) ∧ w'.cell? ⟨b, off + i * 6 + 1, none⟩ = some (.int .i64 len) ∧ w'.cell? ⟨b, off + i * 6 + 2, none⟩ = some (.int .i64 a0) ∧ w'.cell? ⟨b, off + i * 6 + 3, none⟩ = some (.int .i64 a1) ∧ w'.cell? ⟨b, off + i * 6 + 4, none⟩ = some (.int .i64 a2) ∧ w'.cell? ⟨b, off + i * 6 + 5, none⟩ = some (.int .i64 res) ∧ w'.cell? ⟨ob, 0, none⟩ = some (.slice B0 n0 dd0) ∧ w'.cell? ⟨ob, 1, none⟩ = some (.slice A1 i c1) ∧ w'.cell? ⟨ob, 2, none⟩ = some (.slice none 0 0))) (by kernel_rfl) ?_ (fun hHeld => ?_)
          · go_keep
          refine wpAnyH_take (i := 0) (v := ?_) rfl (by kernel_rfl) (by kernel_rfl) (by kernel_rfl) (fun _ _ _ h => h) (Or.inl ⟨by kernel_rfl, ?_⟩) (by assumption) ?_
          rotate_left
          · intro wS hSw
            try dsimp only at hSw
            go_simp
            first | done | with_reducible rfl
          try simp only [Act.put, List.getElem_toArray, List.getElem_cons_zero, List.getElem_cons_succ, List.setIfInBounds_toArray, List.set_cons_zero, List.set_cons_succ]
          refine wpAnyH_take (i := 1) (v := ?_) rfl (by kernel_rfl) (by kernel_rfl) (by kernel_rfl) (fun _ _ _ h => h) (Or.inl ⟨by kernel_rfl, ?_⟩) (by assumption) ?_
          rotate_left
          · intro wS hSw
            try dsimp only at hSw
            go_simp
            first | done | with_reducible rfl
          try simp only [Act.put, List.getElem_toArray, List.getElem_cons_zero, List.getElem_cons_succ, List.setIfInBounds_toArray, List.set_cons_zero, List.set_cons_succ]
          refine wpAnyH_take (i := 2) (v := ?_) rfl (by kernel_rfl) (by kernel_rfl) (by kernel_rfl) (fun _ _ _ h => h) (Or.inl ⟨by kernel_rfl, ?_⟩) (by assumption) ?_
          rotate_left
          · intro wS hSw
            try dsimp only at hSw
            go_simp
            first | done | with_reducible rfl
          try simp only [Act.put, List.getElem_toArray, List.getElem_cons_zero, List.getElem_cons_succ, List.setIfInBounds_toArray, List.set_cons_zero, List.set_cons_succ]
          refine wpAnyH_take (i := 3) (v := ?_) rfl (by kernel_rfl) (by kernel_rfl) (by kernel_rfl) (fun _ _ _ h => h) (Or.inl ⟨by kernel_rfl, ?_⟩) (by assumption) ?_
          rotate_left
          · intro wS hSw
            try dsimp only at hSw
            go_simp
            first | done | with_reducible rfl
          try simp only [Act.put, List.getElem_toArray, List.getElem_cons_zero, List.getElem_cons_succ, List.setIfInBounds_toArray, List.set_cons_zero, List.set_cons_succ]
          refine wpAnyH_take (i := 4) (v := ?_) rfl (by kernel_rfl) (by kernel_rfl) (by kernel_rfl) (fun _ _ _ h => h) (Or.inl ⟨by kernel_rfl, ?_⟩) (by assumption) ?_
          rotate_left
          · intro wS hSw
            try dsimp only at hSw
            go_simp
            first | done | with_reducible rfl
          try simp only [Act.put, List.getElem_toArray, List.getElem_cons_zero, List.getElem_cons_succ, List.setIfInBounds_toArray, List.set_cons_zero, List.set_cons_succ]
          refine wpAnyH_take (i := 5) (v := ?_) rfl (by kernel_rfl) (by kernel_rfl) (by kernel_rfl) (fun _ _ _ h => h) (Or.inl ⟨by kernel_rfl, ?_⟩) (by assumption) ?_
          rotate_left
          · intro wS hSw
            try dsimp only at hSw
            go_simp
            first | done | with_reducible rfl
          try simp only [Act.put, List.getElem_toArray, List.getElem_cons_zero, List.getElem_cons_succ, List.setIfInBounds_toArray, List.set_cons_zero, List.set_cons_succ]
          refine wpAnyH_take (i := 6) (v := ?_) rfl (by kernel_rfl) (by kernel_rfl) (by kernel_rfl) (fun _ _ _ h => h) (Or.inl ⟨by kernel_rfl, ?_⟩) (by assumption) ?_
          rotate_left
          · intro wS hSw
            try dsimp only at hSw
            go_simp
            first | done | with_reducible rfl
          try simp only [Act.put, List.getElem_toArray, List.getElem_cons_zero, List.getElem_cons_succ, List.setIfInBounds_toArray, List.set_cons_zero, List.set_cons_succ]
          refine wpAnyH_ready (rs := [7]) (by kernel_rfl) (by simp) ?_
          refine AllReadyH.cons rfl (fun K hK => ?_) AllReadyH.nil
          go_simp
          refine KF1.out.mono ?_
          rintro e w3 ⟨r, rfl, hr3, hb3⟩
          have HRr := Lib.hid hr3
          clear hr3
          have HB3 := Lib.hid (HD1.out.trans (hb3.mono HD1.out.size))
          obtain ⟨z0, z1, z2, z3, z4, z5, z6, z7, z8, z9⟩ := HFx.out w3 HB3.out
          clear hb3 y0 y1 y2 y3 y4 y5 y6 y7 y8 y9
          refine hK.out _ _ ?_ (fun hHeld => ?_)
          · go_keep
          clear hK K
          try simp only [Act.put, List.getElem_toArray, List.getElem_cons_zero, List.getElem_cons_succ, List.setIfInBounds_toArray, List.set_cons_zero, List.set_cons_succ]
          by_cases hr : r = 0
          rotate_left
          · have e1 : (r != 0) = true := bne_iff_ne.2 hr
            have HE : Hid (¬ Pz) := Lib.hid (fun h => HRr.out.no hr ((HIff.out.1 h).2.2.1 i hlt).1)
            clear hr
            refine wpAnyH_take (i := 8) (v := ?_) rfl (by kernel_rfl) (by kernel_rfl) (by kernel_rfl) (fun _ _ _ h => h) (Or.inl ⟨by kernel_rfl, ?_⟩) (by assumption) ?_
            rotate_left
            · intro wS hSw
              try dsimp only at hSw
              go_simp
              first | done | with_reducible rfl
            try simp only [Act.put, List.getElem_toArray, List.getElem_cons_zero, List.getElem_cons_succ, List.setIfInBounds_toArray, List.set_cons_zero, List.set_cons_succ]
            refine wpAnyH_take (i := 9) (v := ?_) rfl (by kernel_rfl) (by kernel_rfl) (by kernel_rfl) (fun _ _ _ h => h) (Or.inl ⟨by kernel_rfl, ?_⟩) (by assumption) ?_
            rotate_left
            · intro wS hSw
              try dsimp only at hSw
              go_simp
              first | done | with_reducible rfl
            try simp only [Act.put, List.getElem_toArray, List.getElem_cons_zero, List.getElem_cons_succ, List.setIfInBounds_toArray, List.set_cons_zero, List.set_cons_succ]
            refine wpAnyH_take (i := 10) (v := undef) rfl (by kernel_rfl) (by kernel_rfl) (by kernel_rfl) (fun _ _ _ h => h) (Or.inr ⟨by kernel_rfl, rfl⟩) (by assumption) ?_
            try simp only [Act.put, List.getElem_toArray, List.getElem_cons_zero, List.getElem_cons_succ, List.setIfInBounds_toArray, List.set_cons_zero, List.set_cons_succ]
            refine wpAnyH_take (i := 11) (v := undef) rfl (by kernel_rfl) (by kernel_rfl) (by kernel_rfl) (fun _ _ _ h => h) (Or.inr ⟨by kernel_rfl, rfl⟩) (by assumption) ?_
            try simp only [Act.put, List.getElem_toArray, List.getElem_cons_zero, List.getElem_cons_succ, List.setIfInBounds_toArray, List.set_cons_zero, List.set_cons_succ]
            refine wpAnyH_take (i := 12) (v := undef) rfl (by kernel_rfl) (by kernel_rfl) (by kernel_rfl) (fun _ _ _ h => h) (Or.inr ⟨by kernel_rfl, rfl⟩) (by assumption) ?_
            try simp only [Act.put, List.getElem_toArray, List.getElem_cons_zero, List.getElem_cons_succ, List.setIfInBounds_toArray, List.set_cons_zero, List.set_cons_succ]
            refine wpAnyH_take (i := 13) (v := undef) rfl (by kernel_rfl) (by kernel_rfl) (by kernel_rfl) (fun _ _ _ h => h) (Or.inr ⟨by kernel_rfl, rfl⟩) (by assumption) ?_
            try simp only [Act.put, List.getElem_toArray, List.getElem_cons_zero, List.getElem_cons_succ, List.setIfInBounds_toArray, List.set_cons_zero, List.set_cons_succ]
            refine wpAnyH_take (i := 14) (v := undef) rfl (by kernel_rfl) (by kernel_rfl) (by kernel_rfl) (fun _ _ _ h => h) (Or.inr ⟨by kernel_rfl, rfl⟩) (by assumption) ?_
            try simp only [Act.put, List.getElem_toArray, List.getElem_cons_zero, List.getElem_cons_succ, List.setIfInBounds_toArray, List.set_cons_zero, List.set_cons_succ]
            refine wpAnyH_take (i := 15) (v := undef) rfl (by kernel_rfl) (by kernel_rfl) (by kernel_rfl) (fun _ _ _ h => h) (Or.inr ⟨by kernel_rfl, rfl⟩) (by assumption) ?_
            try simp only [Act.put, List.getElem_toArray, List.getElem_cons_zero, List.getElem_cons_succ, List.setIfInBounds_toArray, List.set_cons_zero, List.set_cons_succ]
            refine wpAnyH_take (i := 16) (v := undef) rfl (by kernel_rfl) (by kernel_rfl) (by kernel_rfl) (fun _ _ _ h => h) (Or.inr ⟨by kernel_rfl, rfl⟩) (by assumption) ?_
            try simp only [Act.put, List.getElem_toArray, List.getElem_cons_zero, List.getElem_cons_succ, List.setIfInBounds_toArray, List.set_cons_zero, List.set_cons_succ]
            refine wpAnyH_take (i := 17) (v := undef) rfl (by kernel_rfl) (by kernel_rfl) (by kernel_rfl) (fun _ _ _ h => h) (Or.inr ⟨by kernel_rfl, rfl⟩) (by assumption) ?_
            try simp only [Act.put, List.getElem_toArray, List.getElem_cons_zero, List.getElem_cons_succ, List.setIfInBounds_toArray, List.set_cons_zero, List.set_cons_succ]
            refine wpAnyH_take (i := 18) (v := ?_) rfl (by kernel_rfl) (by kernel_rfl) (by kernel_rfl) (fun _ _ _ h => h) (Or.inl ⟨by kernel_rfl, ?_⟩) (by assumption) ?_
            rotate_left
            · intro wS hSw
              try dsimp only at hSw
              go_simp
              first | done | with_reducible rfl
            try simp only [Act.put, List.getElem_toArray, List.getElem_cons_zero, List.getElem_cons_succ, List.setIfInBounds_toArray, List.set_cons_zero, List.set_cons_succ]
            refine wpAnyH_done (by kernel_rfl) ?_ _
            go_wp2
            go_ret
            exact YesI.no (by decide) HE.out (HB0.out.trans ((HC.out.bel.trans (HB3.out.mono HC.out.bel.size)).mono HB0.out.size))
          · have e1 : (r != 0) = false := by rw [hr]; rfl
            have HOk := Lib.hid (HRr.out.ok hr)
            clear hr
            refine wpAnyH_take (i := 8) (v := ?_) rfl (by kernel_rfl) (by kernel_rfl) (by kernel_rfl) (fun _ _ _ h => h) (Or.inl ⟨by kernel_rfl, ?_⟩) (by assumption) ?_
            rotate_left
            · intro wS hSw
              try dsimp only at hSw
              go_simp
              first | done | with_reducible rfl
            try simp only [Act.put, List.getElem_toArray, List.getElem_cons_zero, List.getElem_cons_succ, List.setIfInBounds_toArray, List.set_cons_zero, List.set_cons_succ]
            refine wpAnyH_take (i := 9) (v := ?_) rfl (by kernel_rfl) (by kernel_rfl) (by kernel_rfl) (fun _ _ _ h => h) (Or.inl ⟨by kernel_rfl, ?_⟩) (by assumption) ?_
            rotate_left
            · intro wS hSw
              try dsimp only at hSw
              go_simp
              first | done | with_reducible rfl
            try simp only [Act.put, List.getElem_toArray, List.getElem_cons_zero, List.getElem_cons_succ, List.setIfInBounds_toArray, List.set_cons_zero, List.set_cons_succ]
            refine wpAnyH_take (i := 10) (v := ?_) rfl (by kernel_rfl) (by kernel_rfl) (by kernel_rfl) (fun _ _ _ h => h) (Or.inl ⟨by kernel_rfl, ?_⟩) (by assumption) ?_
            rotate_left
            · intro wS hSw
              try dsimp only at hSw
              go_simp
              first | done | with_reducible rfl
            try simp only [Act.put, List.getElem_toArray, List.getElem_cons_zero, List.getElem_cons_succ, List.setIfInBounds_toArray, List.set_cons_zero, List.set_cons_succ]
            refine wpAnyH_take (i := 11) (v := ?_) rfl (by kernel_rfl) (by kernel_rfl) (by kernel_rfl) (fun _ _ _ h => h) (Or.inl ⟨by kernel_rfl, ?_⟩) (by assumption) ?_
            rotate_left
            · intro wS hSw
              try dsimp only at hSw
              go_simp
              first | done | with_reducible rfl
            try simp only [Act.put, List.getElem_toArray, List.getElem_cons_zero, List.getElem_cons_succ, List.setIfInBounds_toArray, List.set_cons_zero, List.set_cons_succ]
            refine wpAnyH_take (i := 12) (v := ?_) rfl (by kernel_rfl) (by kernel_rfl) (by kernel_rfl) (fun _ _ _ h => h) (Or.inl ⟨by kernel_rfl, ?_⟩) (by assumption) ?_
            rotate_left
            · intro wS hSw
              try dsimp only at hSw
              go_simp
              first | done | with_reducible rfl
            try simp only [Act.put, List.getElem_toArray, List.getElem_cons_zero, List.getElem_cons_succ, List.setIfInBounds_toArray, List.set_cons_zero, List.set_cons_succ]
            refine wpAnyH_take (i := 13) (v := ?_) rfl (by kernel_rfl) (by kernel_rfl) (by kernel_rfl) (fun _ _ _ h => h) (Or.inl ⟨by kernel_rfl, ?_⟩) (by assumption) ?_
            rotate_left
            · intro wS hSw
              try dsimp only at hSw
              go_simp
              first | done | with_reducible rfl
            try simp only [Act.put, List.getElem_toArray, List.getElem_cons_zero, List.getElem_cons_succ, List.setIfInBounds_toArray, List.set_cons_zero, List.set_cons_succ]
            refine wpAnyH_take (i := 14) (v := ?_) rfl (by kernel_rfl) (by kernel_rfl) (by kernel_rfl) (fun _ _ _ h => h) (Or.inl ⟨by kernel_rfl, ?_⟩) (by assumption) ?_
            rotate_left
            · intro wS hSw
              try dsimp only at hSw
              go_simp
              first | done | with_reducible rfl
            try simp only [Act.put, List.getElem_toArray, List.getElem_cons_zero, List.getElem_cons_succ, List.setIfInBounds_toArray, List.set_cons_zero, List.set_cons_succ]
            refine wpAnyH_take (i := 15) (v := ?_) rfl (by kernel_rfl) (by kernel_rfl) (by kernel_rfl) (fun _ _ _ h => h) (Or.inl ⟨by kernel_rfl, ?_⟩) (by assumption) ?_
            rotate_left
            · intro wS hSw
              try dsimp only at hSw
              go_simp
              first | done | with_reducible rfl
            try simp only [Act.put, List.getElem_toArray, List.getElem_cons_zero, List.getElem_cons_succ, List.setIfInBounds_toArray, List.set_cons_zero, List.set_cons_succ]
            refine wpAnyH_ready (rs := [16]) (by kernel_rfl) (by simp) ?_
            refine AllReadyH.cons rfl (fun K hK => ?_) AllReadyH.nil
            go_simp
            refine (KG.out _ HB3.out).mono ?_
            rintro e w4 ⟨b4, rfl, hr4, hb4⟩
            have HRb := Lib.hid hr4
            clear hr4
            have HB4 := Lib.hid (HB3.out.trans (hb4.mono HB3.out.size))
            obtain ⟨y0, y1, y2, y3, y4, y5, y6, y7, y8, y9⟩ := HFx.out w4 HB4.out
            clear hb4 z0 z1 z2 z3 z4 z5 z6 z7 z8 z9
            refine hK.out _ _ ?_ (fun hHeld => ?_)
            · go_keep
            clear hK K
            try simp only [Act.put, List.getElem_toArray, List.getElem_cons_zero, List.getElem_cons_succ, List.setIfInBounds_toArray, List.set_cons_zero, List.set_cons_succ]
            refine wpAnyH_take (i := 17) (v := ?_) rfl (by kernel_rfl) (by kernel_rfl) (by kernel_rfl) (fun _ _ _ h => h) (Or.inl ⟨by kernel_rfl, ?_⟩) (by assumption) ?_
            rotate_left
            · intro wS hSw
              try dsimp only at hSw
              go_simp
              first | done | with_reducible rfl
            try simp only [Act.put, List.getElem_toArray, List.getElem_cons_zero, List.getElem_cons_succ, List.setIfInBounds_toArray, List.set_cons_zero, List.set_cons_succ]
            refine wpAnyH_take (i := 18) (v := ?_) rfl (by kernel_rfl) (by kernel_rfl) (by kernel_rfl) (fun _ _ _ h => h) (Or.inl ⟨by kernel_rfl, ?_⟩) (by assumption) ?_
            rotate_left
            · intro wS hSw
              try dsimp only at hSw
              go_simp
              first | done | with_reducible rfl
            try simp only [Act.put, List.getElem_toArray, List.getElem_cons_zero, List.getElem_cons_succ, List.setIfInBounds_toArray, List.set_cons_zero, List.set_cons_succ]
            refine wpAnyH_done (by kernel_rfl) ?_ _
            cases b4 with
            | false =>
              have HE : Hid (¬ Pz) := Lib.hid (fun h => HRb.out.f ((HIff.out.1 h).2.2.1 i hlt).2)
              go_wp2
              go_ret
              exact YesI.no (by decide) HE.out (HB0.out.trans ((HC.out.bel.trans (HB4.out.mono HC.out.bel.size)).mono HB0.out.size))
            | true =>
              have HD4 := Lib.hid (HB4.out.trans ((below_drewN (Below.refl w4.heap.size w4) 1).mono HB4.out.size))
              obtain ⟨z0, z1, z2, z3, z4, z5, z6, z7, z8, z9⟩ := HFx.out (w4.alloc (.cells #[.string nm, .int .i64 len, .int .i64 a0, .int .i64 a1, .int .i64 a2, .int .i64 res] 83)) (HB4.out.alloc HB4.out.size _)
              have HSz4 : Hid (ob < w4.drew.heap.size) := Lib.hid (Nat.lt_of_lt_of_le HSz.out HD4.out.size)
              have HK4 := Lib.hid (HKb.out _ HD4.out)
              go_upto_region 15 with fail
              go_region_law (refine step_push _ rfl (.tmp 76) (.tmp 82) 23 rfl (ob + 1) 83 i1 (.agg #[.string { data := #[] }, .int .i64 0, .int .i64 0, .int .i64 0, .int .i64 0, .int .i64 0]) 6 56 Tryz.underlying23 ji0 jz0 jz1 jz2 rfl (by decide) (.slice A1 i c1) i ((g.funs.take i).flatMap FnM.cells) rfl (own_kept (HO.out _ HD4.out) ((Kept.refl (fun _ => False) w4.drew).alloc _) (fun _ _ e => e)) w4.heap.size #[.string nm, .int .i64 len, .int .i64 a0, .int .i64 a1, .int .i64 a2, .int .i64 res] rfl (Blk.new _ _ _) rfl (by simp [Value.oneCell']) (by omega) (by omega) HSz4.out (fun g3 cap3 w5 hown hgrow hat hlt1 => ?_); have HO5 := Lib.hid hown; have HG5 := Lib.hid hgrow; have hb5 := (HK4.out.alloc (.cells #[.string nm, .int .i64 len, .int .i64 a0, .int .i64 a1, .int .i64 a2, .int .i64 res] 83)).grown hgrow (fun e => by have := ((HO.out _ HD4.out).lt ob e.symm).1; omega); have q2 : w5.cell? ⟨ob, 1, none⟩ = some (.slice A1 i c1) := hb5.cell 1; have q3 := hb5.frozen 1; clear hown hgrow hat hlt1 hb5)
              all_goals
                have HP := Lib.hid (HPush.out _ _ _ _ HD4.out HG5.out HO5.out)
                go_wp2
                go_roundg gk
                case measure => omega
                case rel => exact ⟨i + 1, by omega, by go_num, fun j h => by
                  rcases Nat.lt_or_ge j i with h' | h'
                  · exact HI1.out j h'
                  · obtain rfl : j = i := by omega
                    exact ⟨HOk.out, HRb.out.t⟩, _, HP.out⟩
        | zero =>
          obtain rfl : n1 = i := by omega
          have d1 : decide ((n1 : Int) < (n1 : Int)) = false := by simp
          obtain ⟨B1, dd1, hvB⟩ := own_slice HC.out.o1
          subst hvB
          go_wp2
          go_loopg [6] n2 (fun gg v wr => ∃ i : Nat, i + gg = n2 ∧ v = .int .i64 i ∧ (∀ j, j < i → Q2 j ∧ R2 j) ∧ ∃ vq, CkI w0 ob n0 n1 i g (.slice B0 n0 dd0) (.slice B1 n1 dd1) vq wr)
          case atStart => exact ⟨0, by omega, rfl, fun j h => absurd h (Nat.not_lt_zero j), _, HC.out⟩
          case round =>
            obtain ⟨i, hig, rfl, hinv, vq, hc⟩ := hrel
            have HI2 := Lib.hid hinv
            clear HC hinv
            have HC := Lib.hid hc
            obtain ⟨x0, x1, x2⟩ := HX.out wr hc.bel
            clear hc
            cases gk with
            | succ gk =>
              have hlt : i < n2 := by omega
              have d1 : decide ((i : Int) < (n2 : Int)) = true := decide_eq_true (by omega)
              have t1 : (0 : Int) ≤ (i : Int) := by omega
              have t2 : (i : Int) < (n2 : Int) := by omega
              have hls : i < g.macs.length := by rw [HN2.out]; exact hlt
              obtain ⟨b, off, hA, hb, hcell⟩ := H.out.m i hls
              obtain ⟨_, _, A1, c1, A2, c2, _, hv1, hv2, hsig, hcells⟩ := HC.out.sig HWf.out HL.out
              have KF := Lib.hid (fun W (hW : Below wr.heap.size wr W) => (xfree_ok (hsig.below hW) g.macs[i].nm false).mono (YesI.cg (HQ2.out i hls)))
              have KG := Lib.hid (fun W (hW : Below wr.heap.size wr W) => (xmacOk_ok (hsig.below hW) ((HD.out i hls).below (HC.out.bel.trans (hW.mono HC.out.bel.size))) (HWf.out.m _ (List.getElem_mem hls))).mono (YesB.cg (HR2.out i hls)))
              rw [hcells, hv2] at KF KG
              rw [hv2] at HC
              have HFx : Hid (∀ W, Below wr.heap.size wr W → W.cell? ⟨w.heap.size, 2, none⟩ = some (.slice g.A2 n2 g.c2) ∧ W.cell? ⟨b, off + i * 6, none⟩ = some (.string g.macs[i].nm) ∧ W.cell? ⟨b, off + i * 6 + 1, none⟩ = some (.slice g.macs[i].P g.macs[i].np g.macs[i].cp) ∧ W.cell? ⟨b, off + i * 6 + 2, none⟩ = some (.int .i64 g.macs[i].res) ∧ W.cell? ⟨b, off + i * 6 + 3, none⟩ = some (.int .i8 g.macs[i].y.k) ∧ W.cell? ⟨b, off + i * 6 + 4, none⟩ = some (.string g.macs[i].y.t) ∧ W.cell? ⟨b, off + i * 6 + 5, none⟩ = some (.slice g.macs[i].y.A g.macs[i].y.n g.macs[i].y.c) ∧ W.cell? ⟨ob, 0, none⟩ = some (.slice B0 n0 dd0) ∧ W.cell? ⟨ob, 1, none⟩ = some (.slice B1 n1 dd1) ∧ W.cell? ⟨ob, 2, none⟩ = some (.slice A2 i c2)) := Lib.hid (fun W hW => by
                have h2 := HC.out.blk.below hW HC.out.blk.lt
                have h3 := HC.out.bel.trans (hW.mono HC.out.bel.size)
                have h4 := hcell.below h3 hb
                obtain ⟨_, e1, e2⟩ := HX.out W h3
                exact ⟨e2, h4.c0, h4.c1, h4.c2, h4.c3, h4.c4, h4.c5, h2.cell 0, h2.cell 1, h2.cell 2⟩)
              have HPush := Lib.hid (fun (W W3 : World) (o : Obj) v (hW : Below wr.heap.size wr W) (hg : (W.alloc o).grownBy W3 (.slice A2 i c2 : Value).ownBlock) (ho : W3.ownsRow (ob + 1) 56 6 v (i + 1) ((g.macs.take i).flatMap MacM.cells ++ g.macs[i].cells)) => (HC.out.below hW).push2 hls hg ho)
              have HO := Lib.hid (fun (W : World) (hW : Below wr.heap.size wr W) => (HC.out.below hW).o2)
              have HKb := Lib.hid (fun (W : World) (hW : Below wr.heap.size wr W) => (HC.out.below hW).blk)
              have HSz := Lib.hid HC.out.blk.lt
              generalize g.macs[i] = m at *
              obtain ⟨nm, P, np, cp, res, ⟨yk, yt, yA, yn, yc⟩⟩ := m
              unfold MacM.agg at KG
              simp only at KF KG HFx HPush hA
              rw [hA] at HFx
              have HD1 := Lib.hid (below_drewN (Below.refl wr.heap.size wr) 1)
              clear hcell hsig hcells hv1 hv2 hb x0 x1
              rw [hA] at x2
              clear hA
              obtain ⟨y0, y1, y2, y3, y4, y5, y6, y7, y8, y9⟩ := HFx.out wr.drew HD1.out
              have KF1 := Lib.hid (KF.out _ HD1.out)
              go_upto_region 19 with fail
              refine wp_region_held_drew (S := (fun w' => w'.cell? ⟨w.heap.size, 2, none⟩ = some (.slice (some ⟨b, off, none⟩) n2 g.c2) ∧ w'.cell? ⟨b, off + i * 6, none⟩ = some (.string nm) ∧ w'.cell? ⟨b, off + i * 6 + 1, none⟩ = some (.slice P np cp) ∧ w'.cell? ⟨b, off + i * 6 + 2, none⟩ = some (.int .i64 res) ∧ w'.cell? ⟨b, off + i * 6 + 3, none⟩ = some (.int .i8 yk) ∧ w'.cell? ⟨b, off + i * 6 + 4, none⟩ = some (.string yt) ∧ w'.cell? ⟨b, off + i * 6 + 5, none⟩ = some (.slice yA yn yc) ∧ w'.cell? ⟨ob, 0, none⟩ = some (.slice B0 n0 dd0) ∧ w'.cell? ⟨ob, 1, none⟩ = some (.slice B1 n1 dd1) ∧ w'.cell? ⟨ob, 2, none⟩ = some (.slice A2 i c2))) (by kernel_rfl) ?_ (fun hHeld => ?_)
              · go_keep
              refine wpAnyH_take (i := 0) (v := ?_) rfl (by kernel_rfl) (by kernel_rfl) (by kernel_rfl) (fun _ _ _ h => h) (Or.inl ⟨by kernel_rfl, ?_⟩) (by assumption) ?_
              rotate_left
              · intro wS hSw
                try dsimp only at hSw
                go_simp
                first | done | with_reducible rfl
              try simp only [Act.put, List.getElem_toArray, List.getElem_cons_zero, List.getElem_cons_succ, List.setIfInBounds_toArray, List.set_cons_zero, List.set_cons_succ]
              refine wpAnyH_take (i := 1) (v := ?_) rfl (by kernel_rfl) (by kernel_rfl) (by kernel_rfl) (fun _ _ _ h => h) (Or.inl ⟨by kernel_rfl, ?_⟩) (by assumption) ?_
              rotate_left
              · intro wS hSw
                try dsimp only at hSw
                go_simp
                first | done | with_reducible rfl
              try simp only [Act.put, List.getElem_toArray, List.getElem_cons_zero, List.getElem_cons_succ, List.setIfInBounds_toArray, List.set_cons_zero, List.set_cons_succ]
              refine wpAnyH_take (i := 2) (v := ?_) rfl (by kernel_rfl) (by kernel_rfl) (by kernel_rfl) (fun _ _ _ h => h) (Or.inl ⟨by kernel_rfl, ?_⟩) (by assumption) ?_
              rotate_left
              · intro wS hSw
                try dsimp only at hSw
                go_simp
                first | done | with_reducible rfl
              try simp only [Act.put, List.getElem_toArray, List.getElem_cons_zero, List.getElem_cons_succ, List.setIfInBounds_toArray, List.set_cons_zero, List.set_cons_succ]
              refine wpAnyH_take (i := 3) (v := ?_) rfl (by kernel_rfl) (by kernel_rfl) (by kernel_rfl) (fun _ _ _ h => h) (Or.inl ⟨by kernel_rfl, ?_⟩) (by assumption) ?_
              rotate_left
              · intro wS hSw
                try dsimp only at hSw
                go_simp
                first | done | with_reducible rfl
              try simp only [Act.put, List.getElem_toArray, List.getElem_cons_zero, List.getElem_cons_succ, List.setIfInBounds_toArray, List.set_cons_zero, List.set_cons_succ]
              refine wpAnyH_take (i := 4) (v := ?_) rfl (by kernel_rfl) (by kernel_rfl) (by kernel_rfl) (fun _ _ _ h => h) (Or.inl ⟨by kernel_rfl, ?_⟩) (by assumption) ?_
              rotate_left
              · intro wS hSw
                try dsimp only at hSw
                go_simp
                first | done | with_reducible rfl
              try simp only [Act.put, List.getElem_toArray, List.getElem_cons_zero, List.getElem_cons_succ, List.setIfInBounds_toArray, List.set_cons_zero, List.set_cons_succ]
              refine wpAnyH_take (i := 5) (v := ?_) rfl (by kernel_rfl) (by kernel_rfl) (by kernel_rfl) (fun _ _ _ h => h) (Or.inl ⟨by kernel_rfl, ?_⟩) (by assumption) ?_
              rotate_left
              · intro wS hSw
                try dsimp only at hSw
                go_simp
                first | done | with_reducible rfl
              try simp only [Act.put, List.getElem_toArray, List.getElem_cons_zero, List.getElem_cons_succ, List.setIfInBounds_toArray, List.set_cons_zero, List.set_cons_succ]
              refine wpAnyH_take (i := 6) (v := ?_) rfl (by kernel_rfl) (by kernel_rfl) (by kernel_rfl) (fun _ _ _ h => h) (Or.inl ⟨by kernel_rfl, ?_⟩) (by assumption) ?_
              rotate_left
              · intro wS hSw
                try dsimp only at hSw
                go_simp
                first | done | with_reducible rfl
              try simp only [Act.put, List.getElem_toArray, List.getElem_cons_zero, List.getElem_cons_succ, List.setIfInBounds_toArray, List.set_cons_zero, List.set_cons_succ]
              refine wpAnyH_ready (rs := [7]) (by kernel_rfl) (by simp) ?_
              refine AllReadyH.cons rfl (fun K hK => ?_) AllReadyH.nil
              go_simp
              refine KF1.out.mono ?_
              rintro e w3 ⟨r, rfl, hr3, hb3⟩
              have HRr := Lib.hid hr3
              clear hr3
              have HB3 := Lib.hid (HD1.out.trans (hb3.mono HD1.out.size))
              obtain ⟨z0, z1, z2, z3, z4, z5, z6, z7, z8, z9⟩ := HFx.out w3 HB3.out
              clear hb3 y0 y1 y2 y3 y4 y5 y6 y7 y8 y9
              refine hK.out _ _ ?_ (fun hHeld => ?_)
              · go_keep
              clear hK K
              try simp only [Act.put, List.getElem_toArray, List.getElem_cons_zero, List.getElem_cons_succ, List.setIfInBounds_toArray, List.set_cons_zero, List.set_cons_succ]
              by_cases hr : r = 0
              rotate_left
              · have e1 : (r != 0) = true := bne_iff_ne.2 hr
                have HE : Hid (¬ Pz) := Lib.hid (fun h => HRr.out.no hr ((HIff.out.1 h).2.2.2 i hlt).1)
                clear hr
                refine wpAnyH_take (i := 8) (v := ?_) rfl (by kernel_rfl) (by kernel_rfl) (by kernel_rfl) (fun _ _ _ h => h) (Or.inl ⟨by kernel_rfl, ?_⟩) (by assumption) ?_
                rotate_left
                · intro wS hSw
                  try dsimp only at hSw
                  go_simp
                  first | done | with_reducible rfl
                try simp only [Act.put, List.getElem_toArray, List.getElem_cons_zero, List.getElem_cons_succ, List.setIfInBounds_toArray, List.set_cons_zero, List.set_cons_succ]
                refine wpAnyH_take (i := 9) (v := ?_) rfl (by kernel_rfl) (by kernel_rfl) (by kernel_rfl) (fun _ _ _ h => h) (Or.inl ⟨by kernel_rfl, ?_⟩) (by assumption) ?_
                rotate_left
                · intro wS hSw
                  try dsimp only at hSw
                  go_simp
                  first | done | with_reducible rfl
                try simp only [Act.put, List.getElem_toArray, List.getElem_cons_zero, List.getElem_cons_succ, List.setIfInBounds_toArray, List.set_cons_zero, List.set_cons_succ]
                refine wpAnyH_take (i := 10) (v := undef) rfl (by kernel_rfl) (by kernel_rfl) (by kernel_rfl) (fun _ _ _ h => h) (Or.inr ⟨by kernel_rfl, rfl⟩) (by assumption) ?_
                try simp only [Act.put, List.getElem_toArray, List.getElem_cons_zero, List.getElem_cons_succ, List.setIfInBounds_toArray, List.set_cons_zero, List.set_cons_succ]
                refine wpAnyH_take (i := 11) (v := undef) rfl (by kernel_rfl) (by kernel_rfl) (by kernel_rfl) (fun _ _ _ h => h) (Or.inr ⟨by kernel_rfl, rfl⟩) (by assumption) ?_
                try simp only [Act.put, List.getElem_toArray, List.getElem_cons_zero, List.getElem_cons_succ, List.setIfInBounds_toArray, List.set_cons_zero, List.set_cons_succ]
                refine wpAnyH_take (i := 12) (v := undef) rfl (by kernel_rfl) (by kernel_rfl) (by kernel_rfl) (fun _ _ _ h => h) (Or.inr ⟨by kernel_rfl, rfl⟩) (by assumption) ?_
                try simp only [Act.put, List.getElem_toArray, List.getElem_cons_zero, List.getElem_cons_succ, List.setIfInBounds_toArray, List.set_cons_zero, List.set_cons_succ]
                refine wpAnyH_take (i := 13) (v := undef) rfl (by kernel_rfl) (by kernel_rfl) (by kernel_rfl) (fun _ _ _ h => h) (Or.inr ⟨by kernel_rfl, rfl⟩) (by assumption) ?_
                try simp only [Act.put, List.getElem_toArray, List.getElem_cons_zero, List.getElem_cons_succ, List.setIfInBounds_toArray, List.set_cons_zero, List.set_cons_succ]
                refine wpAnyH_take (i := 14) (v := undef) rfl (by kernel_rfl) (by kernel_rfl) (by kernel_rfl) (fun _ _ _ h => h) (Or.inr ⟨by kernel_rfl, rfl⟩) (by assumption) ?_
                try simp only [Act.put, List.getElem_toArray, List.getElem_cons_zero, List.getElem_cons_succ, List.setIfInBounds_toArray, List.set_cons_zero, List.set_cons_succ]
                refine wpAnyH_take (i := 15) (v := undef) rfl (by kernel_rfl) (by kernel_rfl) (by kernel_rfl) (fun _ _ _ h => h) (Or.inr ⟨by kernel_rfl, rfl⟩) (by assumption) ?_
                try simp only [Act.put, List.getElem_toArray, List.getElem_cons_zero, List.getElem_cons_succ, List.setIfInBounds_toArray, List.set_cons_zero, List.set_cons_succ]
                refine wpAnyH_take (i := 16) (v := undef) rfl (by kernel_rfl) (by kernel_rfl) (by kernel_rfl) (fun _ _ _ h => h) (Or.inr ⟨by kernel_rfl, rfl⟩) (by assumption) ?_
                try simp only [Act.put, List.getElem_toArray, List.getElem_cons_zero, List.getElem_cons_succ, List.setIfInBounds_toArray, List.set_cons_zero, List.set_cons_succ]
                refine wpAnyH_take (i := 17) (v := undef) rfl (by kernel_rfl) (by kernel_rfl) (by kernel_rfl) (fun _ _ _ h => h) (Or.inr ⟨by kernel_rfl, rfl⟩) (by assumption) ?_
                try simp only [Act.put, List.getElem_toArray, List.getElem_cons_zero, List.getElem_cons_succ, List.setIfInBounds_toArray, List.set_cons_zero, List.set_cons_succ]
                refine wpAnyH_take (i := 18) (v := ?_) rfl (by kernel_rfl) (by kernel_rfl) (by kernel_rfl) (fun _ _ _ h => h) (Or.inl ⟨by kernel_rfl, ?_⟩) (by assumption) ?_
                rotate_left
                · intro wS hSw
                  try dsimp only at hSw
                  go_simp
                  first | done | with_reducible rfl
                try simp only [Act.put, List.getElem_toArray, List.getElem_cons_zero, List.getElem_cons_succ, List.setIfInBounds_toArray, List.set_cons_zero, List.set_cons_succ]
                refine wpAnyH_done (by kernel_rfl) ?_ _
                go_wp2
                go_ret
                exact YesI.no (by decide) HE.out (HB0.out.trans ((HC.out.bel.trans (HB3.out.mono HC.out.bel.size)).mono HB0.out.size))
              · have e1 : (r != 0) = false := by rw [hr]; rfl
                have HOk := Lib.hid (HRr.out.ok hr)
                clear hr
                refine wpAnyH_take (i := 8) (v := ?_) rfl (by kernel_rfl) (by kernel_rfl) (by kernel_rfl) (fun _ _ _ h => h) (Or.inl ⟨by kernel_rfl, ?_⟩) (by assumption) ?_
                rotate_left
                · intro wS hSw
                  try dsimp only at hSw
                  go_simp
                  first | done | with_reducible rfl
                try simp only [Act.put, List.getElem_toArray, List.getElem_cons_zero, List.getElem_cons_succ, List.setIfInBounds_toArray, List.set_cons_zero, List.set_cons_succ]
                refine wpAnyH_take (i := 9) (v := ?_) rfl (by kernel_rfl) (by kernel_rfl) (by kernel_rfl) (fun _ _ _ h => h) (Or.inl ⟨by kernel_rfl, ?_⟩) (by assumption) ?_
                rotate_left
                · intro wS hSw
                  try dsimp only at hSw
                  go_simp
                  first | done | with_reducible rfl
                try simp only [Act.put, List.getElem_toArray, List.getElem_cons_zero, List.getElem_cons_succ, List.setIfInBounds_toArray, List.set_cons_zero, List.set_cons_succ]
                refine wpAnyH_take (i := 10) (v := ?_) rfl (by kernel_rfl) (by kernel_rfl) (by kernel_rfl) (fun _ _ _ h => h) (Or.inl ⟨by kernel_rfl, ?_⟩) (by assumption) ?_
                rotate_left
                · intro wS hSw
                  try dsimp only at hSw
                  go_simp
                  first | done | with_reducible rfl
                try simp only [Act.put, List.getElem_toArray, List.getElem_cons_zero, List.getElem_cons_succ, List.setIfInBounds_toArray, List.set_cons_zero, List.set_cons_succ]
                refine wpAnyH_take (i := 11) (v := ?_) rfl (by kernel_rfl) (by kernel_rfl) (by kernel_rfl) (fun _ _ _ h => h) (Or.inl ⟨by kernel_rfl, ?_⟩) (by assumption) ?_
                rotate_left
                · intro wS hSw
                  try dsimp only at hSw
                  go_simp
                  first | done | with_reducible rfl
                try simp only [Act.put, List.getElem_toArray, List.getElem_cons_zero, List.getElem_cons_succ, List.setIfInBounds_toArray, List.set_cons_zero, List.set_cons_succ]
                refine wpAnyH_take (i := 12) (v := ?_) rfl (by kernel_rfl) (by kernel_rfl) (by kernel_rfl) (fun _ _ _ h => h) (Or.inl ⟨by kernel_rfl, ?_⟩) (by assumption) ?_
                rotate_left
                · intro wS hSw
                  try dsimp only at hSw
                  go_simp
                  first | done | with_reducible rfl
                try simp only [Act.put, List.getElem_toArray, List.getElem_cons_zero, List.getElem_cons_succ, List.setIfInBounds_toArray, List.set_cons_zero, List.set_cons_succ]
                refine wpAnyH_take (i := 13) (v := ?_) rfl (by kernel_rfl) (by kernel_rfl) (by kernel_rfl) (fun _ _ _ h => h) (Or.inl ⟨by kernel_rfl, ?_⟩) (by assumption) ?_
                rotate_left
                · intro wS hSw
                  try dsimp only at hSw
                  go_simp
                  first | done | with_reducible rfl
                try simp only [Act.put, List.getElem_toArray, List.getElem_cons_zero, List.getElem_cons_succ, List.setIfInBounds_toArray, List.set_cons_zero, List.set_cons_succ]
                refine wpAnyH_take (i := 14) (v := ?_) rfl (by kernel_rfl) (by kernel_rfl) (by kernel_rfl) (fun _ _ _ h => h) (Or.inl ⟨by kernel_rfl, ?_⟩) (by assumption) ?_
                rotate_left
                · intro wS hSw
                  try dsimp only at hSw
                  go_simp
                  first | done | with_reducible rfl
                try simp only [Act.put, List.getElem_toArray, List.getElem_cons_zero, List.getElem_cons_succ, List.setIfInBounds_toArray, List.set_cons_zero, List.set_cons_succ]
                refine wpAnyH_take (i := 15) (v := ?_) rfl (by kernel_rfl) (by kernel_rfl) (by kernel_rfl) (fun _ _ _ h => h) (Or.inl ⟨by kernel_rfl, ?_⟩) (by assumption) ?_
                rotate_left
                · intro wS hSw
                  try dsimp only at hSw
                  go_simp
                  first | done | with_reducible rfl
                try simp only [Act.put, List.getElem_toArray, List.getElem_cons_zero, List.getElem_cons_succ, List.setIfInBounds_toArray, List.set_cons_zero, List.set_cons_succ]
                refine wpAnyH_ready (rs := [16]) (by kernel_rfl) (by simp) ?_
                refine AllReadyH.cons rfl (fun K hK => ?_) AllReadyH.nil
                go_simp
                refine (KG.out _ HB3.out).mono ?_
                rintro e w4 ⟨b4, rfl, hr4, hb4⟩
                have HRb := Lib.hid hr4
                clear hr4
                have HB4 := Lib.hid (HB3.out.trans (hb4.mono HB3.out.size))
                obtain ⟨y0, y1, y2, y3, y4, y5, y6, y7, y8, y9⟩ := HFx.out w4 HB4.out
                clear hb4 z0 z1 z2 z3 z4 z5 z6 z7 z8 z9
                refine hK.out _ _ ?_ (fun hHeld => ?_)
                · go_keep
                clear hK K
                try simp only [Act.put, List.getElem_toArray, List.getElem_cons_zero, List.getElem_cons_succ, List.setIfInBounds_toArray, List.set_cons_zero, List.set_cons_succ]
                refine wpAnyH_take (i := 17) (v := ?_) rfl (by kernel_rfl) (by kernel_rfl) (by kernel_rfl) (fun _ _ _ h => h) (Or.inl ⟨by kernel_rfl, ?_⟩) (by assumption) ?_
                rotate_left
                · intro wS hSw
                  try dsimp only at hSw
                  go_simp
                  first | done | with_reducible rfl
                try simp only [Act.put, List.getElem_toArray, List.getElem_cons_zero, List.getElem_cons_succ, List.setIfInBounds_toArray, List.set_cons_zero, List.set_cons_succ]
                refine wpAnyH_take (i := 18) (v := ?_) rfl (by kernel_rfl) (by kernel_rfl) (by kernel_rfl) (fun _ _ _ h => h) (Or.inl ⟨by kernel_rfl, ?_⟩) (by assumption) ?_
                rotate_left
                · intro wS hSw
                  try dsimp only at hSw
                  go_simp
                  first | done | with_reducible rfl
                try simp only [Act.put, List.getElem_toArray, List.getElem_cons_zero, List.getElem_cons_succ, List.setIfInBounds_toArray, List.set_cons_zero, List.set_cons_succ]
                refine wpAnyH_done (by kernel_rfl) ?_ _
                cases b4 with
                | false =>
                  have HE : Hid (¬ Pz) := Lib.hid (fun h => HRb.out.f ((HIff.out.1 h).2.2.2 i hlt).2)
                  go_wp2
                  go_ret
                  exact YesI.no (by decide) HE.out (HB0.out.trans ((HC.out.bel.trans (HB4.out.mono HC.out.bel.size)).mono HB0.out.size))
                | true =>
                  have HD4 := Lib.hid (HB4.out.trans ((below_drewN (Below.refl w4.heap.size w4) 1).mono HB4.out.size))
                  obtain ⟨z0, z1, z2, z3, z4, z5, z6, z7, z8, z9⟩ := HFx.out (w4.alloc (.cells #[.string nm, .slice P np cp, .int .i64 res, .int .i8 yk, .string yt, .slice yA yn yc] 56)) (HB4.out.alloc HB4.out.size _)
                  have HSz4 : Hid (ob < w4.drew.heap.size) := Lib.hid (Nat.lt_of_lt_of_le HSz.out HD4.out.size)
                  have HK4 := Lib.hid (HKb.out _ HD4.out)
                  go_upto_region 21 with fail
                  go_region_law (refine step_push _ rfl (.tmp 112) (.tmp 118) 24 rfl (ob + 1) 56 i2 (.agg #[.string { data := #[] }, .slice none 0 0, .int .i64 0, .int .i8 0, .string { data := #[] }, .slice none 0 0]) 6 96 Tryz.underlying24 ki0 kz0 kz1 kz2 rfl (by decide) (.slice A2 i c2) i ((g.macs.take i).flatMap MacM.cells) rfl (own_kept (HO.out _ HD4.out) ((Kept.refl (fun _ => False) w4.drew).alloc _) (fun _ _ e => e)) w4.heap.size #[.string nm, .slice P np cp, .int .i64 res, .int .i8 yk, .string yt, .slice yA yn yc] rfl (Blk.new _ _ _) rfl (by simp [Value.oneCell']) (by omega) (by omega) HSz4.out (fun g3 cap3 w5 hown hgrow hat hlt1 => ?_); have HO5 := Lib.hid hown; have HG5 := Lib.hid hgrow; have hb5 := (HK4.out.alloc (.cells #[.string nm, .slice P np cp, .int .i64 res, .int .i8 yk, .string yt, .slice yA yn yc] 56)).grown hgrow (fun e => by have := ((HO.out _ HD4.out).lt ob e.symm).1; omega); have q2 : w5.cell? ⟨ob, 2, none⟩ = some (.slice A2 i c2) := hb5.cell 2; have q3 := hb5.frozen 2; clear hown hgrow hat hlt1 hb5)
                  all_goals
                    have HP := Lib.hid (HPush.out _ _ _ _ HD4.out HG5.out HO5.out)
                    go_wp2
                    go_roundg gk
                    case measure => omega
                    case rel => exact ⟨i + 1, by omega, by go_num, fun j h => by
                      rcases Nat.lt_or_ge j i with h' | h'
                      · exact HI2.out j h'
                      · obtain rfl : j = i := by omega
                        exact ⟨HOk.out, HRb.out.t⟩, _, HP.out⟩
            | zero =>
              obtain rfl : n2 = i := by omega
              have d1 : decide ((n2 : Int) < (n2 : Int)) = false := by simp
              have HAll : Hid Pz := Lib.hid (HIff.out.2 ⟨by rw [HN0.out, HN1.out, HN2.out] at HL; exact HL.out, HI0.out, HI1.out, HI2.out⟩)
              go_wp2
              go_ret
              exact YesI.yes HAll.out (HB0.out.trans (HC.out.bel.mono HB0.out.size))
def CkIs (g : SigV) (w : World) (e : Ending) (w' : World) : Prop := ∃ r, e = .returned (.int .i64 r) ∧ (r = 0 → g.sorts.length ≤ 4 ∧ g.funs.length ≤ 12 ∧ g.macs.length ≤ 12) ∧ Below w.heap.size w w'
theorem lcheck_ok {w : World} {g : SigV} (h : SigAt w g) (hd : SigDeep w g) : Calls Tryz.prog 32 #[.agg g.cells] w (CkIs g w) := by
  obtain ⟨qs, sf, zf, hx⟩ := hd.x
  refine (xcheck_ok h hx).mono ?_
  rintro e w' ⟨r, rfl, hs, hb⟩
  exact ⟨r, rfl, fun e => ⟨(hs.ok e).n0, (hs.ok e).n1, (hs.ok e).n2⟩, hb⟩
end Go.Proofs.YtkapbdjobfbhhaaGreat

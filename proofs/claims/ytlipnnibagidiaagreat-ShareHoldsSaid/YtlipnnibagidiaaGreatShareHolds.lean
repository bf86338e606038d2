/- ShareHolds' walk. -/
import Derived.Test.YtlipnnibagidiaaGreatCfB
import Derived.Test.YtlipnnibagidiaaGreatVmF
namespace Go.Proofs.YtlipnnibagidiaaGreat
open Go.RowKit Go.Lib Go.ChangeShapes Go.WideShapes Go.ChangeAt
set_option maxRecDepth 100000 in
set_option maxHeartbeats 16000000 in
theorem shareHolds_core {w : World} {g : SigV} {wl : WldV} {A B : Option Addr} {n lB : Nat} (c cB : Nat) (hg : SigAt w g) (hd : SigDeep w g) (hw : WldAt w wl) (hwf : WldWf wl) (h : n ≤ 300 → ∃ T : List Nd, T.length = n ∧ Tab w A T) (hB : lB ≤ 100 → ∃ LB : List Int, LB.length = lB ∧ Row w B LB) :
    Calls Tryz.prog 7 #[.agg g.cells, .agg wl.cells, .agg #[.slice A n c], .slice B lB cB] w (fun e w' => e = .returned (.bool true) ∧ Below w.heap.size w w') := by
  obtain ⟨S, hS⟩ : ∃ S, w.heap.size = S := ⟨_, rfl⟩
  obtain ⟨w0, hw0⟩ : ∃ w0, ((w.alloc (.cells g.cells 26)).alloc (.cells wl.cells 30)).alloc (.cells #[.slice A n c] 33) = w0 := ⟨_, rfl⟩
  have HB0 : Hid (Below w.heap.size w w0) := zzh (by
    rw [← hw0]
    exact (((Below.refl _ w).alloc (Nat.le_refl _) _).alloc (by simp) _).alloc (by simp; omega) _)
  have HBx : Hid (Blk w0 S 26 g.cells ∧ Blk w0 (S + 1) 30 wl.cells ∧ Blk w0 (S + 1 + 1) 33 #[.slice A n c]) := zzh (by
    rw [← hw0, ← hS]
    exact ⟨((Blk.new w 26 g.cells).alloc _).alloc _, (Blk.new_at (by simp) _ _).alloc _, Blk.new_at (by simp) _ _⟩)
  have HG := zzh (hg.below HB0.out)
  have HD := zzh (hd.below HB0.out)
  have HW := zzh (hw.below HB0.out)
  have HWf := zzh hwf
  have HTb : Hid (n ≤ 300 → ∃ T : List Nd, T.length = n ∧ Tab w0 A T) := zzh (fun e => by
    obtain ⟨T, h1, h2⟩ := h e
    exact ⟨T, h1, h2.below HB0.out⟩)
  have HRw : Hid (lB ≤ 100 → ∃ LB : List Int, LB.length = lB ∧ Row w0 B LB) := zzh (fun e => by
    obtain ⟨T, h1, h2⟩ := hB e
    exact ⟨T, h1, h2.below HB0.out⟩)
  have HGC : Hid (g.cells = #[.slice g.A0 g.sorts.length g.c0, .slice g.A1 g.funs.length g.c1, .slice g.A2 g.macs.length g.c2]) := zzh rfl
  have HVC : Hid (wl.cells = #[.slice wl.A0 wl.sizes.length wl.c0, .slice wl.A1 wl.funs.length wl.c1]) := zzh rfl
  have HX : Hid (∀ W, Below w0.heap.size w0 W → (W.cell? ⟨S, 0, none⟩ = some (.slice g.A0 g.sorts.length g.c0) ∧ W.cell? ⟨S, 1, none⟩ = some (.slice g.A1 g.funs.length g.c1) ∧ W.cell? ⟨S, 2, none⟩ = some (.slice g.A2 g.macs.length g.c2)) ∧ (W.cell? ⟨S + 1, 0, none⟩ = some (.slice wl.A0 wl.sizes.length wl.c0) ∧ W.cell? ⟨S + 1, 1, none⟩ = some (.slice wl.A1 wl.funs.length wl.c1)) ∧ W.cell? ⟨S + 1 + 1, 0, none⟩ = some (.slice A n c)) := zzh (fun W hW => by
    obtain ⟨h1, h2, h3⟩ := HBx.out
    exact ⟨sig_blk (h1.below hW h1.lt), wld_blk (h2.below hW h2.lt), tab_box (h3.below hW h3.lt)⟩)
  have K0 := zzh (lgreat_ok HG.out HD.out)
  have K1 := zzh (fun W (hW : Below w0.heap.size w0 W) => wgreat26_ok (HW.out.below hW))
  have K2 := zzh (fun W => rgreat_ok (w := W) A n c)
  have K5 := zzh (fun W (hW : Below w0.heap.size w0 W) (C : List Nd) (CA : Option Addr) (cc : Nat) (ht : Tab W CA C) => values_ok cc (HG.out.below hW) (HD.out.below hW) (HW.out.below hW) HWf.out ht)
  rw [HGC.out] at hw0 K0 K5 ⊢
  rw [HVC.out] at hw0 K1 K5 ⊢
  have HW0 := zzh hw0
  have HSz := zzh hS
  clear hg hd hw hwf h hB hw0
  go_enter Tryz.func7, Tryz.ntmps7
  go_upto_region 1 with (fail)
  rw [HW0.out]
  clear HW0 hS
  obtain ⟨⟨x0, x1, x2⟩, ⟨x3, x4⟩, x5⟩ := HX.out w0 (Below.refl _ _)
  go_wp2_with fail
  refine K0.out.mono ?_
  rintro e w1 ⟨q1, rfl, hb1⟩
  have HB1 := zzh hb1
  have HT1 := zzh (HB0.out.trans (hb1.mono HB0.out.size))
  clear hb1 x0 x1 x2 x3 x4 x5 K0
  obtain ⟨⟨x0, x1, x2⟩, ⟨x3, x4⟩, x5⟩ := HX.out w1 HB1.out
  cases q1 with
  | true =>
    go_wp2_with fail
    refine (wakes_ok _).mono ?_
    rintro e wz ⟨rfl, hbz⟩
    have HBz := zzh ((HT1.out).trans (hbz.mono (HT1.out).size))
    clear hbz
    go_wp2
    go_ret
    exact ⟨rfl, HBz.out⟩
  | false =>
    have K1a := zzh (K1.out w1 HB1.out)
    go_wp2_with fail
    refine K1a.out.mono ?_
    rintro e w2 ⟨q2, rfl, hb2⟩
    have HB2 := zzh (HB1.out.trans (hb2.mono HB1.out.size))
    have HT2 := zzh (HT1.out.trans (hb2.mono HT1.out.size))
    clear hb2 x0 x1 x2 x3 x4 x5 K1a K1
    obtain ⟨⟨x0, x1, x2⟩, ⟨x3, x4⟩, x5⟩ := HX.out w2 HB2.out
    cases q2 with
    | true =>
      go_wp2_with fail
      refine (wakes_ok _).mono ?_
      rintro e wz ⟨rfl, hbz⟩
      have HBz := zzh ((HT2.out).trans (hbz.mono (HT2.out).size))
      clear hbz
      go_wp2
      go_ret
      exact ⟨rfl, HBz.out⟩
    | false =>
      have K2a := zzh (K2.out w2)
      obtain ⟨gr, hgr⟩ : ∃ gr, decide (300 < n) = gr := ⟨_, rfl⟩
      rw [hgr] at K2a
      have HGr := zzh hgr
      clear hgr
      go_wp2_with fail
      refine K2a.out.mono ?_
      rintro e w3 ⟨rfl, hb3⟩
      have HB3 := zzh (HB2.out.trans (hb3.mono HB2.out.size))
      have HT3 := zzh (HT2.out.trans (hb3.mono HT2.out.size))
      clear hb3 x0 x1 x2 x3 x4 x5 K2a K2
      obtain ⟨⟨x0, x1, x2⟩, ⟨x3, x4⟩, x5⟩ := HX.out w3 HB3.out
      cases gr with
      | true =>
        go_wp2_with fail
        refine (wakes_ok _).mono ?_
        rintro e wz ⟨rfl, hbz⟩
        have HBz := zzh ((HT3.out).trans (hbz.mono (HT3.out).size))
        clear hbz
        go_wp2
        go_ret
        exact ⟨rfl, HBz.out⟩
      | false =>
        have hn := of_decide_eq_false HGr.out
        obtain ⟨T, hTl, hTab⟩ := HTb.out (by omega)
        by_cases hlB : 100 < lB
        · have eB : decide (((lB : Nat) : Int) > 100) = true := by simp; omega
          have fB : decide ((100 : Int) < ((lB : Nat) : Int)) = true := by simp; omega
          clear hn hlB
          go_wp2_with fail
          refine (wakes_ok _).mono ?_
          rintro e wz ⟨rfl, hbz⟩
          have HBz := zzh ((HT3.out).trans (hbz.mono (HT3.out).size))
          clear hbz
          go_wp2
          go_ret
          exact ⟨rfl, HBz.out⟩
        have eB : decide (((lB : Nat) : Int) > 100) = false := by simp; omega
        have fB : decide ((100 : Int) < ((lB : Nat) : Int)) = false := by simp; omega
        obtain ⟨LB, hLl, hRow⟩ := HRw.out (by omega)
        have KC := cof_ok c cB 1000 (by decide) (hTab.below HB3.out) (hRow.below HB3.out)
        rw [hTl, hLl] at KC
        have KC := zzh KC
        clear hn hlB hTab hRow hTl hLl
        go_wp2_with fail
        refine KC.out.mono ?_
        rintro e w4 ⟨CA, C, cc, oA, on, oc, er, rfl, hok, hb4⟩
        have hB4 := HB3.out.trans (hb4.mono HB3.out.size)
        have hT4 := HT3.out.trans (hb4.mono HT3.out.size)
        have hbA : Below w4.heap.size w4 (w4.alloc (.cells #[.slice CA C.length cc] 33)) := (Below.refl _ w4).alloc (Nat.le_refl _) _
        obtain ⟨w5, hw5⟩ : ∃ w5, w4.alloc (.cells #[.slice CA C.length cc] 33) = w5 := ⟨_, rfl⟩
        obtain ⟨pC, hpC⟩ : ∃ pC, w4.heap.size = pC := ⟨_, rfl⟩
        have HB5 : Hid (Below w0.heap.size w0 w5) := zzh (by rw [← hw5]; exact hB4.trans (hbA.mono hB4.size))
        have HT5 : Hid (Below w.heap.size w w5) := zzh (by rw [← hw5]; exact hT4.trans (hbA.mono hT4.size))
        have HC5 : Hid (Blk w5 pC 33 #[.slice CA C.length cc]) := zzh (by rw [← hw5, ← hpC]; exact Blk.new _ _ _)
        have HOK : Hid (er = 0 → Well C ∧ IteOk C ∧ (C.length : Int) ≤ max 2 1000 ∧ Tab w5 CA C ∧ C.length ≤ cc) := zzh (fun e => by
          obtain ⟨g1, g2, g3, g4, g5⟩ := hok e
          exact ⟨g1, g2, g3, by rw [← hw5]; exact g4.alloc _, g5⟩)
        have HW5 := zzh hw5
        have HPC := zzh hpC
        clear hok hb4 hB4 hT4 hbA hw5 hpC x0 x1 x2 x3 x4 x5 KC
        go_upto_region 4 with (fail)
        rw [HW5.out, HPC.out]
        clear HW5 HPC
        by_cases he : er = 0
        rotate_left
        · have e1 : (er != 0) = true := by simpa using he
          clear he HOK
          go_wp2_with fail
          refine (wakes_ok _).mono ?_
          rintro e wz ⟨rfl, hbz⟩
          have HBz := zzh ((HT5.out).trans (hbz.mono (HT5.out).size))
          clear hbz
          go_wp2
          go_ret
          exact ⟨rfl, HBz.out⟩
        subst he
        obtain ⟨hwl, hit, hml, htc, hcc⟩ := HOK.out rfl
        have HWl := zzh hwl
        have HIt := zzh hit
        have HML : Hid (C.length ≤ 1000) := zzh (by omega)
        have HTC := zzh htc
        have HCC := zzh hcc
        clear hwl hit hml htc hcc HOK
        have x6 := tab_box HC5.out
        go_wp2_with fail
        refine (sput_ok cc 2000 HCC.out HTC.out (by have := HML.out; omega)).mono ?_
        rintro e w6 ⟨A2, c2, rfl, ht6, hc6, hb6⟩
        obtain ⟨⟨U, er⟩, hr⟩ : ∃ r, putS C 2000 = r := ⟨_, rfl⟩
        have HPS := zzh (putS_is HWl.out.core HWl.out.sum 2000)
        have HR := zzh hr
        rw [hr] at ht6 hc6 HPS ⊢
        simp only at ht6 hc6 HPS ⊢
        have hB6 := HB5.out.trans (hb6.mono HB5.out.size)
        have hT6 := HT5.out.trans (hb6.mono HT5.out.size)
        have hbA : Below w6.heap.size w6 (w6.alloc (.cells #[.slice A2 U.length c2] 33)) := (Below.refl _ w6).alloc (Nat.le_refl _) _
        obtain ⟨w7, hw7⟩ : ∃ w7, w6.alloc (.cells #[.slice A2 U.length c2] 33) = w7 := ⟨_, rfl⟩
        obtain ⟨pO, hpO⟩ : ∃ pO, w6.heap.size = pO := ⟨_, rfl⟩
        have HB7 : Hid (Below w0.heap.size w0 w7) := zzh (by rw [← hw7]; exact hB6.trans (hbA.mono hB6.size))
        have HT7 : Hid (Below w.heap.size w w7) := zzh (by rw [← hw7]; exact hT6.trans (hbA.mono hT6.size))
        have HO7 : Hid (Blk w7 pO 33 #[.slice A2 U.length c2]) := zzh (by rw [← hw7, ← hpO]; exact Blk.new _ _ _)
        have HU7 : Hid (Tab w7 A2 U) := zzh (by rw [← hw7]; exact ht6.alloc _)
        have HC6 := zzh hc6
        have HW7 := zzh hw7
        have HPO := zzh hpO
        clear hB6 hT6 hbA hb6 ht6 hc6 x6 hr hw7 hpO
        go_upto_region 7 with (fail)
        rw [HW7.out, HPO.out]
        clear HW7 HPO
        by_cases hf0 : er = 0
        rotate_left
        · have e1 : (er != 0) = true := by simpa using hf0
          clear hf0 HPS HR
          go_wp2_with fail
          refine (wakes_ok _).mono ?_
          rintro e wz ⟨rfl, hbz⟩
          have HBz := zzh ((HT7.out).trans (hbz.mono (HT7.out).size))
          clear hbz
          go_wp2
          go_ret
          exact ⟨rfl, HBz.out⟩
        subst hf0
        obtain ⟨gw, lw, hnl⟩ : Grew C U ∧ (∀ p ∈ pairsL (nodesT C), LaidP U p.1 p.2) ∧ (nodesT C).length ≤ 12 := by
          rcases HPS.out with ⟨_, g1, l1, h1⟩ | ⟨h1, _⟩
          · exact ⟨g1, l1, h1⟩
          · rcases h1 with h1 | h1 <;> cases h1
        have HNl : Hid ((nodesT U).length ≤ 500) := zzh (by rw [nodesT_grew gw]; omega)
        have HVals : Hid (∀ val : Int → Int, (∀ i : Int, 0 ≤ i → i < U.length → NodeSem U val i) → ∀ c ∈ allT U, ∃ x ∈ c, valM ((List.range U.length).map (toldF U val)) x = 1) := zzh (fun val h1 => share_vals HWl.out.core HWl.out.sum (most := 2000) (by rw [HR.out]) (by rw [HR.out]) h1)
        have hUl := HU7.out.len
        have K5a := zzh (K5.out w7 HB7.out U A2 c2 HU7.out)
        obtain ⟨⟨x0, x1, x2⟩, ⟨x3, x4⟩, _⟩ := HX.out w7 HB7.out
        have x6 := tab_box HO7.out
        have HLd : Hid (laidB U = true) := zzh (by
          have := putS_laid HWl.out.core HWl.out.sum HWl.out.noeq (most := 2000) (by rw [HR.out])
          rwa [HR.out] at this)
        clear gw lw hnl HPS HR K5
        go_wp2_with fail
        refine K5a.out.mono ?_
        rintro e w8 ⟨v1, v2, er, rfl, hyes, hb8⟩
        have HT8 := zzh (HT7.out.trans (hb8.mono HT7.out.size))
        have HO8 := zzh (HO7.out.below hb8 HO7.out.lt)
        have HU8 := zzh (HU7.out.below hb8)
        have HY := zzh hyes
        clear hyes hb8 x0 x1 x2 x3 x4 x6 K5a
        by_cases hv0 : er = 0
        rotate_left
        · have e1 : (er != 0) = true := bne_iff_ne.2 hv0
          clear hv0
          go_wp2_with fail
          refine (wakes_ok _).mono ?_
          rintro e wz ⟨rfl, hbz⟩
          have HBz := zzh ((HT8.out).trans (hbz.mono (HT8.out).size))
          clear hbz
          go_wp2
          go_ret
          exact ⟨rfl, HBz.out⟩
        have e1 : (er != 0) = false := by rw [hv0]; rfl
        obtain ⟨hTO, _, _, vals, overs, hF, ho1, ho2⟩ := HY.out hv0
        have h2 := hTO.len
        obtain ⟨q, qc, hv1, _, _, _⟩ := own_form ho1 (by omega)
        obtain ⟨q2, qc2, hv2, _, _, _⟩ := own_form ho2 (by omega)
        subst hv1 hv2
        have HF := zzh hF
        have x6 := tab_box HO8.out
        have e3 : ((U.length : Int) != (U.length : Int)) = false := by simp
        obtain ⟨j0, ji0, jz0, jz1, jz2⟩ := info_parts int8_info
        have hms := run_make_rowN (P := Tryz.prog) 41 44 j0 (.int .i8 0) Tryz.underlying41 ji0 jz0 .i64 .i64 U.length U.length (Nat.le_refl _) (by rw [jz2]; omega) (by omega) w8
        rw [jz1, Nat.mul_one, show (Value.int .i8 0).cells = #[Value.int .i8 0] from rfl, i8Cells_made] at hms
        obtain ⟨ab, hab⟩ : ∃ ab, w8.heap.size = ab := ⟨_, rfl⟩
        have HX0 : Hid (TY w pO w7.heap.size A2 U c2 q qc vals q2 qc2 overs ab (fun _ => 0) (w8.alloc (.cells (i8Cells U.length (fun _ => 0)) 44))) := zzh (by
          have hlt := HO8.out.lt
          have hsz := HT8.out.size
          exact ⟨HO8.out.alloc _, ho1.alloc _, ho2.alloc _, hab ▸ Blk.new w8 _ _, ⟨by omega, by omega⟩, HT8.out.alloc hsz _⟩)
        rw [hab] at hms
        have HAb : Hid (w8.heap.size ≤ ab) := zzh (by omega)
        have HBe0 : Hid (Below w8.heap.size w8 (w8.alloc (.cells (i8Cells U.length (fun _ => 0)) 44))) := zzh ((Below.refl _ w8).alloc (Nat.le_refl _) _)
        clear hv0 hTO hF ho1 ho2 hab HY
        go_wp2
        go_loopg [18] U.length (fun gg v W => ∃ (i : Nat) (F : Nat → Int), i + gg = U.length ∧ v = .int .i64 i ∧ (∀ k, k < i → overs.getD k true = false) ∧ (∀ k, k < U.length → F k = if k < i then toldF U (vf vals) k else 0) ∧ TY w pO w7.heap.size A2 U c2 q qc vals q2 qc2 overs ab F W ∧ Below w8.heap.size w8 W)
        case atStart => exact ⟨0, fun _ => 0, by omega, rfl, fun k hk => absurd hk (by omega), fun k _ => rfl, HX0.out, HBe0.out⟩
        case round =>
          obtain ⟨i, F, hig, rfl, hov, hFF, hx, hbe⟩ := hrel
          have HXx := zzh hx
          have HBe := zzh hbe
          have HOv := zzh hov
          have HFF := zzh hFF
          have c0 := tab_box HXx.out.tb
          clear hx hov hFF HX0 x6 hbe
          cases gk with
          | zero =>
            obtain rfl : i = U.length := by omega
            have d1 : decide ((U.length : Int) < U.length) = false := by simp
            go_wp2_with fail
            refine (sall_ok c2 HC6.out (HU8.out.below HBe.out) HNl.out).mono ?_
            rintro e w9 ⟨v, rows, rfl, hg, hrows, hb9⟩
            rw [if_pos HLd.out] at hrows ⊢
            obtain ⟨VA, vc, rfl, _⟩ := hg.form
            have ha := HXx.out.a
            rw [told_cells HFF.out] at ha
            have h8 := i8_row (ha.below hb9 ha.lt) hUl
            have KH := holds15t_ok U.length hg h8 (fun r hr x hx => by
              have := all_range (T := U) r.2.2 (by rw [← hrows]; exact List.mem_map.2 ⟨r, hr, rfl⟩) x hx
              omega) (fun r hr => HVals.out (vf vals) (fun k h0 h1 => by
                obtain ⟨k', rfl⟩ : ∃ k' : Nat, k = k' := ⟨k.toNat, by omega⟩
                exact HF.out.sem k' (by omega) (HOv.out k' (by omega))) r.2.2 (by rw [← hrows]; exact List.mem_map.2 ⟨r, hr, rfl⟩))
            rw [List.length_map, List.length_range] at KH
            have KH := zzh KH
            have HT9 := zzh (HXx.out.bel.trans (hb9.mono HXx.out.bel.size))
            clear hg hrows hb9 ha h8 c0
            go_wp2_with fail
            refine KH.out.mono ?_
            rintro e wa ⟨rfl, rfl⟩
            clear KH
            go_wp2_with fail
            refine (wakes_ok _).mono ?_
            rintro e wz ⟨rfl, hbz⟩
            have HBz := zzh ((HT9.out).trans (hbz.mono (HT9.out).size))
            clear hbz
            go_wp2
            go_ret
            exact ⟨rfl, HBz.out⟩
          | succ gk =>
            have hlt : i < U.length := by omega
            have d1 : decide ((i : Int) < U.length) = true := by simp; omega
            have t1 : (0 : Int) ≤ (i : Int) := by omega
            have t2 : (i : Int) < (U.length : Int) := by omega
            have y1 := own_int_at HXx.out.own (k := i) (by rw [HF.out.l1]; exact hlt)
            have y2 := own_bool_at HXx.out.oown (k := i) (by rw [HF.out.l2]; exact hlt)
            obtain ⟨ov, hovv⟩ : ∃ ov, overs.getD i true = ov := ⟨_, rfl⟩
            rw [hovv] at y2
            cases ov with
            | true =>
              clear hovv
              have HTx := zzh HXx.out.bel
              go_wp2_with fail
              refine (wakes_ok _).mono ?_
              rintro e wz ⟨rfl, hbz⟩
              have HBz := zzh ((HTx.out).trans (hbz.mono (HTx.out).size))
              clear hbz
              go_wp2
              go_ret
              exact ⟨rfl, HBz.out⟩
            | false =>
              have HO2 : Hid (∀ k, k < i + 1 → overs.getD k true = false) := zzh (fun k hk => by
                by_cases e : k = i
                · rw [e]; exact hovv
                · exact HOv.out k (by omega))
              have HSem := zzh (HF.out.sem i hlt hovv)
              obtain ⟨b, off, hA, hbb, hcell⟩ := (HU8.out.below HBe.out).at_.resolve_left (by omega)
              obtain ⟨z0, z1, z2, z3, z4, z5, z6, z7⟩ := (hcell i hlt).all
              have HNd := zzh (ndAt_nat (T := U) hlt)
              subst hA
              clear hovv hcell hbb z0 z1 z2 z3 z4 z6 z7
              by_cases hs : U[i].sort = 0
              · have b2 : (U[i].sort == 0) = true := beq_iff_eq.2 hs
                have hb01 := HSem.out.bool (by rw [HNd.out]; exact hs)
                have ya : wr.cell? ⟨ab, i, none⟩ = some (.int .i8 (F i)) := by rw [HXx.out.a.cell]; exact i8Cells_get hlt
                have yf := HXx.out.a.frozen i
                have HNext := zzh (fun (x : Int) (hx : x = 2 - vf vals (i : Int)) => told_next HFF.out (by rw [HNd.out]; exact hs) hx)
                generalize U[i] = n at *
                generalize F i = fi at *
                generalize vf vals (i : Int) = x at *
                clear hs
                rcases hb01 with rfl | rfl
                · have HX2 := zzh (HXx.out.set i 2)
                  have HB2e := zzh (HBe.out.setCell (p := ⟨ab, i, none⟩) HAb.out (.int .i8 2))
                  go_wp2
                  go_roundg gk
                  case measure => omega
                  case rel => exact ⟨i + 1, _, by omega, by go_num, HO2.out, HNext.out 2 (by decide), HX2.out, HB2e.out⟩
                · have HX2 := zzh (HXx.out.set i 1)
                  have HB2e := zzh (HBe.out.setCell (p := ⟨ab, i, none⟩) HAb.out (.int .i8 1))
                  go_wp2
                  go_roundg gk
                  case measure => omega
                  case rel => exact ⟨i + 1, _, by omega, by go_num, HO2.out, HNext.out 1 (by decide), HX2.out, HB2e.out⟩
              · have b2 : (U[i].sort == 0) = false := beq_eq_false_iff_ne.2 hs
                have HNext := zzh (told_skip HFF.out (by rw [HNd.out]; exact hs))
                generalize U[i] = n at *
                clear hs
                go_wp2
                go_roundg gk
                case measure => omega
                case rel => exact ⟨i + 1, _, by omega, by go_num, HO2.out, HNext.out, HXx.out, HBe.out⟩
theorem shareHolds_walk (g : SigV) (wl : WldV) (x : TabIn) (A3 : Option Addr) (l3 c3 : Nat) (z3 : List Int) (w : World) (h0 : g.Ok w) (h1 : wl.Ok w) (h2 : x.Ok w) (h3 : IsRow .i64 w A3 l3 c3 z3) :
    Calls Tryz.prog 7 #[g.val, wl.val, x.val, .slice A3 l3 c3] w (fun e w' => e = .returned (.bool true) ∧ Below w.heap.size w w') := by
  obtain ⟨A, n, c, f⟩ := x
  unfold TabIn.val TabIn.Ok SigV.val WldV.val at *
  simp only at h2 ⊢
  refine shareHolds_core c c3 h0.1 h0.2 h1.1 h1.2 (fun hb => ⟨_, by simp, h2.tab (by omega)⟩) (fun hb => ?_)
  obtain ⟨L, e1, hL, _⟩ := isRow_row h3 (by omega)
  exact ⟨L, e1, hL⟩
end Go.Proofs.YtlipnnibagidiaaGreat

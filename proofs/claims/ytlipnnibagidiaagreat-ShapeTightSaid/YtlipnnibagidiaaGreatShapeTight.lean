/- ShapeTight' walk. -/
import Derived.Test.YtlipnnibagidiaaGreatCfB
import Derived.Test.YtlipnnibagidiaaGreatVmD
namespace Go.Proofs.YtlipnnibagidiaaGreat
open Go.RowKit Go.Lib Go.ChangeShapes Go.WideShapes Go.ChangeAt
set_option maxRecDepth 100000 in
set_option maxHeartbeats 16000000 in
theorem shapeTight_core {w : World} {g : SigV} {wl : WldV} {A B : Option Addr} {n lB : Nat} {at_ : Int} (c cB : Nat) (hg : SigAt w g) (hd : SigDeep w g) (hw : WldAt w wl) (hwf : WldWf wl) (h : n ≤ 300 → ∃ T : List Nd, T.length = n ∧ Tab w A T) (hB : lB ≤ 100 → ∃ LB : List Int, LB.length = lB ∧ Row w B LB) :
    Calls Tryz.prog 3 #[.agg g.cells, .agg wl.cells, .agg #[.slice A n c], .slice B lB cB, .int .i64 at_] w (fun e w' => e = .returned (.bool true) ∧ Below w.heap.size w w') := by
  obtain ⟨S, hS⟩ : ∃ S, w.heap.size = S := ⟨_, rfl⟩
  obtain ⟨w0, hw0⟩ : ∃ w0, ((w.alloc (.cells g.cells 26)).alloc (.cells wl.cells 30)).alloc (.cells #[.slice A n c] 33) = w0 := ⟨_, rfl⟩
  have HB0 : Hid (Below w.heap.size w w0) := Lib.hid (by
    rw [← hw0]
    exact (((Below.refl _ w).alloc (Nat.le_refl _) _).alloc (by simp) _).alloc (by simp; omega) _)
  have HBx : Hid (Blk w0 S 26 g.cells ∧ Blk w0 (S + 1) 30 wl.cells ∧ Blk w0 (S + 1 + 1) 33 #[.slice A n c]) := Lib.hid (by
    rw [← hw0, ← hS]
    exact ⟨((Blk.new w 26 g.cells).alloc _).alloc _, (Blk.new_at (by simp) _ _).alloc _, Blk.new_at (by simp) _ _⟩)
  have HG := Lib.hid (hg.below HB0.out)
  have HD := Lib.hid (hd.below HB0.out)
  have HW := Lib.hid (hw.below HB0.out)
  have HWf := Lib.hid hwf
  have HTb : Hid (n ≤ 300 → ∃ T : List Nd, T.length = n ∧ Tab w0 A T) := Lib.hid (fun e => by
    obtain ⟨T, h1, h2⟩ := h e
    exact ⟨T, h1, h2.below HB0.out⟩)
  have HRw : Hid (lB ≤ 100 → ∃ LB : List Int, LB.length = lB ∧ Row w0 B LB) := Lib.hid (fun e => by
    obtain ⟨T, h1, h2⟩ := hB e
    exact ⟨T, h1, h2.below HB0.out⟩)
  have HGC : Hid (g.cells = #[.slice g.A0 g.sorts.length g.c0, .slice g.A1 g.funs.length g.c1, .slice g.A2 g.macs.length g.c2]) := Lib.hid rfl
  have HVC : Hid (wl.cells = #[.slice wl.A0 wl.sizes.length wl.c0, .slice wl.A1 wl.funs.length wl.c1]) := Lib.hid rfl
  have HX : Hid (∀ W, Below w0.heap.size w0 W → (W.cell? ⟨S, 0, none⟩ = some (.slice g.A0 g.sorts.length g.c0) ∧ W.cell? ⟨S, 1, none⟩ = some (.slice g.A1 g.funs.length g.c1) ∧ W.cell? ⟨S, 2, none⟩ = some (.slice g.A2 g.macs.length g.c2)) ∧ (W.cell? ⟨S + 1, 0, none⟩ = some (.slice wl.A0 wl.sizes.length wl.c0) ∧ W.cell? ⟨S + 1, 1, none⟩ = some (.slice wl.A1 wl.funs.length wl.c1)) ∧ W.cell? ⟨S + 1 + 1, 0, none⟩ = some (.slice A n c)) := Lib.hid (fun W hW => by
    obtain ⟨h1, h2, h3⟩ := HBx.out
    exact ⟨sig_blk (h1.below hW h1.lt), wld_blk (h2.below hW h2.lt), tab_box (h3.below hW h3.lt)⟩)
  have K0 := Lib.hid (lgreat_ok HG.out HD.out)
  have K1 := Lib.hid (fun W (hW : Below w0.heap.size w0 W) => wgreat14_ok (HW.out.below hW))
  have K2 := Lib.hid (fun W => rgreat_ok (w := W) A n c)
  have K5 := Lib.hid (fun W (hW : Below w0.heap.size w0 W) (C : List Nd) (CA : Option Addr) (cc : Nat) (ht : Tab W CA C) => told_ok cc (HG.out.below hW) (HD.out.below hW) (HW.out.below hW) HWf.out ht)
  rw [HGC.out] at hw0 K0 K5 ⊢
  rw [HVC.out] at hw0 K1 K5 ⊢
  have HW0 := Lib.hid hw0
  have HSz := Lib.hid hS
  clear hg hd hw hwf h hB hw0
  go_enter Tryz.func3, Tryz.ntmps3
  go_upto_region 1 with (fail)
  rw [HW0.out]
  clear HW0 hS
  obtain ⟨⟨x0, x1, x2⟩, ⟨x3, x4⟩, x5⟩ := HX.out w0 (Below.refl _ _)
  go_wp2_with fail
  refine K0.out.mono ?_
  rintro e w1 ⟨q1, rfl, hb1⟩
  have HB1 := Lib.hid hb1
  have HT1 := Lib.hid (HB0.out.trans (hb1.mono HB0.out.size))
  clear hb1 x0 x1 x2 x3 x4 x5 K0
  obtain ⟨⟨x0, x1, x2⟩, ⟨x3, x4⟩, x5⟩ := HX.out w1 HB1.out
  cases q1 with
  | true =>
    go_wp2_with fail
    refine (wakes14_ok _).mono ?_
    rintro e wz ⟨rfl, hbz⟩
    have HBz := Lib.hid ((HT1.out).trans (hbz.mono (HT1.out).size))
    clear hbz
    go_wp2
    go_ret
    exact ⟨rfl, HBz.out⟩
  | false =>
    have K1a := Lib.hid (K1.out w1 HB1.out)
    go_wp2_with fail
    refine K1a.out.mono ?_
    rintro e w2 ⟨q2, rfl, hb2⟩
    have HB2 := Lib.hid (HB1.out.trans (hb2.mono HB1.out.size))
    have HT2 := Lib.hid (HT1.out.trans (hb2.mono HT1.out.size))
    clear hb2 x0 x1 x2 x3 x4 x5 K1a K1
    obtain ⟨⟨x0, x1, x2⟩, ⟨x3, x4⟩, x5⟩ := HX.out w2 HB2.out
    cases q2 with
    | true =>
      go_wp2_with fail
      refine (wakes14_ok _).mono ?_
      rintro e wz ⟨rfl, hbz⟩
      have HBz := Lib.hid ((HT2.out).trans (hbz.mono (HT2.out).size))
      clear hbz
      go_wp2
      go_ret
      exact ⟨rfl, HBz.out⟩
    | false =>
      have K2a := Lib.hid (K2.out w2)
      obtain ⟨gr, hgr⟩ : ∃ gr, decide (300 < n) = gr := ⟨_, rfl⟩
      rw [hgr] at K2a
      have HGr := Lib.hid hgr
      clear hgr
      go_wp2_with fail
      refine K2a.out.mono ?_
      rintro e w3 ⟨rfl, hb3⟩
      have HB3 := Lib.hid (HB2.out.trans (hb3.mono HB2.out.size))
      have HT3 := Lib.hid (HT2.out.trans (hb3.mono HT2.out.size))
      clear hb3 x0 x1 x2 x3 x4 x5 K2a K2
      obtain ⟨⟨x0, x1, x2⟩, ⟨x3, x4⟩, x5⟩ := HX.out w3 HB3.out
      cases gr with
      | true =>
        go_wp2_with fail
        refine (wakes14_ok _).mono ?_
        rintro e wz ⟨rfl, hbz⟩
        have HBz := Lib.hid ((HT3.out).trans (hbz.mono (HT3.out).size))
        clear hbz
        go_wp2
        go_ret
        exact ⟨rfl, HBz.out⟩
      | false =>
        have hn := of_decide_eq_false HGr.out
        obtain ⟨T, hTl, hTab⟩ := HTb.out (by omega)
        by_cases hlB : 100 < lB
        · have eB : decide (((lB : Nat) : Int) > 100) = true := by simp; omega
          have fB : decide ((100 : Int) < ((lB : Nat) : Int)) = true := by simp; omega
          clear hn hlB
          go_wp2_with fail
          refine (wakes14_ok _).mono ?_
          rintro e wz ⟨rfl, hbz⟩
          have HBz := Lib.hid ((HT3.out).trans (hbz.mono (HT3.out).size))
          clear hbz
          go_wp2
          go_ret
          exact ⟨rfl, HBz.out⟩
        have eB : decide (((lB : Nat) : Int) > 100) = false := by simp; omega
        have fB : decide ((100 : Int) < ((lB : Nat) : Int)) = false := by simp; omega
        obtain ⟨LB, hLl, hRow⟩ := HRw.out (by omega)
        have KC := cof_ok c cB 2000 (by decide) (hTab.below HB3.out) (hRow.below HB3.out)
        rw [hTl, hLl] at KC
        have KC := Lib.hid KC
        clear hn hlB hTab hRow hTl hLl
        go_wp2_with fail
        refine KC.out.mono ?_
        rintro e w4 ⟨CA, C, cc, oA, on, oc, er, rfl, hok, hb4⟩
        have hB4 := HB3.out.trans (hb4.mono HB3.out.size)
        have hT4 := HT3.out.trans (hb4.mono HT3.out.size)
        have hbA : Below w4.heap.size w4 (w4.alloc (.cells #[.slice CA C.length cc] 33)) := (Below.refl _ w4).alloc (Nat.le_refl _) _
        obtain ⟨w5, hw5⟩ : ∃ w5, w4.alloc (.cells #[.slice CA C.length cc] 33) = w5 := ⟨_, rfl⟩
        obtain ⟨pC, hpC⟩ : ∃ pC, w4.heap.size = pC := ⟨_, rfl⟩
        have HB5 : Hid (Below w0.heap.size w0 w5) := Lib.hid (by rw [← hw5]; exact hB4.trans (hbA.mono hB4.size))
        have HT5 : Hid (Below w.heap.size w w5) := Lib.hid (by rw [← hw5]; exact hT4.trans (hbA.mono hT4.size))
        have HC5 : Hid (Blk w5 pC 33 #[.slice CA C.length cc]) := Lib.hid (by rw [← hw5, ← hpC]; exact Blk.new _ _ _)
        have HOK : Hid (er = 0 → Well C ∧ IteOk C ∧ (C.length : Int) ≤ max 2 2000 ∧ Tab w5 CA C ∧ C.length ≤ cc) := Lib.hid (fun e => by
          obtain ⟨g1, g2, g3, g4, g5⟩ := hok e
          exact ⟨g1, g2, g3, by rw [← hw5]; exact g4.alloc _, g5⟩)
        have HW5 := Lib.hid hw5
        have HPC := Lib.hid hpC
        clear hok hb4 hB4 hT4 hbA hw5 hpC x0 x1 x2 x3 x4 x5 KC
        go_upto_region 4 with (fail)
        rw [HW5.out, HPC.out]
        clear HW5 HPC
        by_cases he : er = 0
        rotate_left
        · have e1 : (er != 0) = true := by simpa using he
          clear he HOK
          go_wp2_with fail
          refine (wakes14_ok _).mono ?_
          rintro e wz ⟨rfl, hbz⟩
          have HBz := Lib.hid ((HT5.out).trans (hbz.mono (HT5.out).size))
          clear hbz
          go_wp2
          go_ret
          exact ⟨rfl, HBz.out⟩
        subst he
        obtain ⟨hwl, hit, hml, htc, hcc⟩ := HOK.out rfl
        have HWl := Lib.hid hwl
        have HIt := Lib.hid hit
        have HML : Hid (C.length ≤ 2000) := Lib.hid (by omega)
        have HTC := Lib.hid htc
        have HCC := Lib.hid hcc
        have K5a := Lib.hid (K5.out w5 HB5.out C CA cc htc)
        clear hwl hit hml htc hcc HOK K5
        obtain ⟨⟨x0, x1, x2⟩, ⟨x3, x4⟩, x5⟩ := HX.out w5 HB5.out
        have x6 := tab_box HC5.out
        go_wp2_with fail
        refine K5a.out.mono ?_
        rintro e w6 ⟨v, ok, rfl, hyes, hb6⟩
        have HB6 := Lib.hid hb6
        have HT6 := Lib.hid (HT5.out.trans (hb6.mono HT5.out.size))
        have HY := Lib.hid hyes
        clear hyes hb6 x0 x1 x2 x3 x4 x5 x6 K5a
        cases ok with
        | false =>
          go_wp2_with fail
          refine (wakes14_ok _).mono ?_
          rintro e wz ⟨rfl, hbz⟩
          have HBz := Lib.hid ((HT6.out).trans (hbz.mono (HT6.out).size))
          clear hbz
          go_wp2
          go_ret
          exact ⟨rfl, HBz.out⟩
        | true =>
          obtain ⟨ab, val, rfl, hlow, hab, hsem⟩ := HY.out rfl
          have HLow : Hid (w.heap.size ≤ ab) := Lib.hid (Nat.le_trans HT5.out.size hlow)
          clear hlow
          have HAb := Lib.hid hab
          have HSm := Lib.hid (sem_of hsem)
          have x6 := tab_box (HC5.out.below HB6.out HC5.out.lt)
          clear hab hsem HY
          have h2 := HWl.out.core.ok.len
          have hml := HML.out
          obtain ⟨a1, ha1⟩ : ∃ a1, at_.tmod (C.length : Int) = a1 := ⟨_, rfl⟩
          have ha2 : -(C.length : Int) < a1 ∧ a1 < C.length := by
            rw [← ha1]
            refine ⟨?_, Int.tmod_lt_of_pos at_ (by omega)⟩
            rcases Int.le_total 0 at_ with h | h
            · have := Int.tmod_nonneg (C.length : Int) h
              omega
            · have e : at_.tmod (C.length : Int) = -((-at_).tmod (C.length : Int)) := by rw [← Int.neg_tmod, Int.neg_neg]
              have := Int.tmod_lt_of_pos (-at_) (b := (C.length : Int)) (by omega)
              omega
          have hw1 : wrap64 (a1 + (C.length : Int)) = a1 + C.length := IntWalk.wrap64_in _ ⟨by omega, by omega⟩
          obtain ⟨k, hk⟩ : ∃ k : Nat, (a1 + (C.length : Int)).tmod (C.length : Int) = k := ⟨((a1 + (C.length : Int)).tmod (C.length : Int)).toNat, by have := Int.tmod_nonneg (C.length : Int) (a := a1 + C.length) (by omega); omega⟩
          have hkl : k < C.length := by have := Int.tmod_lt_of_pos (a1 + (C.length : Int)) (b := (C.length : Int)) (by omega); omega
          have HKl := Lib.hid hkl
          have e0 : ((C.length : Int) == 0) = false := beq_eq_false_iff_ne.2 (by omega)
          have e0' : ¬ (C.length : Int) = 0 := by omega
          have HC6 := Lib.hid (HC5.out.below HB6.out HC5.out.lt)
          clear ha2 hkl h2 hml
          go_wp2
          go_quiet (fail)
          have HB6q := Lib.hid (below_drewN HB6.out nq)
          have HT6q := Lib.hid (below_drewN HT6.out nq)
          have HA6 := Lib.hid (HAb.out.drewN nq)
          have HC7 := Lib.hid (HC6.out.drewN nq)
          generalize w6.drewN nq = w7 at *
          have x7 := tab_box HC7.out
          have KK := Lib.hid (rkind_ok (c := cc) (HTC.out.below HB6q.out) (k : Int))
          clear x6
          go_wp2_with fail
          refine KK.out.mono ?_
          rintro e w8 ⟨rfl, hb8⟩
          have HB8 := Lib.hid (HB6q.out.trans (hb8.mono HB6q.out.size))
          have HT8 := Lib.hid (HT6q.out.trans (hb8.mono HT6q.out.size))
          have HA8 := Lib.hid (HA6.out.below hb8 HA6.out.lt)
          have HC8 := Lib.hid (HC7.out.below hb8 HC7.out.lt)
          have x8 := tab_box HC8.out
          have KO := Lib.hid (shof_ok cc HCC.out (HTC.out.below HB8.out) HWl.out HIt.out k HKl.out)
          obtain ⟨kd, hkd⟩ : ∃ kd, kindM C (k : Int) = kd := ⟨_, rfl⟩
          rw [hkd]
          have HKd := Lib.hid hkd
          clear hb8 x7 KK hkd
          go_wp2_with fail
          refine KO.out.mono ?_
          rintro e w9 ⟨v, rows, rfl, hg, hrows, hb9⟩
          have HB9 := Lib.hid (HB8.out.trans (hb9.mono HB8.out.size))
          have HT9 := Lib.hid (HT8.out.trans (hb9.mono HT8.out.size))
          have HA9 := Lib.hid (HA8.out.below hb9 HA8.out.lt)
          have HC9 := Lib.hid (HC8.out.below hb9 HC8.out.lt)
          have x9 := tab_box HC9.out
          have HGr := Lib.hid hg
          have HRo := Lib.hid hrows
          have HFit := Lib.hid (HWl.out.core.fit _ (ndAt_mem (T := C) (i := (k : Int)) (by omega) (by have := HKl.out; omega)))
          have HCn := Lib.hid (kind_conn HWl.out HKl.out (fun e => by have := HFit.out; unfold fitB at this; rw [if_pos (by omega)] at this; cases this) (fun e => by have := HFit.out; unfold fitB at this; rw [if_pos (by omega)] at this; cases this))
          rw [HKd.out] at HCn
          obtain ⟨VA, vc, rfl, _⟩ := hg.form
          clear hg hrows hb9 x8 KO
          have HTc := Lib.hid (HTC.out.below HB9.out)
          obtain ⟨tb, toff, hTA, htb, htc⟩ := HTc.out.at_.resolve_left (by have := HKl.out; omega)
          have y0 := (htc k HKl.out).all.1
          have HNd := Lib.hid (ndAt_nat (T := C) HKl.out)
          rw [← HNd.out] at y0
          have s1 : (0 : Int) ≤ (k : Int) := by omega
          have s2 : (k : Int) < (C.length : Int) := by have := HKl.out; omega
          have hrl : rows.length = (shapeP C k).length := by rw [← HRo.out, List.length_map]
          by_cases hc : Conn14 C k
          rotate_left
          · have hk3 : kd ≠ 3 := fun e => hc (HCn.out.1 (.inl e))
            have hk1 : kd ≠ 1 := fun e => hc (HCn.out.1 (.inr e))
            have b3 : (kd != 3) = true := bne_iff_ne.2 hk3
            have b1 : (kd != 1) = true := bne_iff_ne.2 hk1
            have hir := ite_rows hc
            rw [← hrl] at hir
            subst hTA
            by_cases h7 : (ndAt C (k : Int)).op = 7
            · have b7 : ((ndAt C (k : Int)).op == 7) = true := beq_iff_eq.2 h7
              have hrp : 0 < rows.length := by
                rcases Nat.eq_zero_or_pos rows.length with e | e
                · exact absurd h7 (hir.1 e)
                · exact e
              have b8 : decide ((rows.length : Int) > 0) = true := decide_eq_true (by omega)
              have b8' : decide ((0 : Int) < (rows.length : Int)) = true := decide_eq_true (by omega)
              have b8'' : decide (0 < rows.length) = true := decide_eq_true hrp
              clear hc hir hrl htc htb hk3 hk1
              go_wp2_with fail
              refine (wakes14_ok _).mono ?_
              rintro e wz ⟨rfl, hbz⟩
              have HBz := Lib.hid ((HT9.out).trans (hbz.mono (HT9.out).size))
              clear hbz
              go_wp2
              go_ret
              exact ⟨rfl, HBz.out⟩
            · have b7 : ((ndAt C (k : Int)).op == 7) = false := beq_eq_false_iff_ne.2 h7
              have hrp : rows.length = 0 := hir.2 h7
              have b8 : decide ((rows.length : Int) > 0) = false := decide_eq_false (by omega)
              have b8' : decide ((0 : Int) < (rows.length : Int)) = false := decide_eq_false (by omega)
              have b8'' : decide (0 < rows.length) = false := decide_eq_false (by omega)
              clear hc hir hrl htc htb hk3 hk1
              go_wp2_with fail
              refine (wakes14_ok _).mono ?_
              rintro e wz ⟨rfl, hbz⟩
              have HBz := Lib.hid ((HT9.out).trans (hbz.mono (HT9.out).size))
              clear hbz
              go_wp2
              go_ret
              exact ⟨rfl, HBz.out⟩
          · have hs := conn_sort HWl.out HKl.out hc
            have hv01 := HSm.out.bool (k : Int) (by omega) s2 hs
            have hab8 : ab < w8.heap.size := HA8.out.lt
            have HCc := Lib.hid hc
            have HTs : Hid (∀ x : Int, Below w.heap.size w (w9.setCell ⟨ab, k, none⟩ (.int .i8 x))) := Lib.hid (fun x => HT9.out.setCell HLow.out _)
            have KH := Lib.hid (fun (x : Int) (hx : 3 - toldF C val k = x) => by
              have hG : GridV (fun b => w8.heap.size ≤ b) (w9.setCell ⟨ab, k, none⟩ (.int .i8 x)) (.slice VA rows.length vc) rows := HGr.out.kept (Kept.set1 w9 ab k _) (fun b _ hb e => by omega)
              have hS := HA9.out.set_ k (.int .i8 x)
              rw [i8Cells_set, ← hx, toldF_flip hs, hx] at hS
              have KH := holds14_ok C.length hG (i8_row hS (by have := HML.out; omega)) (fun r hr x hx => by
                have hm : r.2.2 ∈ shapeP C k := by rw [← HRo.out]; exact List.mem_map.2 ⟨r, hr, rfl⟩
                have := (shapeP_bool HWl.out HIt.out (by omega) (by have := HKl.out; omega) _ hm x hx).1
                exact ⟨this.1, by rw [List.length_map, List.length_range]; exact this.2⟩) (toldF_range2 HSm.out HKl.out hs)
              rw [List.length_map, List.length_range] at KH
              exact KH)
            have HNot : Hid (¬ ∀ r ∈ rows, ∃ x ∈ r.2.2, onA ((List.range C.length).map (toldF C (flipV val k))) x = true) := Lib.hid (fun ha => shapeP_tight HWl.out HIt.out HSm.out HKl.out HCc.out (fun c hc => by
              rw [← HRo.out] at hc
              obtain ⟨r, hr, rfl⟩ := List.mem_map.1 hc
              exact ha r hr))
            have ya : w9.cell? ⟨ab, k, none⟩ = some (.int .i8 (toldF C val k)) := by rw [HA9.out.cell]; exact i8Cells_get HKl.out
            have yf := HA9.out.frozen k
            have hf : toldF C val k = 2 - val k := by unfold toldF; rw [if_pos hs]
            rw [hf] at ya KH
            have hkd := HCn.out.2 hc
            clear hc hs hab8 hf hrl htc htb hTA y0
            rcases hv01 with e | e
            all_goals rw [e] at ya KH
            · have KHx := Lib.hid (KH.out 1 (by decide))
              have HTx := Lib.hid (HTs.out 1)
              clear e KH HTs
              rcases hkd with rfl | rfl
              all_goals
                go_wp2_with fail
                refine KHx.out.mono ?_
                rintro e wa ⟨q8, rfl, hq8, hb8⟩
                have hqf : q8 = false := by
                  cases q8 with
                  | false => rfl
                  | true => exact absurd (hq8.1 rfl) HNot.out
                subst hqf
                have HT8a := Lib.hid (HTx.out.trans (hb8.mono HTx.out.size))
                clear hq8 hb8 KHx
                go_wp2_with fail
                refine (wakes14_ok _).mono ?_
                rintro e wz ⟨rfl, hbz⟩
                have HBz := Lib.hid ((HT8a.out).trans (hbz.mono (HT8a.out).size))
                clear hbz
                go_wp2
                go_ret
                exact ⟨rfl, HBz.out⟩
            · have KHx := Lib.hid (KH.out 2 (by decide))
              have HTx := Lib.hid (HTs.out 2)
              clear e KH HTs
              rcases hkd with rfl | rfl
              all_goals
                go_wp2_with fail
                refine KHx.out.mono ?_
                rintro e wa ⟨q8, rfl, hq8, hb8⟩
                have hqf : q8 = false := by
                  cases q8 with
                  | false => rfl
                  | true => exact absurd (hq8.1 rfl) HNot.out
                subst hqf
                have HT8a := Lib.hid (HTx.out.trans (hb8.mono HTx.out.size))
                clear hq8 hb8 KHx
                go_wp2_with fail
                refine (wakes14_ok _).mono ?_
                rintro e wz ⟨rfl, hbz⟩
                have HBz := Lib.hid ((HT8a.out).trans (hbz.mono (HT8a.out).size))
                clear hbz
                go_wp2
                go_ret
                exact ⟨rfl, HBz.out⟩
theorem shapeTight_walk (g : SigV) (wl : WldV) (x : TabIn) (A3 : Option Addr) (l3 c3 : Nat) (z3 : List Int) (at_ : Int) (w : World) (h0 : g.Ok w) (h1 : wl.Ok w) (h2 : x.Ok w) (h3 : IsRow .i64 w A3 l3 c3 z3) (_h4 : (Lit.int .i64 at_).wf = true) :
    Calls Tryz.prog 3 #[g.val, wl.val, x.val, .slice A3 l3 c3, .int .i64 at_] w (fun e w' => e = .returned (.bool true) ∧ Below w.heap.size w w') := by
  obtain ⟨A, n, c, f⟩ := x
  unfold TabIn.val TabIn.Ok SigV.val WldV.val at *
  simp only at h2 ⊢
  refine shapeTight_core c c3 h0.1 h0.2 h1.1 h1.2 (fun hb => ⟨_, by simp, h2.tab (by omega)⟩) (fun hb => ?_)
  obtain ⟨L, e1, hL, _⟩ := isRow_row h3 (by omega)
  exact ⟨L, e1, hL⟩
end Go.Proofs.YtlipnnibagidiaaGreat

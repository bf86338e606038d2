/- gantryref10.Values, exactly where applications are. -/
import Derived.Test.YtkapbdjobfbhhaaGreatVlW
namespace Go.Proofs.YtkapbdjobfbhhaaGreat
open Go.RowKit Go.Lib
set_option maxRecDepth 100000 in
set_option maxHeartbeats 16000000 in
theorem xvalues_ok {g : SigV} {wl : WldV} {qs : Nat → Bool} {sf : Nat → Nat → ByteArray} {zf : Nat → Nat → Int} {T : List Nd} {w : World} {A : Option Addr} (c : Nat) (hg : SigAt w g) (hd : SigDD w g qs sf zf) (hw : WldAt w wl) (hwf : WldWf wl) (h : Tab w A T) :
    Calls Tryz.prog 8 #[.agg g.cells, .agg wl.cells, .agg #[.slice A T.length c]] w (ValsX (applyM g wl qs sf zf) g wl T w) := by
  have hlen := h.len
  obtain ⟨i0, hi0, hz0, hz1, hz2⟩ := info_parts int_info
  obtain ⟨j0, hj0, jz0, jz1, jz2⟩ := info_parts bool_info
  obtain ⟨B, hB⟩ : ∃ B, w.heap.size = B := ⟨_, rfl⟩
  obtain ⟨w0, hw0⟩ : ∃ w0, ((w.alloc (.cells g.cells 26)).alloc (.cells wl.cells 30)).alloc (.cells #[.slice A T.length c] 33) = w0 := ⟨_, rfl⟩
  have HV0 : Hid (VX w B g wl A T c (.slice none 0 0) [] (.slice none 0 0) [] w0) := Lib.hid (by
    rw [← hw0, ← hB]
    exact ⟨((Blk.new w 26 g.cells).alloc _).alloc _, (Blk.new_at (by simp) _ _).alloc _, Blk.new_at (by simp) _ _, rfl, World.ownsRow_nil _ _ _ _, World.ownsRow_nil _ _ _ _, (((Below.refl _ w).alloc (Nat.le_refl _) _).alloc (by simp) _).alloc (by simp; omega) _⟩)
  have HG := Lib.hid hg
  have HD := Lib.hid hd
  have HW := Lib.hid hw
  have HWf := Lib.hid hwf
  have HT := Lib.hid h
  have KC := Lib.hid (fun W (hW : Below w.heap.size w W) => rcheck_ok c (h.below hW))
  have KM := Lib.hid (fun W (hW : Below w.heap.size w W) => xmay09_ok (hg.below hW) (hd.below hW).2 (hw.below hW))
  have KT := Lib.hid (fun W (hW : Below w.heap.size w W) => table06_ok c (hg.below hW) (hd.below hW).1 (h.below hW))
  have HGC : Hid (g.cells = #[.slice g.A0 g.sorts.length g.c0, .slice g.A1 g.funs.length g.c1, .slice g.A2 g.macs.length g.c2]) := Lib.hid rfl
  have HVC : Hid (wl.cells = #[.slice wl.A0 wl.sizes.length wl.c0, .slice wl.A1 wl.funs.length wl.c1]) := Lib.hid rfl
  have HNo : Hid (∀ er w', er ≠ 0 → Below B w w' → ValsX (applyM g wl qs sf zf) g wl T w (.returned (.tuple #[.slice none 0 0, .slice none 0 0, .int .i64 er])) w') := Lib.hid (fun er w' h1 h2 => ValsX.no h1 (by rw [hB]; exact h2))
  have HBs := Lib.hid hB
  obtain ⟨AF, hAF⟩ : ∃ AF, applyM g wl qs sf zf = AF := ⟨_, rfl⟩
  rw [hAF] at HNo ⊢
  have HAF := Lib.hid hAF
  clear hAF
  rw [HGC.out, HVC.out] at hw0 KM ⊢
  rw [HGC.out] at KT
  have HW0 := Lib.hid hw0
  clear hw0 hg hd hw hwf h
  have HBw : Hid (∀ W, Below B w W → Below w.heap.size w W) := Lib.hid (fun W hW => by rw [hB]; exact hW)
  go_enter Tryz.func8, Tryz.ntmps8
  go_upto_region 1 with fail
  rw [HW0.out]
  clear HW0 hB
  have KC0 := Lib.hid (KC.out w0 (HBw.out _ HV0.out.bel))
  obtain ⟨x0, x1, x2⟩ := sig_blk HV0.out.sg
  obtain ⟨x3, x4⟩ := wld_blk HV0.out.wd
  have x5 := tab_box HV0.out.tb
  go_wp2_with fail
  refine KC0.out.mono ?_
  rintro e w1 ⟨rt, rfl, hrt, hb1⟩
  have HV1 := Lib.hid (HV0.out.below hb1)
  have HRt := Lib.hid hrt
  have KM1 := Lib.hid (KM.out w1 (HBw.out _ HV1.out.bel))
  clear hb1 hrt x0 x1 x2 x3 x4 x5 KC0
  obtain ⟨y0, y1, y2⟩ := sig_blk HV1.out.sg
  obtain ⟨y3, y4⟩ := wld_blk HV1.out.wd
  have y5 := tab_box HV1.out.tb
  cases rt with
  | false =>
    go_wp2
    exact bodyPost_ret (v := .tuple #[.slice none 0 0, .slice none 0 0, .int .i64 2]) (by simp [results, Tryz.results8, go_sem]) rfl (HNo.out 2 _ (by decide) HV1.out.bel)
  | true =>
    have HTO : Hid (TabOk T) := Lib.hid (HRt.out.1 rfl)
    go_wp2_with fail
    refine KM1.out.mono ?_
    rintro e w2 ⟨qm, rfl, hqm, hb2⟩
    have HV2 := Lib.hid (HV1.out.below hb2)
    have HQm := Lib.hid hqm
    have KT2 := Lib.hid (KT.out w2 (HBw.out _ HV2.out.bel))
    clear hb2 hqm y0 y1 y2 y3 y4 y5 KM1
    obtain ⟨x0, x1, x2⟩ := sig_blk HV2.out.sg
    have x5 := tab_box HV2.out.tb
    cases qm with
    | false =>
      go_wp2
      exact bodyPost_ret (v := .tuple #[.slice none 0 0, .slice none 0 0, .int .i64 2]) (by simp [results, Tryz.results8, go_sem]) rfl (HNo.out 2 _ (by decide) HV2.out.bel)
    | true =>
      have HMw : Hid (MayW g wl) := Lib.hid HQm.out.t.w
      go_wp2_with fail
      refine KT2.out.mono ?_
      rintro e w3 ⟨r, rfl, hr3, hb3⟩
      have HV3 := Lib.hid (HV2.out.below hb3)
      have HR3 := Lib.hid hr3
      clear hb3 hr3 x0 x1 x2 x5 KT2
      by_cases hr : r = 0
      rotate_left
      · have e1 : (r != 0) = true := bne_iff_ne.2 hr
        clear hr
        go_wp2
        exact bodyPost_ret (v := .tuple #[.slice none 0 0, .slice none 0 0, .int .i64 33]) (by simp [results, Tryz.results8, go_sem]) rfl (HNo.out 33 _ (by decide) HV3.out.bel)
      have e1 : (r != 0) = false := by rw [hr]; rfl
      have HRu : Hid (∀ n ∈ T, RuleOk g T n) := Lib.hid (HR3.out hr).2
      clear hr
      go_wp2
      go_loopg [11, 9, 10] T.length (fun gg v vl vo W => ∃ (i : Nat) (lo : Value) (vals : List Int) (oo : Value) (overs : List Bool), i + gg = T.length ∧ v = .int .i64 i ∧ lo = vl ∧ oo = vo ∧ VFX AF T i vals overs ∧ VX w B g wl A T c lo vals oo overs W)
      case atStart => exact ⟨0, _, [], _, [], by omega, rfl, rfl, rfl, VFX.nil _ T, HV3.out⟩
      case round =>
        obtain ⟨wo, hwo⟩ : ∃ wo, wo = wr := ⟨_, rfl⟩
        subst hwo
        obtain ⟨i, lo, vals, oo, overs, hig, rfl, rfl, rfl, hvf, hvx⟩ := hrel
        have HF := Lib.hid hvf
        have HX := Lib.hid hvx
        have c0 := tab_box HX.out.tb
        clear hvf hvx HV0 HV1 HV2 HV3
        cases gk with
        | zero =>
          obtain rfl : i = T.length := by omega
          have d1 : decide ((T.length : Int) < T.length) = false := by simp
          go_wp2
          refine bodyPost_ret (v := .tuple #[lo, oo, .int .i64 0]) (by simp [results, Tryz.results8, go_sem]) rfl ?_
          have h1 := HX.out.own
          have h2 := HX.out.oown
          rw [HF.out.l1] at h1
          rw [HF.out.l2] at h2
          have hbs := HBs.out
          exact ⟨_, _, 0, rfl, fun _ => ⟨HTO.out, HMw.out, HRu.out, vals, overs, HF.out, own_base h1 (fun q e => by have := (h1.lt q e).1; omega), own_base h2 (fun q e => by have := (h2.lt q e).1; omega)⟩, HBw.out _ HX.out.bel⟩
        | succ gk =>
          have hlt : i < T.length := by omega
          have d1 : decide ((i : Int) < T.length) = true := by simp; omega
          have t1 : (0 : Int) ≤ (i : Int) := by omega
          have t2 : (i : Int) < (T.length : Int) := by omega
          obtain ⟨b, off, hA, hbb, hcell⟩ := (HT.out.below (HBw.out _ HX.out.bel)).at_.resolve_left (by omega)
          have HST := Lib.hid (HTO.out.st i T[i] (List.getElem?_eq_getElem hlt))
          have HRl := Lib.hid (HRu.out T[i] (List.getElem_mem hlt))
          have HPush := Lib.hid (fun (x : Int) (o : Bool) (hx : I64 x) (ho : o = false → ValSX AF T[i] (argVals vals T[i]) x) => HF.out.push HTO.out hlt hx ho)
          obtain ⟨y0, y1, y2, y3, y4, y5, y6, y7⟩ := (hcell i hlt).all
          subst hA
          clear hcell
          generalize T[i] = n at *
          obtain ⟨X, hXs⟩ : ∃ X, wo.heap.size = X := ⟨_, rfl⟩
          have hIX := HX.out.box n
          unfold nodeCells at hIX
          have HIX := Lib.hid hIX
          have HXs := Lib.hid hXs
          obtain ⟨ln, hln⟩ : ∃ ln : Nat, n.len = ln := ⟨n.len.toNat, by have := HST.out.len; omega⟩
          have hln3 : ln ≤ 3 := by have := HST.out.len; omega
          have HLN := Lib.hid hln
          clear hIX hXs hln
          go_wp2
          clear y0 y1 y2 y3 y4 y5 y6 y7
          obtain ⟨gk0, rfl⟩ : ∃ go : Nat, go = gk := ⟨_, rfl⟩
          go_loopg [15, 13, 14] ln (fun gg v vs vb W => ∃ (j : Nat) (sv : Value) (bad : Bool), j + gg = ln ∧ v = .int .i64 j ∧ sv = vs ∧ vb = .bool bad ∧ (bad = false → ∀ k : Nat, k < j → overs.getD (n.arg k).toNat true = false) ∧ IX w B g wl (some ⟨b, off, none⟩) T c lo vals oo overs wo.heap.size n j sv W)
          case atStart => exact ⟨0, _, false, by omega, rfl, rfl, rfl, fun _ k hk => absurd hk (by omega), HIX.out⟩
          case round =>
            obtain ⟨j, sv, bad, hjg, rfl, rfl, rfl, hbad, hx⟩ := hrel
            have HI := Lib.hid hx
            have HBd := Lib.hid hbad
            obtain ⟨m0, m1, m2, m3, m4, m5, m6, m7⟩ : wr.cell? ⟨wo.heap.size, 0, none⟩ = some (.int .i8 n.op) ∧ wr.cell? ⟨wo.heap.size, 1, none⟩ = some (.int .i8 n.len) ∧ wr.cell? ⟨wo.heap.size, 2, none⟩ = some (.int .i64 n.a0) ∧ wr.cell? ⟨wo.heap.size, 3, none⟩ = some (.int .i64 n.a1) ∧ wr.cell? ⟨wo.heap.size, 4, none⟩ = some (.int .i64 n.a2) ∧ wr.cell? ⟨wo.heap.size, 5, none⟩ = some (.int .i64 n.sort) ∧ wr.cell? ⟨wo.heap.size, 6, none⟩ = some (.int .i64 n.fn) ∧ wr.cell? ⟨wo.heap.size, 7, none⟩ = some (.int .i64 n.num) := ⟨hx.nd.cell 0, hx.nd.cell 1, hx.nd.cell 2, hx.nd.cell 3, hx.nd.cell 4, hx.nd.cell 5, hx.nd.cell 6, hx.nd.cell 7⟩
            clear hx hbad
            have hw8 : IntKind.i64.wrap (ln : Int) = ln := by have : ln ≤ 3 := hln3; unfold IntKind.wrap; simp [IntKind.bits, IntKind.signed]; omega
            rw [HLN.out] at m1
            cases gk with
            | zero =>
              obtain rfl : j = ln := by omega
              have f1 : decide ((j : Int) < (j : Int)) = false := by simp
              have HZ := Lib.hid HI.out.vx
              cases bad with
              | true =>
                have HN := Lib.hid (HPush.out 0 true ⟨by decide, by decide⟩ (fun e => by cases e))
                clear m0 m2 m3 m4 m5 m6 m7
                have h1c : Hid (∀ u ∈ #[Value.int .i64 0].toList, u.oneCell' = true) := Lib.hid (by simp [Value.oneCell'])
                have h2c : Hid (∀ u ∈ #[Value.bool true].toList, u.oneCell' = true) := Lib.hid (by simp [Value.oneCell'])
                go_wp2_with (first
                  | (at_builtin; refine list_push _ rfl (.tmp 87) (.tmp 89) 38 rfl (B + 1 + 1 + 1) 4 j0 (.bool false) 1 1 Tryz.underlying38 hj0 jz0 jz1 jz2 rfl (by decide) oo overs.length _ rfl (HP1.out.oown.alloc _) w5.heap.size #[.bool true] rfl (Blk.new _ _ _) rfl h2c.out (by have := HF.out.l2; omega) (by omega) (by have := HP1.out.tb.lt; omega) (fun p2 cap4 w6 hown2 hgrow2 hat2 hlt2 => ?_); have HP2 := Lib.hid (HP1.out.push2 hown2 hgrow2); clear hown2 hgrow2 hat2 hlt2)
                  | (at_builtin; refine list_push _ rfl (.tmp 83) (.tmp 85) 27 rfl (B + 1 + 1 + 1) 3 i0 (.int .i64 0) 1 8 Tryz.underlying27 hi0 hz0 hz1 hz2 rfl (by decide) lo vals.length _ rfl (HZ.out.own.alloc _) wr.heap.size #[.int .i64 0] rfl (Blk.new _ _ _) rfl h1c.out (by have := HF.out.l1; omega) (by omega) (by have := HZ.out.tb.lt; omega) (fun p cap3 w5 hown1 hgrow1 hat1 hlt1 => ?_); have HP1 := Lib.hid (HZ.out.push1 hown1 hgrow1); clear hown1 hgrow1 hat1 hlt1))
                go_roundg gk0
                case measure => omega
                case rel => exact ⟨i + 1, _, _, _, _, by omega, by go_num, rfl, rfl, HN.out, HP2.out⟩
              | false =>
                obtain ⟨SA, sc, hsv⟩ := own_slice HI.out.own
                subst hsv
                have hlnN : n.len.toNat = j := by have := HLN.out; omega
                have hO : OwnL wr (wo.heap.size + 1) (.slice SA j sc) (argVals vals n) := by
                  have := HI.out.own
                  rw [List.take_of_length_le (by rw [List.length_range]; omega)] at this
                  unfold OwnL argVals
                  rw [List.length_map, List.length_range, List.map_map, hlnN]
                  rw [hlnN] at this
                  exact this
                have hlA : (argVals vals n).length = j := by rw [argVals_len, hlnN]
                have hFit := HF.out.fit HST.out (fun k hk => HBd.out rfl k (by omega))
                have hbW := HBw.out _ HZ.out.bel
                have KV := value_x sc (HG.out.below hbW) (HD.out.below hbW) (HW.out.below hbW) HWf.out HST.out HRl.out (hO.rowS (by omega)).1 (by rw [hlA, HLN.out]) hFit (fun x hx => by
                  unfold argVals at hx
                  obtain ⟨k, _, rfl⟩ := List.mem_map.1 hx
                  exact vf_in HF.out.i64 _)
                rw [HAF.out] at KV
                rw [hlA] at KV
                unfold nodeVal nodeCells at KV
                rw [HGC.out, HVC.out, HLN.out] at KV
                have KV := Lib.hid KV
                obtain ⟨x0, x1, x2⟩ := sig_blk HZ.out.sg
                obtain ⟨x3, x4⟩ := wld_blk HZ.out.wd
                clear hO hlA hlnN hFit hbW
                go_wp2_with fail
                refine KV.out.mono ?_
                rintro e w4 ⟨x, ok, rfl, hx64, hsem, hb4⟩
                have HZ4 := Lib.hid (HZ.out.below hb4)
                have HX64 := Lib.hid hx64
                have HSem := Lib.hid hsem
                clear hx64 hsem hb4 KV x0 x1 x2 x3 x4 m0 m1 m2 m3 m4 m5 m6 m7
                cases ok with
                | true =>
                  have HN := Lib.hid (HPush.out x false HX64.out (fun _ => HSem.out rfl))
                  have h1c : Hid (∀ u ∈ #[Value.int .i64 x].toList, u.oneCell' = true) := Lib.hid (by simp [Value.oneCell'])
                  have h2c : Hid (∀ u ∈ #[Value.bool false].toList, u.oneCell' = true) := Lib.hid (by simp [Value.oneCell'])
                  go_wp2_with (first
                    | (at_builtin; refine list_push _ rfl (.tmp 87) (.tmp 89) 38 rfl (B + 1 + 1 + 1) 4 j0 (.bool false) 1 1 Tryz.underlying38 hj0 jz0 jz1 jz2 rfl (by decide) oo overs.length _ rfl (HP1.out.oown.alloc _) w5.heap.size #[.bool false] rfl (Blk.new _ _ _) rfl h2c.out (by have := HF.out.l2; omega) (by omega) (by have := HP1.out.tb.lt; omega) (fun p2 cap4 w6 hown2 hgrow2 hat2 hlt2 => ?_); have HP2 := Lib.hid (HP1.out.push2 hown2 hgrow2); clear hown2 hgrow2 hat2 hlt2)
                    | (at_builtin; refine list_push _ rfl (.tmp 83) (.tmp 85) 27 rfl (B + 1 + 1 + 1) 3 i0 (.int .i64 0) 1 8 Tryz.underlying27 hi0 hz0 hz1 hz2 rfl (by decide) lo vals.length _ rfl (HZ4.out.own.alloc _) w4.heap.size #[.int .i64 x] rfl (Blk.new _ _ _) rfl h1c.out (by have := HF.out.l1; omega) (by omega) (by have := HZ4.out.tb.lt; omega) (fun p cap3 w5 hown1 hgrow1 hat1 hlt1 => ?_); have HP1 := Lib.hid (HZ4.out.push1 hown1 hgrow1); clear hown1 hgrow1 hat1 hlt1))
                  go_roundg gk0
                  case measure => omega
                  case rel => exact ⟨i + 1, _, _, _, _, by omega, by go_num, rfl, rfl, HN.out, HP2.out⟩
                | false =>
                  have HN := Lib.hid (HPush.out 0 true ⟨by decide, by decide⟩ (fun e => by cases e))
                  have h1c : Hid (∀ u ∈ #[Value.int .i64 0].toList, u.oneCell' = true) := Lib.hid (by simp [Value.oneCell'])
                  have h2c : Hid (∀ u ∈ #[Value.bool true].toList, u.oneCell' = true) := Lib.hid (by simp [Value.oneCell'])
                  go_wp2_with (first
                    | (at_builtin; refine list_push _ rfl (.tmp 87) (.tmp 89) 38 rfl (B + 1 + 1 + 1) 4 j0 (.bool false) 1 1 Tryz.underlying38 hj0 jz0 jz1 jz2 rfl (by decide) oo overs.length _ rfl (HP1.out.oown.alloc _) w5.heap.size #[.bool true] rfl (Blk.new _ _ _) rfl h2c.out (by have := HF.out.l2; omega) (by omega) (by have := HP1.out.tb.lt; omega) (fun p2 cap4 w6 hown2 hgrow2 hat2 hlt2 => ?_); have HP2 := Lib.hid (HP1.out.push2 hown2 hgrow2); clear hown2 hgrow2 hat2 hlt2)
                    | (at_builtin; refine list_push _ rfl (.tmp 83) (.tmp 85) 27 rfl (B + 1 + 1 + 1) 3 i0 (.int .i64 0) 1 8 Tryz.underlying27 hi0 hz0 hz1 hz2 rfl (by decide) lo vals.length _ rfl (HZ4.out.own.alloc _) w4.heap.size #[.int .i64 0] rfl (Blk.new _ _ _) rfl h1c.out (by have := HF.out.l1; omega) (by omega) (by have := HZ4.out.tb.lt; omega) (fun p cap3 w5 hown1 hgrow1 hat1 hlt1 => ?_); have HP1 := Lib.hid (HZ4.out.push1 hown1 hgrow1); clear hown1 hgrow1 hat1 hlt1))
                  go_roundg gk0
                  case measure => omega
                  case rel => exact ⟨i + 1, _, _, _, _, by omega, by go_num, rfl, rfl, HN.out, HP2.out⟩
            | succ g2 =>
              have hjl : j < ln := by omega
              have f1 : decide ((j : Int) < (ln : Int)) = true := by simp; omega
              have hja : (j : Int) < n.len := by rw [HLN.out]; omega
              have hai := HST.out.arg_lt j (by omega) hja
              obtain ⟨k, hk⟩ : ∃ k : Nat, n.arg j = k := ⟨(n.arg j).toNat, by omega⟩
              have hki : k < i := by omega
              have hvo := HI.out.vx.own
              have hvb := HI.out.vx.oown
              rw [HF.out.l1] at hvo
              rw [HF.out.l2] at hvb
              obtain ⟨q, qc, hlo, _, _, _⟩ := own_form hvo (by omega)
              obtain ⟨q2, qc2, hoo, _, _, _⟩ := own_form hvb (by omega)
              subst hlo hoo
              have z1 := own_int_at hvo (k := k) (by rw [HF.out.l1]; exact hki)
              have HJN : Hid (j < n.len.toNat) := Lib.hid (by have := HLN.out; omega)
              have HKk := Lib.hid hk
              have HVx : Hid (vf vals (n.arg j) = vf vals (k : Int)) := Lib.hid (by rw [hk])
              have z2 := nd_arg HI.out.nd (by omega) hk
              have HLater : Hid (∀ sv' W, IX w B g wl (some ⟨b, off, none⟩) T c (.slice (some ⟨q, 0, none⟩) i qc) vals (.slice (some ⟨q2, 0, none⟩) i qc2) overs wo.heap.size n (j + 1) sv' W → W.cell? ⟨wo.heap.size, 2 + j, none⟩ = some (.int .i64 (k : Int)) ∧ W.cell? ⟨q2, k, none⟩ = some (.bool (overs.getD k true))) := Lib.hid (fun sv' W hW => ⟨nd_arg hW.nd (by omega) hk, by
                have h5 := hW.vx.oown
                rw [HF.out.l2] at h5
                exact own_bool_at h5 (by rw [HF.out.l2]; exact hki)⟩)
              have HOv : Hid (overs.getD (n.arg j).toNat true = overs.getD k true) := Lib.hid (by rw [hk, Int.toNat_natCast])
              have HSZ := Lib.hid HI.out.nd.lt
              have k1 : (0 : Int) ≤ (k : Int) := by omega
              have k2 : (k : Int) < (i : Int) := by omega
              have tk1 : (0 : Int) ≤ (j : Int) := by omega
              have tk2 : (j : Int) < (ln : Int) := by omega
              have tk3 : (j : Int) < 3 := by omega
              have tk4 : (2 : Int) + (j : Int) < 5 := by omega
              clear hja hai hvo hvb hk m0 m2 m3 m4 m5 m6 m7
              generalize vf vals (k : Int) = x at *
              generalize overs.getD k true = ob at *
              have h1c : Hid (∀ u ∈ #[Value.int .i64 x].toList, u.oneCell' = true) := Lib.hid (by simp [Value.oneCell'])
              have HBn : Hid (∀ bd : Bool, bd = (bad || ob) → bd = false → ∀ k' : Nat, k' < j + 1 → overs.getD (n.arg k').toNat true = false) := Lib.hid (fun bd hbd e k' hk' => by
                rw [hbd] at e
                by_cases h6 : k' = j
                · rw [h6, HOv.out]
                  exact (Bool.or_eq_false_iff.1 e).2
                · exact HBd.out (Bool.or_eq_false_iff.1 e).1 k' (by omega))
              cases bad with
              | true =>
                go_wp2_with (at_builtin; refine list_push _ rfl (.tmp 50) (.tmp 58) 27 rfl (wo.heap.size + 1) 3 i0 (.int .i64 0) 1 8 Tryz.underlying27 hi0 hz0 hz1 hz2 rfl (by decide) sv j _ rfl (HI.out.own.alloc _) wr.heap.size #[.int .i64 x] rfl (Blk.new _ _ _) rfl h1c.out (by omega) (by omega) (by have := HSZ.out; omega) (fun p cap3 w2 hown1 hgrow hat hlt1 => ?_); have HP := Lib.hid (HI.out.push HJN.out HVx.out hown1 hgrow); clear hown1 hgrow hat hlt1)
                go_roundg g2
                case measure => omega
                case rel => exact ⟨j + 1, _, true, by omega, by go_num, rfl, rfl, HBn.out true rfl, HP.out⟩
              | false =>
                go_wp2_with (at_builtin; refine list_push _ rfl (.tmp 50) (.tmp 58) 27 rfl (wo.heap.size + 1) 3 i0 (.int .i64 0) 1 8 Tryz.underlying27 hi0 hz0 hz1 hz2 rfl (by decide) sv j _ rfl (HI.out.own.alloc _) wr.heap.size #[.int .i64 x] rfl (Blk.new _ _ _) rfl h1c.out (by omega) (by omega) (by have := HSZ.out; omega) (fun p cap3 w2 hown1 hgrow hat hlt1 => ?_); have HP := Lib.hid (HI.out.push HJN.out HVx.out hown1 hgrow); obtain ⟨u1, u2⟩ := HLater.out _ _ HP.out; clear hown1 hgrow hat hlt1)
                go_roundg g2
                case measure => omega
                case rel => exact ⟨j + 1, _, ob, by omega, by go_num, rfl, rfl, HBn.out ob (by simp), HP.out⟩
end Go.Proofs.YtkapbdjobfbhhaaGreat

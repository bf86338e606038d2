/- EufMore's walk. -/
import Derived.Test.YtbgbhfmchpdkcaaEvM
import Derived.Deep.RegionHeldLaw
namespace Go.Proofs.Ytbgbhfmchpdkcaa
open Go.RowKit

set_option maxRecDepth 100000 in
set_option maxHeartbeats 4000000 in
theorem eufMore_core {w : World} {A B C : Option Addr} {c : Nat} {T : List Nd} {L M : List Int} (cb cm : Nat) (h : Tab w A T) (hc : T.length ≤ c) (hr : Row w B L) (hm : Row w C M) (hnl : B = none → cb = 0) (hnm : C = none → cm = 0) :
    Calls Try.prog 5 #[.agg #[.slice A T.length c], .slice B L.length cb, .slice C M.length cm] w (fun e w' => e = .returned (.bool true) ∧ Below w.heap.size w w') := by
  obtain ⟨i0, hi, hz0, hz1, hz2⟩ := info_parts int_info
  have H := Lib.hid h
  have HR := Lib.hid hr
  have HM := Lib.hid hm
  have HNL := Lib.hid hnl
  have HNM := Lib.hid hnm
  clear h hr hm hnl hnm
  have HB1 : Hid (Below w.heap.size w (w.alloc (.cells #[.slice A T.length c] 24))) := Lib.hid ((Below.refl _ w).alloc (Nat.le_refl _) _)
  have HX1 := Lib.hid (Blk.new w 24 #[.slice A T.length c])
  have HL1 : Hid (w.heap.size < (w.alloc (.cells #[.slice A T.length c] 24)).heap.size) := Lib.hid (by simp)
  by_cases hT : 60 < T.length
  · have d1 : decide ((T.length : Int) > 60) = true := by simp; omega
    have d2 : decide ((60 : Int) < T.length) = true := by simp; omega
    clear hT
    go_enter Try.func5, Try.ntmps5
    go_wp2_with fail
    refine (wakes_ok _).mono ?_
    rintro e w2 ⟨rfl, hb2⟩
    have HB2 := Lib.hid (HB1.out.trans (hb2.mono HB1.out.size))
    clear hb2
    go_wp2_with fail
    go_ret
    exact ⟨rfl, HB2.out⟩
  have e1 : decide ((T.length : Int) > 60) = false := by simp; omega
  have e2 : decide ((60 : Int) < T.length) = false := by simp; omega
  have HT := Lib.hid hT
  clear hT
  by_cases hL : 60 < L.length
  · have d1 : decide ((L.length : Int) > 60) = true := by simp; omega
    have d2 : decide ((60 : Int) < L.length) = true := by simp; omega
    clear hL
    go_enter Try.func5, Try.ntmps5
    go_wp2_with fail
    refine (wakes_ok _).mono ?_
    rintro e w2 ⟨rfl, hb2⟩
    have HB2 := Lib.hid (HB1.out.trans (hb2.mono HB1.out.size))
    clear hb2
    go_wp2_with fail
    go_ret
    exact ⟨rfl, HB2.out⟩
  have e3 : decide ((L.length : Int) > 60) = false := by simp; omega
  have e4 : decide ((60 : Int) < L.length) = false := by simp; omega
  have HL := Lib.hid hL
  clear hL
  by_cases hM : 60 < M.length
  · have d1 : decide ((M.length : Int) > 60) = true := by simp; omega
    have d2 : decide ((60 : Int) < M.length) = true := by simp; omega
    clear hM
    go_enter Try.func5, Try.ntmps5
    go_wp2_with fail
    refine (wakes_ok _).mono ?_
    rintro e w2 ⟨rfl, hb2⟩
    have HB2 := Lib.hid (HB1.out.trans (hb2.mono HB1.out.size))
    clear hb2
    go_wp2_with fail
    go_ret
    exact ⟨rfl, HB2.out⟩
  have e5 : decide ((M.length : Int) > 60) = false := by simp; omega
  have e6 : decide ((60 : Int) < M.length) = false := by simp; omega
  have HMl := Lib.hid hM
  clear hM
  go_enter Try.func5, Try.ntmps5
  go_wp2_with fail
  refine (rmay_ok cb (H.out.below HB1.out) (HR.out.below HB1.out)).mono ?_
  rintro e w2 ⟨r1, rfl, hr1, hb2⟩
  have HR1 := Lib.hid hr1
  have HB2 := Lib.hid (HB1.out.trans (hb2.mono HB1.out.size))
  have HX2 := Lib.hid (HX1.out.below hb2 HX1.out.lt)
  have cx2 := HX2.out.cell 0
  simp only [List.getElem?_toArray, List.getElem?_cons_zero] at cx2
  clear hr1 hb2
  cases r1 with
  | false =>
    go_wp2_with fail
    refine (wakes_ok _).mono ?_
    rintro e w9 ⟨rfl, hb9⟩
    have HB9 := Lib.hid (HB2.out.trans (hb9.mono HB2.out.size))
    clear hb9
    go_wp2_with fail
    go_ret
    exact ⟨rfl, HB9.out⟩
  | true =>
    have HML := Lib.hid (HR1.out.1 rfl)
    go_wp2_with fail
    refine (rmay_ok cm (H.out.below HB2.out) (HM.out.below HB2.out)).mono ?_
    rintro e w3 ⟨r2, rfl, hr2, hb3⟩
    have HR2 := Lib.hid hr2
    have HX3 := Lib.hid (HX2.out.below hb3 HX2.out.lt)
    have HB3 := Lib.hid (HB2.out.trans (hb3.mono HB2.out.size))
    have cx3 := HX3.out.cell 0
    simp only [List.getElem?_toArray, List.getElem?_cons_zero] at cx3
    clear hr2 hb3 cx2
    cases r2 with
    | false =>
      go_wp2_with fail
      refine (wakes_ok _).mono ?_
      rintro e w9 ⟨rfl, hb9⟩
      have HB9 := Lib.hid (HB3.out.trans (hb9.mono HB3.out.size))
      clear hb9
      go_wp2_with fail
      go_ret
      exact ⟨rfl, HB9.out⟩
    | true =>
      have HMM := Lib.hid (HR2.out.1 rfl)
      go_wp2_with fail
      have HB4 : Hid (Below w.heap.size w w3.drew) := Lib.hid (below_drewN HB3.out 1)
      have HX4 := Lib.hid (Blk.drew HX3.out)
      have lT : T.length ≤ 100 := by have := HT.out; omega
      have lM : M.length ≤ 60 := by have := HMl.out; omega
      have lL : L.length ≤ 300 := by have := HL.out; omega
      by_cases hle : LemL T L
      · have HLe := Lib.hid hle
        clear hle
        obtain ⟨ML, hML⟩ : ∃ X, M ++ L = X := ⟨_, rfl⟩
        have HME := Lib.hid hML
        have HMN : Hid (ML.length = M.length + L.length) := Lib.hid (by rw [← hML, List.length_append])
        have HM3 : Hid (ML.length ≤ 300) := Lib.hid (by rw [← hML, List.length_append]; have := HL.out; omega)
        have HLM := Lib.hid (HLe.out.more H.out.len HML.out HMM.out)
        rw [hML] at HLM
        clear hML
        go_region_held_law (fun w' => w'.cell? ⟨w.heap.size, 0, none⟩ = some (.slice A T.length c)) (go_keep) (first
          | (go_at_call 14; (with_reducible refine KL.out.mono ?_); rintro e w8 ⟨r8, rfl, hr8, hb8⟩; obtain rfl : r8 = true := hr8.2 HLM.out; have HB8 := Lib.hid (HB7.out.trans (hb8.mono HB7.out.size)); have HX8 := Lib.hid (HX7.out.below hb8 HX7.out.lt); have cx8 := HX8.out.cell 0; simp only [List.getElem?_toArray, List.getElem?_cons_zero] at cx8; clear hr8 hb8)
          | (refine step_append_rowW w6 (by rfl) (.tmp 46) (.tmp 47) rfl w4.heap.size v6 (0 + M.length) ([] ++ M) (by rfl) HO6.out B cb L (by rfl) (HR.out.below HB6.out) HNL.out (by omega) HS6.out ?_; intro v7 w7 ho7 hg7; have HX7 := Lib.hid (HX6.out.grown hg7 (fun e => own_blk_ne HO6.out HX6.out (by decide) e.symm)); have cx7 := HX7.out.cell 0; simp only [List.getElem?_toArray, List.getElem?_cons_zero] at cx7; have HB7 := Lib.hid (Below.grown HB6.out hg7 HB6.out.size (fun k hk => Nat.le_trans HB5.out.size (HO6.out.lt k hk).1)); obtain ⟨A7, k7, rfl, hr7, _⟩ := OwnL.row (zs := ML) (by have h9 := ho7; simp only [Nat.zero_add, List.nil_append, HME.out] at h9; unfold OwnL; rw [HMN.out]; exact h9) (Nat.le_trans HM3.out (by decide)); have KL := Lib.hid (lemma_ok k7 (H.out.below HB7.out) hc lT HM3.out hr7); have HR7 := Lib.hid hr7; clear ho7 hg7 hr7)
          | (refine step_append_rowW (w4.alloc (.cells #[] 3)) (by rfl) (.tmp 44) (.tmp 45) rfl w4.heap.size _ 0 [] (by rfl) HN5.out C cm M (by rfl) HM5.out HNM.out (by omega) (by simp) ?_; intro v6 w6 ho6 hg6; have HO6 := Lib.hid ho6; have HB6 := Lib.hid (Below.grown (HB5.out.alloc HB5.out.size (.cells #[] 3)) hg6 (Nat.le_trans HB5.out.size (by simp)) (fun k hk => Nat.le_trans HB5.out.size (HN5.out.lt k hk).1)); have HX6 := Lib.hid ((HX5.out.alloc (.cells #[] 3)).grown hg6 (fun e => own_blk_ne HN5.out (HX5.out.alloc (.cells #[] 3)) (by decide) e.symm)); have HS6 := Lib.hid (Nat.le_trans (by simp) hg6.size : w4.heap.size ≤ w6.heap.size); have cx6 := HX6.out.cell 0; simp only [List.getElem?_toArray, List.getElem?_cons_zero] at cx6; clear ho6 hg6)
          | (go_at_call 14; refine (lemma_ok cb (H.out.below HB4.out) hc lT lL (HR.out.below HB4.out)).mono ?_; rintro e w4 ⟨r4, rfl, hr4, hb4⟩; obtain rfl : r4 = true := hr4.2 HLe.out; have HB5 := Lib.hid (HB4.out.trans (hb4.mono HB4.out.size)); have HX5 := Lib.hid (HX4.out.below hb4 HX4.out.lt); have cx5 := HX5.out.cell 0; simp only [List.getElem?_toArray, List.getElem?_cons_zero] at cx5; have HN5 := Lib.hid (own_empty w4); have HM5 := Lib.hid ((HM.out.below HB5.out).below ((Below.refl _ w4).alloc (Nat.le_refl _) (.cells #[] 3))); clear hr4 hb4))
        go_wp2_with fail
        refine (conflict_ok cb (H.out.below HB8.out) hc lT lL (HR.out.below HB8.out)).mono ?_
        rintro e w9 ⟨A9, cs, cp9, ok, rfl, hr9, hcp9, hb9, hcf⟩
        have HR9 := Lib.hid hr9
        have HCF := Lib.hid hcf
        have HB9 := Lib.hid (HB8.out.trans (hb9.mono HB8.out.size))
        have HX9 := Lib.hid (HX8.out.below hb9 HX8.out.lt)
        have HLC : Hid (cs.length ≤ 60) := Lib.hid (by
          rcases hcf with ⟨_, _, h1⟩ | ⟨_, _, h1⟩
          · rw [h1]
            have := conf_len (T := T) (L := L)
            have := HL.out
            omega
          · rw [h1]
            simp)
        clear hr9 hcp9 hb9 hcf cx8
        go_wp2
        go_loopg [60, 9] cs.length (fun g v vo wr => ∃ i : Nat, i + g = cs.length ∧ v = .int .i64 i ∧ OwnL wr w9.heap.size vo ((cs.take i).map negG) ∧ Below w9.heap.size w9 wr)
        case atStart => exact ⟨0, by omega, rfl, World.ownsRow_nil _ _ _ _, Below.refl _ _⟩
        case round =>
          obtain ⟨i, hig, rfl, hown, hb9⟩ := hrel
          have HO := Lib.hid hown
          have HBV := Lib.hid hb9
          have HBW := Lib.hid (HB9.out.trans (hb9.mono HB9.out.size))
          have HX := Lib.hid (HX9.out.below hb9 HX9.out.lt)
          clear hb9
          cases gk with
          | zero =>
            obtain rfl : i = cs.length := by omega
            have d1 : decide ((cs.length : Int) < cs.length) = false := by simp
            obtain ⟨Z, hZ⟩ : ∃ Z, cs.map negG = Z := ⟨_, rfl⟩
            have hO2 := HO.out
            rw [List.take_length, hZ] at hO2
            have hZ3 : Z.length ≤ 300 := by
              rw [← hZ, List.length_map]
              have := HLC.out
              omega
            obtain ⟨A2, cap2, hv, hrow, _, _⟩ := hO2.row (by omega)
            subst hv
            have HZL : Hid (LemL T Z ↔ ok = true) := Lib.hid (by
              rcases HCF.out with ⟨h1, h2, h3⟩ | ⟨h1, h2, h3⟩
              · rw [h2, ← hZ, h3]
                exact ⟨fun _ => rfl, fun _ => lem_turned H.out.len h1⟩
              · rw [h2, ← hZ, h3]
                exact ⟨fun h => absurd h (lem_none HML.out.1), fun h => by cases h⟩)
            have KL := Lib.hid (lemma_ok cap2 (H.out.below HBW.out) hc lT hZ3 hrow)
            have cx := HX.out.cell 0
            have hls := HX.out.lt
            simp only [List.getElem?_toArray, List.getElem?_cons_zero] at cx
            clear hO2 hown hrow hZ hZ3
            go_wp2_with fail
            refine KL.out.mono ?_
            rintro e w11 ⟨r11, rfl, hr11, hb11⟩
            have HB11 := Lib.hid (HBW.out.trans (hb11.mono HBW.out.size))
            have hro : r11 = ok := by
              have h1 := hr11.trans HZL.out
              cases r11 <;> cases ok <;> simp_all
            subst hro
            have dq : (r11 == r11) = true := by simp
            clear hr11 hb11
            go_wp2_with fail
            refine (wakes_ok _).mono ?_
            rintro e w12 ⟨rfl, hb12⟩
            have HB12 := Lib.hid (HB11.out.trans (hb12.mono HB11.out.size))
            clear hb12
            go_wp2_with fail
            go_ret
            exact ⟨rfl, HB12.out⟩
          | succ gk =>
            have hlt : i < cs.length := by omega
            have hl9 := HLC.out
            have d1 : decide ((i : Int) < cs.length) = true := by simp; omega
            have t1 : (0 : Int) ≤ (i : Int) := by omega
            have t2 : (i : Int) < (cs.length : Int) := by omega
            obtain ⟨b, off, hA, hbb, hcell⟩ := (HR9.out.below HBV.out).at_.resolve_left (by omega)
            subst hA
            have y0 := hcell i hlt
            have HS := Lib.hid (show (cs.take (i + 1)).map negG = (cs.take i).map negG ++ [negG cs[i]] by rw [List.take_add_one, List.getElem?_eq_getElem hlt, List.map_append]; rfl)
            clear hcell hown
            generalize cs[i] = x at *
            obtain ⟨fs, hfs⟩ : ∃ fs, (cs.take i).map negG = fs := ⟨_, rfl⟩
            rw [hfs] at HO HS
            have X1 : Hid ((fs.length + 1) * 8 ≤ 140737488355328) := Lib.hid (by
              rw [← hfs, List.length_map, List.length_take]
              have := HLC.out
              omega)
            clear hfs
            go_wp2_with (at_builtin; refine list_push _ rfl (.tmp 64) (.tmp 67) 25 rfl w9.heap.size 3 i0 (.int .i64 0) 1 8 Try.underlying25 hi hz0 hz1 hz2 rfl (by decide) _ fs.length (fs.map (Value.int .i64)) rfl (own_kept HO.out ((Kept.refl (fun _ => False) wr).alloc _) (fun _ _ h => h)) wr.heap.size #[.int .i64 (negG x)] rfl (Blk.new wr _ _) rfl (by intro u hu; rw [List.mem_singleton.1 hu]; rfl) X1.out (by decide) HBV.out.size ?_; intro ga ca w3 ho3 hg3 _ _; have HO3 := Lib.hid ho3; have HV3 := Lib.hid (Below.grown (HBV.out.alloc HBV.out.size _) hg3 (Nat.le_trans HBV.out.size (by simp)) (own_base_le HO.out)); clear ho3 hg3)
            go_roundg gk
            case measure => omega
            case rel =>
              refine ⟨i + 1, by omega, by go_num, ?_, HV3.out⟩
              rw [HS.out]
              unfold OwnL
              rw [List.length_append, List.map_append]
              exact HO3.out
      · have HLe := Lib.hid hle
        clear hle
        have cx4 := HX4.out.cell 0
        simp only [List.getElem?_toArray, List.getElem?_cons_zero] at cx4
        refine wp_region_still_call 2 (by kernel_rfl) (by kernel_rfl) ?_
        simp only [List.take_succ_cons, List.take_zero, List.drop_succ_cons, List.drop_zero]
        change wpStill Try.prog _ w3.drew (fun a' => wpOp _ _ _ _ _ a' w3.drew) _ _
        iterate 2 still_step
        refine wpStill_nil ?_
        refine wpOp_of rfl rfl ?_
        go_simp
        go_at_call 14; refine (lemma_ok cb (H.out.below HB4.out) hc lT lL (HR.out.below HB4.out)).mono ?_; rintro e w4 ⟨r4, rfl, hr4, hb4⟩
        obtain rfl : r4 = false := (by cases r4 with | false => rfl | true => exact absurd (hr4.1 rfl) HLe.out)
        have HB5 := Lib.hid (HB4.out.trans (hb4.mono HB4.out.size))
        have HX5 := Lib.hid (HX4.out.below hb4 HX4.out.lt)
        have cx5 := HX5.out.cell 0
        simp only [List.getElem?_toArray, List.getElem?_cons_zero] at cx5
        clear hr4 hb4
        refine wpStill_of_quiet _ _ ?_
        repeat (go_big_quiet_step (fail))
        refine wpQuiet_nil ?_
        go_wp2_with fail
        have HB8 := HB5
        have HX8 := HX5
        have cx8 := cx5
        clear HB5 HX5 cx5
        obtain ⟨w8, rfl⟩ : ∃ x : World, x = w4 := ⟨_, rfl⟩
        refine (conflict_ok cb (H.out.below HB8.out) hc lT lL (HR.out.below HB8.out)).mono ?_
        rintro e w9 ⟨A9, cs, cp9, ok, rfl, hr9, hcp9, hb9, hcf⟩
        have HR9 := Lib.hid hr9
        have HCF := Lib.hid hcf
        have HB9 := Lib.hid (HB8.out.trans (hb9.mono HB8.out.size))
        have HX9 := Lib.hid (HX8.out.below hb9 HX8.out.lt)
        have HLC : Hid (cs.length ≤ 60) := Lib.hid (by
          rcases hcf with ⟨_, _, h1⟩ | ⟨_, _, h1⟩
          · rw [h1]
            have := conf_len (T := T) (L := L)
            have := HL.out
            omega
          · rw [h1]
            simp)
        clear hr9 hcp9 hb9 hcf cx8
        go_wp2
        go_loopg [60, 9] cs.length (fun g v vo wr => ∃ i : Nat, i + g = cs.length ∧ v = .int .i64 i ∧ OwnL wr w9.heap.size vo ((cs.take i).map negG) ∧ Below w9.heap.size w9 wr)
        case atStart => exact ⟨0, by omega, rfl, World.ownsRow_nil _ _ _ _, Below.refl _ _⟩
        case round =>
          obtain ⟨i, hig, rfl, hown, hb9⟩ := hrel
          have HO := Lib.hid hown
          have HBV := Lib.hid hb9
          have HBW := Lib.hid (HB9.out.trans (hb9.mono HB9.out.size))
          have HX := Lib.hid (HX9.out.below hb9 HX9.out.lt)
          clear hb9
          cases gk with
          | zero =>
            obtain rfl : i = cs.length := by omega
            have d1 : decide ((cs.length : Int) < cs.length) = false := by simp
            obtain ⟨Z, hZ⟩ : ∃ Z, cs.map negG = Z := ⟨_, rfl⟩
            have hO2 := HO.out
            rw [List.take_length, hZ] at hO2
            have hZ3 : Z.length ≤ 300 := by
              rw [← hZ, List.length_map]
              have := HLC.out
              omega
            obtain ⟨A2, cap2, hv, hrow, _, _⟩ := hO2.row (by omega)
            subst hv
            have HZL : Hid (LemL T Z ↔ ok = true) := Lib.hid (by
              rcases HCF.out with ⟨h1, h2, h3⟩ | ⟨h1, h2, h3⟩
              · rw [h2, ← hZ, h3]
                exact ⟨fun _ => rfl, fun _ => lem_turned H.out.len h1⟩
              · rw [h2, ← hZ, h3]
                exact ⟨fun h => absurd h (lem_none HML.out.1), fun h => by cases h⟩)
            have KL := Lib.hid (lemma_ok cap2 (H.out.below HBW.out) hc lT hZ3 hrow)
            have cx := HX.out.cell 0
            have hls := HX.out.lt
            simp only [List.getElem?_toArray, List.getElem?_cons_zero] at cx
            clear hO2 hown hrow hZ hZ3
            go_wp2_with fail
            refine KL.out.mono ?_
            rintro e w11 ⟨r11, rfl, hr11, hb11⟩
            have HB11 := Lib.hid (HBW.out.trans (hb11.mono HBW.out.size))
            have hro : r11 = ok := by
              have h1 := hr11.trans HZL.out
              cases r11 <;> cases ok <;> simp_all
            subst hro
            have dq : (r11 == r11) = true := by simp
            clear hr11 hb11
            go_wp2_with fail
            refine (wakes_ok _).mono ?_
            rintro e w12 ⟨rfl, hb12⟩
            have HB12 := Lib.hid (HB11.out.trans (hb12.mono HB11.out.size))
            clear hb12
            go_wp2_with fail
            go_ret
            exact ⟨rfl, HB12.out⟩
          | succ gk =>
            have hlt : i < cs.length := by omega
            have hl9 := HLC.out
            have d1 : decide ((i : Int) < cs.length) = true := by simp; omega
            have t1 : (0 : Int) ≤ (i : Int) := by omega
            have t2 : (i : Int) < (cs.length : Int) := by omega
            obtain ⟨b, off, hA, hbb, hcell⟩ := (HR9.out.below HBV.out).at_.resolve_left (by omega)
            subst hA
            have y0 := hcell i hlt
            have HS := Lib.hid (show (cs.take (i + 1)).map negG = (cs.take i).map negG ++ [negG cs[i]] by rw [List.take_add_one, List.getElem?_eq_getElem hlt, List.map_append]; rfl)
            clear hcell hown
            generalize cs[i] = x at *
            obtain ⟨fs, hfs⟩ : ∃ fs, (cs.take i).map negG = fs := ⟨_, rfl⟩
            rw [hfs] at HO HS
            have X1 : Hid ((fs.length + 1) * 8 ≤ 140737488355328) := Lib.hid (by
              rw [← hfs, List.length_map, List.length_take]
              have := HLC.out
              omega)
            clear hfs
            go_wp2_with (at_builtin; refine list_push _ rfl (.tmp 64) (.tmp 67) 25 rfl w9.heap.size 3 i0 (.int .i64 0) 1 8 Try.underlying25 hi hz0 hz1 hz2 rfl (by decide) _ fs.length (fs.map (Value.int .i64)) rfl (own_kept HO.out ((Kept.refl (fun _ => False) wr).alloc _) (fun _ _ h => h)) wr.heap.size #[.int .i64 (negG x)] rfl (Blk.new wr _ _) rfl (by intro u hu; rw [List.mem_singleton.1 hu]; rfl) X1.out (by decide) HBV.out.size ?_; intro ga ca w3 ho3 hg3 _ _; have HO3 := Lib.hid ho3; have HV3 := Lib.hid (Below.grown (HBV.out.alloc HBV.out.size _) hg3 (Nat.le_trans HBV.out.size (by simp)) (own_base_le HO.out)); clear ho3 hg3)
            go_roundg gk
            case measure => omega
            case rel =>
              refine ⟨i + 1, by omega, by go_num, ?_, HV3.out⟩
              rw [HS.out]
              unfold OwnL
              rw [List.length_append, List.map_append]
              exact HO3.out
end Go.Proofs.Ytbgbhfmchpdkcaa

/- SatModels's walk. -/
import Derived.Test.YtmbekchnfbmhbaaGreatSrW
namespace Go.Proofs.YtmbekchnfbmhbaaGreat
open Go.RowKit Go.Lib

set_option maxRecDepth 100000 in
set_option maxHeartbeats 8000000 in
theorem satModels_walk (a0 : Int) (A1 : Option Addr) (l1 c1 : Nat) (A : Nat → Option Addr) (L C : Nat → Nat) (Z : Nat → List Int) (a2 : Int) (w : World) (w0 : (Lit.int .i64 a0).wf = true) (w1 : IsGrid w A1 l1 c1 A L C Z) (w2 : (Lit.int .i64 a2).wf = true) :
    Calls Tryz.prog 6 #[.int .i64 a0, .slice A1 l1 c1, .int .i64 a2] w fun e w' => e = .returned (.bool true) ∧ Below w.heap.size w w' := by
  have W1 := Lib.hid w1
  clear w1 w2 w0
  go_enter Tryz.func6, Tryz.ntmps6
  go_upto_region 3 with (first
    | (go_at_call 7; (with_reducible refine (great15_ok W1.out).mono ?_); rintro e w1 ⟨bb, rfl, rfl, hbb⟩; have HB0 := Lib.hid hbb; clear hbb; cases bb)
    | (go_at_call 10; obtain ⟨R, rfl, hR⟩ := tameG W1.out (HB0.out rfl); have HR := Lib.hid hR; (with_reducible refine (may21_ok c1 HR.out.grid (fun r hr => by have := (HR.out.each r hr).1; omega)).mono ?_); rintro e w2 ⟨rfl, hb2⟩; have HB2 := Lib.hid hb2; clear hb2 hR; generalize hmm : mayB a0 R 0 = mm; have HMM := Lib.hid hmm; clear hmm; cases mm)
    | (go_at_call 8; (with_reducible refine (wakes_ok _).mono ?_); rintro e w9 ⟨rfl, hb9⟩; (first | have HB9 := Lib.hid (show Below w.heap.size w w9 from hb9) | have HB9 := Lib.hid (below_then HB2.out (Nat.le_refl _) hb9)); clear hb9))
  all_goals try (go_ret; exact ⟨rfl, HB9.out⟩)
  have h5 : a0 ≤ 8 := by assumption
  obtain ⟨q1, q2, q3, q4⟩ := may_range HMM.out
  obtain ⟨n, rfl⟩ := Int.eq_ofNat_of_zero_le q1
  have hn8 : n ≤ 8 := by omega
  have hr80 := HR.out.r80
  have K1 := solve_nil (cl := c1) (HR.out.grid.below HB2.out) hn8 HMM.out (by omega)
  have K2 := bound_any (w := w2) hn8
  clear q1 q2 q3 q4
  go_upto_region 4 with (first
    | (go_at_call 12; (with_reducible refine K2.mono ?_); rintro e w3 ⟨rfl, rfl⟩)
    | (go_at_call 9; (with_reducible refine K1.mono ?_); rintro e w1 ⟨v, rfl, ht, hp⟩; have HP := Lib.hid hp; clear hp; rcases ht with ⟨hbr, g, vals, rfl, pp⟩ | ⟨hbr, QA, qc, st, rfl, pp⟩ <;> (have PP := Lib.hid pp; clear pp hbr)))
  rotate_left
  · have q1 := boxed w1 (.int .i8 1) (.slice none 0 0) (.slice QA st.length qc)
    have HB3 := Lib.hid (below_then (below_then HB2.out (Nat.le_refl _) HP.out) (Nat.le_refl _) q1.1)
    have x2 := q1.2.cell 0
    simp only [List.getElem?_toArray, List.getElem?_cons_zero, List.getElem?_cons_succ] at x2
    clear q1 K1 K2
    generalize w1.alloc (.cells #[.int .i8 1, .slice none 0 0, .slice QA st.length qc] 29) = W1 at *
    go_wp2_with (go_at_call 8; (with_reducible refine (wakes_ok _).mono ?_); rintro e w9 ⟨rfl, hb9⟩; have HB9 := Lib.hid (below_then HB3.out (Nat.le_refl _) hb9); clear hb9)
    go_ret
    exact ⟨rfl, HB9.out⟩
  have q1 := boxed w1 (.int .i8 0) (.slice (some ⟨g, 0, none⟩) n n) (.slice none 0 0)
  have HB3 := Lib.hid (below_then (below_then HB2.out (Nat.le_refl _) HP.out) (Nat.le_refl _) q1.1)
  have HX := Lib.hid q1.2
  have HV := Lib.hid (PP.out.1.below q1.1 PP.out.1.lt)
  clear q1 K1 K2
  generalize w1.alloc (.cells #[.int .i8 0, .slice (some ⟨g, 0, none⟩) n n, .slice none 0 0] 29) = W1 at *
  have x2 := HX.out.cell 0
  have x3 := HX.out.cell 1
  simp only [List.getElem?_toArray, List.getElem?_cons_zero, List.getElem?_cons_succ] at x2 x3
  by_cases hn0 : n = 0
  · subst hn0
    go_wp2_with (go_at_call 8; (with_reducible refine (wakes_ok _).mono ?_); rintro e w9 ⟨rfl, hb9⟩; have HB9 := Lib.hid (below_then HB3.out (Nat.le_refl _) hb9); clear hb9)
    go_ret
    exact ⟨rfl, HB9.out⟩
  have b0 : ((n : Int) == 0) = false := beq_eq_false_iff_ne.2 (by omega)
  have hBd : Below W1.heap.size W1 (W1.alloc (.cells #[] 23)) := (Below.refl _ W1).alloc (Nat.le_refl _) _
  have HGR := Lib.hid ((HR.out.grid.below HB3.out).below hBd)
  have HE := Lib.hid (own_emptyR W1)
  have HNR := Lib.hid HR.out.nil
  have X1 := Lib.hid (show ([] : List (Option Addr × Nat × List Int)).length + R.length ≤ 1000000 by simp; omega)
  have HBd := Lib.hid hBd
  clear hBd
  go_upto_region 11 with (at_builtin; refine list_append_rows _ rfl (.tmp 51) (.tmp 52) rfl W1.heap.size (.slice (some ⟨W1.heap.size, 0, none⟩) 0 0) [] (by rfl) HE.out A1 c1 R (by rfl) HGR.out HNR.out X1.out (by simp) ?_; intro v1 wa ho1 hb1; rw [List.nil_append] at ho1; have HO1 := Lib.hid ho1; have HB4 := Lib.hid (HBd.out.trans hb1); clear ho1 hb1)
  have hM0 : MoreAt W1 wa W1.heap.size v1 R [] ((unitsOf vals).take 0) := ⟨by rw [List.append_nil]; exact HO1.out, (fun r hr => by cases hr), rfl, HB4.out⟩
  have HM0 := Lib.hid hM0
  clear hM0
  have z3 := (HB4.out.cell (p := ⟨w1.heap.size, 1, none⟩) HX.out.lt).trans x3
  obtain ⟨i0, hi0, hz0, hz1, hz2⟩ := info_parts slice_info
  go_upto_region 12 with fail
  have hl := PP.out.2.1
  have HL := Lib.hid hl
  clear hl x2 x3
  go_loopg [57, 9] n (fun gk vi vm wx => ∃ (i : Nat) (U : List RowT), i + gk = n ∧ vi = .int .i64 i ∧ U.length = i ∧ MoreAt W1 wx W1.heap.size vm R U ((unitsOf vals).take i))
  case atStart => exact ⟨0, [], by omega, rfl, rfl, HM0.out⟩
  case round =>
    obtain ⟨i, U, hig, rfl, hU, hM⟩ := hrel
    have HM := Lib.hid hM
    have HUL := Lib.hid hU
    clear HM0 HO1 z3 hM hU
    cases gk with
    | zero =>
      obtain rfl : i = n := by omega
      have d1 : decide (i < i) = false := by simp
      have hM2 : MoreAt W1 wr W1.heap.size u9 R U (unitsOf vals) := by
        have := HM.out
        rw [List.take_of_length_le (by rw [units_len, HL.out]; exact Nat.le_refl _)] at this
        exact this
      obtain ⟨GA, gc, rfl, K1⟩ := solve_units hM2 (HR.out.grid.below HB3.out) hr80 (by rw [HUL.out]; exact hn8) hn8 HL.out PP.out.2.2.1 PP.out.2.2.2 HMM.out
      have HM2 := Lib.hid hM2
      have K2 := bound_any (w := wr) hn8
      obtain ⟨m, hm⟩ : ∃ m, (R ++ U).length = m := ⟨_, rfl⟩
      have Hm := Lib.hid hm
      have hm88 : m ≤ 88 := by rw [← hm, List.length_append, HUL.out]; omega
      rw [hm] at K1 ⊢
      clear hm
      clear hM2 HM
      go_upto_region 17 with (first
        | (go_at_call 12; (with_reducible refine K2.mono ?_); rintro e w3 ⟨rfl, rfl⟩)
        | (go_at_call 9; (with_reducible refine K1.mono ?_); rintro e w4 ⟨gb, rfl, hb4⟩; have HB5 := Lib.hid hb4; clear hb4))
      have q2 := boxed w4 (.int .i8 0) (.slice (some ⟨gb, 0, none⟩) i i) (.slice none 0 0)
      have HB6 := Lib.hid (below_then HB5.out (Nat.le_refl _) q2.1)
      have HY := Lib.hid q2.2
      clear q2 K1 K2
      generalize w4.alloc (.cells #[.int .i8 0, .slice (some ⟨gb, 0, none⟩) i i, .slice none 0 0] 29) = W4 at *
      have HM4 := Lib.hid (HM2.out.below (Nat.le_refl _) HB6.out)
      have x7 := (HM4.out.2.2.2.cell (p := ⟨w1.heap.size, 1, none⟩) HX.out.lt).trans (HX.out.cell 1)
      simp only [List.getElem?_toArray, List.getElem?_cons_zero, List.getElem?_cons_succ] at x7
      obtain ⟨q, kk, hq, hq1, hq2, hk, hkl⟩ := tmod_mod a2 i (by omega)
      have hkv : kk < vals.length := by rw [HL.out]; exact hkl
      have y0 := (HM4.out.2.2.2.cell (p := ⟨g, kk, none⟩) HV.out.lt).trans (blk8_cell HV.out hkv)
      have h12 := PP.out.2.2.1 _ (List.getElem_mem hkv)
      have hus : [uLit kk vals[kk]] ∈ unitsOf vals := by rw [← units_at hkv]; exact List.getElem_mem _
      have XU := Lib.hid (xor_u (i := kk) (by omega))
      have hK5 : ∀ (x : Int) (g2 cap : Nat) (w3 : World), x = negM (uLit kk vals[kk]) → w3.ownsRow W1.heap.size 23 1 (.slice (some ⟨g2, 0, none⟩) (m + 1) cap) (m + 1) ((R ++ U).map encR ++ [encR (some ⟨W4.heap.size, 0, none⟩, 1, [x])]) →
          ((W4.alloc (.cells #[.int .i64 x] 3)).alloc (.cells #[.slice (some ⟨W4.heap.size, 0, none⟩) 1 1] 23)).grownBy w3 (Value.slice GA m gc).ownBlock →
          Blk w3 w4.heap.size 29 #[.int .i8 0, .slice (some ⟨gb, 0, none⟩) i i, .slice none 0 0] ∧ Below W1.heap.size W1 w3 ∧ Calls Tryz.prog 9 #[.int .i64 i, .slice (some ⟨g2, 0, none⟩) (m + 1) cap, .slice none 0 0, .int .i64 (bnd i : Nat)] w3 fun e w' => ∃ QA m qc, e = .returned (.tuple #[.agg #[.int .i8 1, .slice none 0 0, .slice QA (m : Nat) qc], .int .i64 0]) ∧ Below w3.heap.size w3 w' := by
        rintro x g2 cap w3 rfl ho hg
        rw [← Hm.out] at ho hg ⊢
        have h := HM4.out.push HM4.out.2.2.2.size ho hg
        refine ⟨((HY.out.alloc _).alloc _).grown hg (fun e => own_blk_ne ((HM4.out.1.alloc (.cells #[.int .i64 (negM (uLit kk vals[kk]))] 3)).alloc (.cells #[.slice (some ⟨W4.heap.size, 0, none⟩) 1 1] 23)) ((HY.out.alloc _).alloc _) (by decide) e.symm), ?_⟩
        exact ⟨h.2.2.2, solve_neg h (HR.out.grid.below HB3.out) hr80 (by rw [HUL.out]; exact hn8) hn8 (units_rng HL.out) hus HMM.out⟩
      have HO4 : W4.ownsRow W1.heap.size 23 1 (.slice GA m gc) m ((R ++ U).map encR) := by
        have := HM4.out.1
        rw [Hm.out] at this
        exact this
      have HK5 := Lib.hid hK5
      have HO5 := Lib.hid HO4
      have t3 : (0 : Int) ≤ (kk : Int) := by omega
      have t4 : (kk : Int) < (i : Int) := by omega
      have X2 := Lib.hid (show (m + 1) * 24 ≤ 140737488355328 by omega)
      have hB : W1.heap.size ≤ W4.heap.size := HM4.out.2.2.2.size
      clear hK5 HO4 hus
      generalize vals[kk] = v at *
      clear hkv
      go_upto_region 18 with fail
      rcases h12 with rfl | rfl
      · go_upto_region 19 with (first
          | (at_builtin; go_loud (refine list_push _ rfl (.tmp 90) (.tmp 103) 22 rfl W1.heap.size 23 i0 (.slice none 0 0) 1 24 Tryz.underlying22 hi0 hz0 hz1 hz2 rfl (by decide) (.slice GA m gc) m ((R ++ U).map encR) rfl ((HO5.out.alloc _).alloc _) (W4.heap.size + 1) #[.slice (some ⟨W4.heap.size, 0, none⟩) 1 1] rfl (Blk.new_at (by simp) _ _) rfl (by intro u hu; rw [List.mem_singleton.1 hu]; rfl) X2.out (by decide) (by omega) ?_); intro g2 cap w5 ho3 hg3 hat3 hlt3; obtain ⟨hy5, hb5, K5⟩ := HK5.out _ g2 cap w5 XU.out.1 ho3 hg3; have HB7 := Lib.hid hb5; have HY5 := Lib.hid hy5; have HK6 := Lib.hid K5; clear ho3 hg3 hat3 hlt3 hb5 K5 hy5)
          | (go_at_call 12; (with_reducible refine (bound_any hn8).mono ?_); rintro e w6 ⟨rfl, rfl⟩)
          | (go_at_call 9; (with_reducible refine HK6.out.mono ?_); rintro e w7 ⟨QA, mq, qc, rfl, hb7⟩; have HB8 := Lib.hid (below_then HB7.out (Nat.le_refl _) hb7); have HY7 := Lib.hid (HY5.out.below hb7 HY5.out.lt); clear hb7))
        have q3 := boxed w7 (.int .i8 1) (.slice none 0 0) (.slice QA mq qc)
        have HBF := Lib.hid (below_then HB3.out (Nat.le_refl _) (below_then HB8.out (Nat.le_refl _) q3.1))
        have v1 := (HY7.out.below q3.1 HY7.out.lt).cell 0
        have v2 := q3.2.cell 0
        simp only [List.getElem?_toArray, List.getElem?_cons_zero] at v1 v2
        clear q3 x7 y0
        generalize w7.alloc (.cells #[.int .i8 1, .slice none 0 0, .slice QA mq qc] 29) = W7 at *
        go_wp2_with (go_at_call 8; (with_reducible refine (wakes_ok _).mono ?_); rintro e w9 ⟨rfl, hb9⟩; have HB9 := Lib.hid (below_then HBF.out (Nat.le_refl _) hb9); clear hb9)
        go_ret
        exact ⟨rfl, HB9.out⟩
      · go_upto_region 19 with (first
          | (at_builtin; go_loud (refine list_push _ rfl (.tmp 90) (.tmp 103) 22 rfl W1.heap.size 23 i0 (.slice none 0 0) 1 24 Tryz.underlying22 hi0 hz0 hz1 hz2 rfl (by decide) (.slice GA m gc) m ((R ++ U).map encR) rfl ((HO5.out.alloc _).alloc _) (W4.heap.size + 1) #[.slice (some ⟨W4.heap.size, 0, none⟩) 1 1] rfl (Blk.new_at (by simp) _ _) rfl (by intro u hu; rw [List.mem_singleton.1 hu]; rfl) X2.out (by decide) (by omega) ?_); intro g2 cap w5 ho3 hg3 hat3 hlt3; obtain ⟨hy5, hb5, K5⟩ := HK5.out _ g2 cap w5 XU.out.2 ho3 hg3; have HB7 := Lib.hid hb5; have HY5 := Lib.hid hy5; have HK6 := Lib.hid K5; clear ho3 hg3 hat3 hlt3 hb5 K5 hy5)
          | (go_at_call 12; (with_reducible refine (bound_any hn8).mono ?_); rintro e w6 ⟨rfl, rfl⟩)
          | (go_at_call 9; (with_reducible refine HK6.out.mono ?_); rintro e w7 ⟨QA, mq, qc, rfl, hb7⟩; have HB8 := Lib.hid (below_then HB7.out (Nat.le_refl _) hb7); have HY7 := Lib.hid (HY5.out.below hb7 HY5.out.lt); clear hb7))
        have q3 := boxed w7 (.int .i8 1) (.slice none 0 0) (.slice QA mq qc)
        have HBF := Lib.hid (below_then HB3.out (Nat.le_refl _) (below_then HB8.out (Nat.le_refl _) q3.1))
        have v1 := (HY7.out.below q3.1 HY7.out.lt).cell 0
        have v2 := q3.2.cell 0
        simp only [List.getElem?_toArray, List.getElem?_cons_zero] at v1 v2
        clear q3 x7 y0
        generalize w7.alloc (.cells #[.int .i8 1, .slice none 0 0, .slice QA mq qc] 29) = W7 at *
        go_wp2_with (go_at_call 8; (with_reducible refine (wakes_ok _).mono ?_); rintro e w9 ⟨rfl, hb9⟩; have HB9 := Lib.hid (below_then HBF.out (Nat.le_refl _) hb9); clear hb9)
        go_ret
        exact ⟨rfl, HB9.out⟩
    | succ k =>
      have hin : i < vals.length := by rw [HL.out]; omega
      have d1 : decide (i < n) = true := decide_eq_true (by omega)
      have y0 := (HM.out.2.2.2.cell (p := ⟨g, i, none⟩) HV.out.lt).trans (blk8_cell HV.out hin)
      have t1 : (0 : Int) ≤ (i : Int) := by omega
      have t2 : (i : Int) < (n : Int) := by omega
      have h12 := PP.out.2.2.1 _ (List.getElem_mem hin)
      have HUT := Lib.hid (units_take hin)
      have X2 := Lib.hid (show ((R ++ U).length + 1) * 24 ≤ 140737488355328 by rw [List.length_append, HUL.out]; omega)
      have hB : W1.heap.size ≤ wr.heap.size := HM.out.2.2.2.size
      have OU := Lib.hid (or_u (i := i) (by omega))
      generalize vals[i] = v at *
      clear hin
      rcases h12 with rfl | rfl
      · go_upto_region 15 with (at_builtin; go_loud (refine list_push _ rfl (.tmp 62) (.tmp 70) 22 rfl W1.heap.size 23 i0 (.slice none 0 0) 1 24 Tryz.underlying22 hi0 hz0 hz1 hz2 rfl (by decide) _ (R ++ U).length ((R ++ U).map encR) rfl ((HM.out.1.alloc _).alloc _) (wr.heap.size + 1) #[.slice (some ⟨wr.heap.size, 0, none⟩) 1 1] rfl (Blk.new_at (by simp) _ _) rfl (by intro u hu; rw [List.mem_singleton.1 hu]; rfl) X2.out (by decide) (by omega) ?_); intro g2 cap w3 ho3 hg3 hat3 hlt3)
        have HM3 := Lib.hid (HM.out.push hB ho3 hg3)
        clear ho3 hg3 hat3 hlt3 y0
        go_wp2
        go_roundg k
        case measure => omega
        case rel => exact ⟨i + 1, U ++ [(some ⟨wr.heap.size, 0, none⟩, 1, [uLit i 1])], by omega, by go_num, by rw [List.length_append, HUL.out]; rfl, by have := HM3.out; rw [OU.out.1, ← HUT.out, List.length_append] at this; exact this⟩
      · go_upto_region 15 with (at_builtin; go_loud (refine list_push _ rfl (.tmp 62) (.tmp 70) 22 rfl W1.heap.size 23 i0 (.slice none 0 0) 1 24 Tryz.underlying22 hi0 hz0 hz1 hz2 rfl (by decide) _ (R ++ U).length ((R ++ U).map encR) rfl ((HM.out.1.alloc _).alloc _) (wr.heap.size + 1) #[.slice (some ⟨wr.heap.size, 0, none⟩) 1 1] rfl (Blk.new_at (by simp) _ _) rfl (by intro u hu; rw [List.mem_singleton.1 hu]; rfl) X2.out (by decide) (by omega) ?_); intro g2 cap w3 ho3 hg3 hat3 hlt3)
        have HM3 := Lib.hid (HM.out.push hB ho3 hg3)
        clear ho3 hg3 hat3 hlt3 y0
        go_wp2
        go_roundg k
        case measure => omega
        case rel => exact ⟨i + 1, U ++ [(some ⟨wr.heap.size, 0, none⟩, 1, [uLit i 2])], by omega, by go_num, by rw [List.length_append, HUL.out]; rfl, by have := HM3.out; rw [OU.out.2, ← HUT.out, List.length_append] at this; exact this⟩
end Go.Proofs.YtmbekchnfbmhbaaGreat

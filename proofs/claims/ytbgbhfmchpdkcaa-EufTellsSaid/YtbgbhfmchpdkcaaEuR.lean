/- The reference: what is told to euf. -/
import Derived.Test.YtbgbhfmchpdkcaaEuO
namespace Go.Proofs.Ytbgbhfmchpdkcaa
open Go.RowKit

set_option maxRecDepth 100000 in
set_option maxHeartbeats 4000000 in
theorem reuf_ok {w : World} {A B : Option Addr} {c : Nat} {T : List Nd} {L : List Int} (cap : Nat) (h : Tab w A T) (hr : Row w B L) (hm : MayLits T L) :
    Calls Try.prog 24 #[.agg #[.slice A T.length c], .slice B L.length cap] w fun e w' => ∃ v, e = .returned v ∧ OwnL w' w.heap.size v (eufL T L) ∧ Below w.heap.size w w' := by
  obtain ⟨i0, hi, hz0, hz1, hz2⟩ := info_parts int_info
  have hlen := hr.len
  have HB := Lib.hid (show Below w.heap.size w (w.alloc (.cells #[.slice A T.length c] 24)) from (Below.refl _ w).alloc (Nat.le_refl _) _)
  have HBL := Lib.hid (Blk.new w 24 #[.slice A T.length c])
  have HL1 : Hid (w.heap.size < (w.alloc (.cells #[.slice A T.length c] 24)).heap.size) := Lib.hid (by simp)
  have HT := Lib.hid h
  have HR := Lib.hid hr
  have HM := Lib.hid hm
  clear h hr hm
  go_enter Try.func24, Try.ntmps24
  go_wp2_with fail
  refine (rmay_ok (c := c) cap (HT.out.below HB.out) (HR.out.below HB.out)).mono ?_
  rintro e w1 ⟨r, rfl, hr, hb1⟩
  obtain rfl : r = true := hr.2 HM.out
  have HB1 := Lib.hid (HB.out.trans (hb1.mono HB.out.size))
  have HX1 := Lib.hid (HBL.out.below hb1 HL1.out)
  clear hr hb1
  go_wp2
  go_loopg [6, 5] L.length (fun g v vo wr => ∃ i : Nat, i + g = L.length ∧ v = .int .i64 i ∧ OwnL wr w.heap.size vo ((L.take i).filter (tellB T)) ∧ Below w.heap.size w wr ∧ Blk wr w.heap.size 24 #[.slice A T.length c])
  case atStart => exact ⟨0, by omega, rfl, World.ownsRow_nil _ _ _ _, HB1.out, HX1.out⟩
  case round =>
    obtain ⟨i, hig, rfl, hown, hb, hbl⟩ := hrel
    have HO := Lib.hid hown
    have HBW := Lib.hid hb
    have HX := Lib.hid hbl
    clear hown hb hbl
    cases gk with
    | zero =>
      obtain rfl : i = L.length := by omega
      have d1 : decide ((L.length : Int) < L.length) = false := by simp
      have HE := Lib.hid (show L.take L.length = L from List.take_length)
      rw [HE.out] at HO
      have HOX := Lib.hid (show OwnL wr w.heap.size _ (eufL T L) from HO.out)
      clear HO
      obtain ⟨a, cp, hv⟩ := own_slice HOX.out
      subst hv
      generalize (eufL T L).length = ln at *
      go_wp2
      go_ret
      exact ⟨_, rfl, HOX.out, HBW.out⟩
    | succ gk =>
      have hlt : i < L.length := by omega
      have d1 : decide ((i : Int) < L.length) = true := by simp; omega
      have t1 : (0 : Int) ≤ (i : Int) := by omega
      have t2 : (i : Int) < (L.length : Int) := by omega
      obtain ⟨b, off, hA, hbb, hcell⟩ := (HR.out.below HBW.out).at_.resolve_left (by omega)
      subst hA
      have y0 := hcell i hlt
      have HS := Lib.hid (filter_snoc (tellB T) hlt)
      have hlm := HM.out.2 L[i] (List.getElem_mem hlt)
      clear hcell
      generalize L[i] = x at *
      obtain ⟨n, _, _, _, hq1, hq2⟩ := hlm.node
      obtain ⟨q, hq⟩ : ∃ q : Nat, x / 2 = q := ⟨(x / 2).toNat, by omega⟩
      have hqT : q < T.length := by omega
      have HTw := Lib.hid (HT.out.below HBW.out)
      obtain ⟨kv, hkv⟩ : ∃ kv, kindM T (x / 2) = kv := ⟨_, rfl⟩
      obtain ⟨ab, hab⟩ : ∃ ab : Bool, ab = true ↔ ArgOf T (q : Int) := by
        by_cases hh : ArgOf T (q : Int)
        · exact ⟨true, fun _ => hh, fun _ => rfl⟩
        · exact ⟨false, fun e => (by cases e), fun h => absurd h hh⟩
      have HTB : Hid (tellB T x = true ↔ (kv = 4 ∨ kv = 5 ∨ kv = 8) ∨ ab = true) := Lib.hid (by rw [tellB_iff, hab]; unfold Tell; rw [hkv, hq])
      have KN : Hid (∀ W, Calls Try.prog 25 #[.int .i64 x] W fun e w' => e = .returned (.int .i64 (q : Int)) ∧ W = w') := Lib.hid fun W => hq ▸ rnode_ok x W
      have KK : Hid (∀ w', Below wr.heap.size wr w' → Calls Try.prog 28 #[.agg #[.slice A T.length c], .int .i64 (q : Int)] w' fun e w2 => e = .returned (.int .i8 kv) ∧ Below w'.heap.size w' w2) := Lib.hid fun w' hw => by
        have := rkind_ok (c := c) (HTw.out.below hw) (q : Int)
        unfold KindIs at this
        rwa [← hq, hkv, hq] at this
      have KA : Hid (∀ w', Below wr.heap.size wr w' → Calls Try.prog 58 #[.agg #[.slice A T.length c], .int .i64 (q : Int)] w' fun e w2 => e = .returned (.bool ab) ∧ Below w'.heap.size w' w2) := Lib.hid fun w' hw => (rarg_ok HM.out.1 c (T.length - q) q hqT (Nat.le_refl _) (HTw.out.below hw)).mono fun e w2 ⟨r, h1, h2, h3⟩ => ⟨by rw [h1, show r = ab by rw [Bool.eq_iff_iff, h2, hab]], h3⟩
      clear hlm hq hq1 hq2 hkv hab
      obtain ⟨fs, hfs⟩ : ∃ fs, (L.take i).filter (tellB T) = fs := ⟨_, rfl⟩
      rw [hfs] at HO HS
      have X1 : Hid ((fs.length + 1) * 8 ≤ 140737488355328) := Lib.hid (by
        rw [← hfs]
        have := List.length_filter_le (tellB T) (L.take i)
        rw [List.length_take] at this
        omega)
      clear hfs
      obtain ⟨tb, htb⟩ : ∃ tb, tellB T x = tb := ⟨_, rfl⟩
      rw [htb] at HS HTB
      clear htb
      have HF : Hid (∀ w', Below wr.heap.size wr w' → w'.cell? ⟨w.heap.size, 0, none⟩ = some (.slice A T.length c) ∧ w'.cell? ⟨b, off + i, none⟩ = some (.int .i64 x)) := Lib.hid fun w' hb => ⟨(hb.cell (p := ⟨w.heap.size, 0, none⟩) HX.out.lt).trans (HX.out.cell 0), (hb.cell (p := ⟨b, off + i, none⟩) hbb).trans y0⟩
      clear y0
      go_upto_region 7 with (fail)
      refine wp_region_quiet (C := fun w' => Below wr.heap.size wr w') (by kernel_rfl) (by kernel_rfl) (⟨rfl, rfl, rfl, Nat.le_refl _, fun _ _ => rfl⟩) ?_
      refine QW.lit ?_
      refine qw_want rfl ?_ (fun w' hw' => ?_) ?_
      rotate_left
      · obtain ⟨k0, k1⟩ := HF.out w' hw'
        unfold Oper.quietAt
        go_simp
        exact rfl
      simp only [Act.put, List.setIfInBounds_toArray, List.set_cons_succ, List.set_cons_zero]
      refine qw_want rfl ?_ (fun w' hw' => ?_) ?_
      rotate_left
      · unfold Oper.quietAt
        go_simp
        exact rfl
      simp only [Act.put, List.setIfInBounds_toArray, List.set_cons_succ, List.set_cons_zero]
      refine qw_want rfl ?_ (fun w' hw' => ?_) ?_
      rotate_left
      · unfold Oper.quietAt
        go_simp
        exact rfl
      simp only [Act.put, List.setIfInBounds_toArray, List.set_cons_succ, List.set_cons_zero]
      refine qw_want rfl ?_ (fun w' hw' => ?_) ?_
      rotate_left
      · unfold Oper.quietAt
        go_simp
        exact rfl
      simp only [Act.put, List.setIfInBounds_toArray, List.set_cons_succ, List.set_cons_zero]
      refine qw_want rfl ?_ (fun w' hw' => ?_) ?_
      rotate_left
      · obtain ⟨k0, k1⟩ := HF.out w' hw'
        unfold Oper.quietAt
        go_simp
        exact rfl
      simp only [Act.put, List.setIfInBounds_toArray, List.set_cons_succ, List.set_cons_zero]
      refine qw_want rfl (.int .i64 (q : Int)) (fun w' hw' => ?_) ?_
      · unfold Oper.quietAt
        go_simp
        refine (KN.out w').mono ?_
        rintro e w2 ⟨rfl, rfl⟩
        exact ⟨rfl, hw'⟩
      simp only [Act.put, List.setIfInBounds_toArray, List.set_cons_succ, List.set_cons_zero]
      refine qw_want rfl (.int .i8 kv) (fun w' hw' => ?_) ?_
      · unfold Oper.quietAt
        go_simp
        refine (KK.out w' hw').mono ?_
        rintro e w2 ⟨rfl, hb⟩
        have hz := below_then hw' (Nat.le_refl _) hb
        exact ⟨rfl, by simpa using hz⟩
      simp only [Act.put, List.setIfInBounds_toArray, List.set_cons_succ, List.set_cons_zero]
      refine qw_want rfl ?_ (fun w' hw' => ?_) ?_
      rotate_left
      · unfold Oper.quietAt
        go_simp
        exact rfl
      simp only [Act.put, List.setIfInBounds_toArray, List.set_cons_succ, List.set_cons_zero]
      refine qw_end (fun w5 hb5 => ?_)
      have H5 := Lib.hid hb5
      clear hb5
      obtain ⟨w7, rfl⟩ : ∃ w7 : World, w7 = w5 := ⟨_, rfl⟩
      go_upto_region 8 with (fail)
      by_cases k4 : kv = 4
      · subst k4
        have HTBV : Hid (tb = true) := Lib.hid (HTB.out.2 (.inl (.inl rfl)))
        refine wp_region_quiet (C := fun w' => Below w7.heap.size w7 w') (by kernel_rfl) (by kernel_rfl) (⟨rfl, rfl, rfl, Nat.le_refl _, fun _ _ => rfl⟩) ?_
        refine QW.lit ?_
        refine qw_want rfl ?_ (fun w' hw' => ?_) ?_
        rotate_left
        · unfold Oper.quietAt
          go_simp
          exact rfl
        simp only [Act.put, List.setIfInBounds_toArray, List.set_cons_succ, List.set_cons_zero]
        refine qw_want rfl ?_ (fun w' hw' => ?_) ?_
        rotate_left
        · unfold Oper.quietAt
          go_simp
          exact rfl
        simp only [Act.put, List.setIfInBounds_toArray, List.set_cons_succ, List.set_cons_zero]
        refine qw_want rfl ?_ (fun w' hw' => ?_) ?_
        rotate_left
        · unfold Oper.quietAt
          go_simp
          exact rfl
        simp only [Act.put, List.setIfInBounds_toArray, List.set_cons_succ, List.set_cons_zero]
        refine qw_skip (by rfl) ?_
        simp only [Act.put, List.setIfInBounds_toArray, List.set_cons_succ, List.set_cons_zero]
        refine qw_skip (by rfl) ?_
        simp only [Act.put, List.setIfInBounds_toArray, List.set_cons_succ, List.set_cons_zero]
        refine qw_want rfl ?_ (fun w' hw' => ?_) ?_
        rotate_left
        · unfold Oper.quietAt
          go_simp
          exact rfl
        simp only [Act.put, List.setIfInBounds_toArray, List.set_cons_succ, List.set_cons_zero]
        refine qw_want rfl ?_ (fun w' hw' => ?_) ?_
        rotate_left
        · unfold Oper.quietAt
          go_simp
          exact rfl
        simp only [Act.put, List.setIfInBounds_toArray, List.set_cons_succ, List.set_cons_zero]
        refine qw_skip (by rfl) ?_
        simp only [Act.put, List.setIfInBounds_toArray, List.set_cons_succ, List.set_cons_zero]
        refine qw_skip (by rfl) ?_
        simp only [Act.put, List.setIfInBounds_toArray, List.set_cons_succ, List.set_cons_zero]
        refine qw_want rfl ?_ (fun w' hw' => ?_) ?_
        rotate_left
        · unfold Oper.quietAt
          go_simp
          exact rfl
        simp only [Act.put, List.setIfInBounds_toArray, List.set_cons_succ, List.set_cons_zero]
        refine qw_want rfl ?_ (fun w' hw' => ?_) ?_
        rotate_left
        · unfold Oper.quietAt
          go_simp
          exact rfl
        simp only [Act.put, List.setIfInBounds_toArray, List.set_cons_succ, List.set_cons_zero]
        refine qw_skip (by rfl) ?_
        simp only [Act.put, List.setIfInBounds_toArray, List.set_cons_succ, List.set_cons_zero]
        refine qw_skip (by rfl) ?_
        simp only [Act.put, List.setIfInBounds_toArray, List.set_cons_succ, List.set_cons_zero]
        refine qw_skip (by rfl) ?_
        simp only [Act.put, List.setIfInBounds_toArray, List.set_cons_succ, List.set_cons_zero]
        refine qw_skip (by rfl) ?_
        simp only [Act.put, List.setIfInBounds_toArray, List.set_cons_succ, List.set_cons_zero]
        refine qw_skip (by rfl) ?_
        simp only [Act.put, List.setIfInBounds_toArray, List.set_cons_succ, List.set_cons_zero]
        refine qw_skip (by rfl) ?_
        simp only [Act.put, List.setIfInBounds_toArray, List.set_cons_succ, List.set_cons_zero]
        refine qw_skip (by rfl) ?_
        simp only [Act.put, List.setIfInBounds_toArray, List.set_cons_succ, List.set_cons_zero]
        refine qw_want rfl ?_ (fun w' hw' => ?_) ?_
        rotate_left
        · unfold Oper.quietAt
          go_simp
          exact rfl
        simp only [Act.put, List.setIfInBounds_toArray, List.set_cons_succ, List.set_cons_zero]
        refine qw_end (fun w5 hb5 => ?_)
        have HB6 := Lib.hid (HBW.out.trans ((H5.out.trans (hb5.mono H5.out.size)).mono HBW.out.size))
        have HX6 := Lib.hid (HX.out.below (H5.out.trans (hb5.mono H5.out.size)) HX.out.lt)
        have HO6 : Hid (OwnL w5 w.heap.size _ fs) := Lib.hid (own_kept HO.out (Kept.of_below (S := fun _ => False) (H5.out.trans (hb5.mono H5.out.size))) (fun _ _ h => h))
        have c6 := (hb5.cell (p := ⟨b, off + i, none⟩) (Nat.lt_of_lt_of_le hbb H5.out.size)).trans (HF.out w7 H5.out).2
        have hbb6 : b < w5.heap.size := Nat.lt_of_lt_of_le (Nat.lt_of_lt_of_le hbb H5.out.size) hb5.size
        clear hb5
        go_wp2_with (at_builtin; refine list_push _ rfl (.tmp 44) (.tmp 49) 25 rfl w.heap.size 3 i0 (.int .i64 0) 1 8 Try.underlying25 hi hz0 hz1 hz2 rfl (by decide) _ fs.length (fs.map (Value.int .i64)) rfl (own_kept HO6.out ((Kept.refl (fun _ => False) w5).alloc _) (fun _ _ h => h)) w5.heap.size #[.int .i64 x] rfl (Blk.new w5 _ _) rfl (by intro u hu; rw [List.mem_singleton.1 hu]; rfl) X1.out (by decide) HB6.out.size ?_; intro ga ca w3 ho3 hg3 _ _; have HO3 := Lib.hid ho3; have HB3 := Lib.hid (Below.grown (HB6.out.alloc HB6.out.size _) hg3 (Nat.le_trans HB6.out.size (by simp)) (own_base_le HO6.out)); have HX3 := Lib.hid ((HX6.out.alloc (.cells #[.int .i64 x] 3)).grown hg3 (fun e => own_blk_ne HO6.out HX6.out (by decide) e.symm)); clear ho3 hg3)
        go_roundg gk
        case measure => omega
        case rel =>
          refine ⟨i + 1, by omega, by go_num, ?_, HB3.out, HX3.out⟩
          rw [HS.out, HTBV.out]
          simp only [if_true]
          unfold OwnL
          rw [List.length_append, List.map_append]
          exact HO3.out
      have b4 : (kv == 4) = false := by simp [k4]
      by_cases k5 : kv = 5
      · subst k5
        have HTBV : Hid (tb = true) := Lib.hid (HTB.out.2 (.inl (.inr (.inl rfl))))
        refine wp_region_quiet (C := fun w' => Below w7.heap.size w7 w') (by kernel_rfl) (by kernel_rfl) (⟨rfl, rfl, rfl, Nat.le_refl _, fun _ _ => rfl⟩) ?_
        refine QW.lit ?_
        refine qw_want rfl ?_ (fun w' hw' => ?_) ?_
        rotate_left
        · unfold Oper.quietAt
          go_simp
          exact rfl
        simp only [Act.put, List.setIfInBounds_toArray, List.set_cons_succ, List.set_cons_zero]
        refine qw_want rfl ?_ (fun w' hw' => ?_) ?_
        rotate_left
        · unfold Oper.quietAt
          go_simp
          exact rfl
        simp only [Act.put, List.setIfInBounds_toArray, List.set_cons_succ, List.set_cons_zero]
        refine qw_want rfl ?_ (fun w' hw' => ?_) ?_
        rotate_left
        · unfold Oper.quietAt
          go_simp
          exact rfl
        simp only [Act.put, List.setIfInBounds_toArray, List.set_cons_succ, List.set_cons_zero]
        refine qw_want rfl ?_ (fun w' hw' => ?_) ?_
        rotate_left
        · unfold Oper.quietAt
          go_simp
          exact rfl
        simp only [Act.put, List.setIfInBounds_toArray, List.set_cons_succ, List.set_cons_zero]
        refine qw_want rfl ?_ (fun w' hw' => ?_) ?_
        rotate_left
        · unfold Oper.quietAt
          go_simp
          exact rfl
        simp only [Act.put, List.setIfInBounds_toArray, List.set_cons_succ, List.set_cons_zero]
        refine qw_want rfl ?_ (fun w' hw' => ?_) ?_
        rotate_left
        · unfold Oper.quietAt
          go_simp
          exact rfl
        simp only [Act.put, List.setIfInBounds_toArray, List.set_cons_succ, List.set_cons_zero]
        refine qw_want rfl ?_ (fun w' hw' => ?_) ?_
        rotate_left
        · unfold Oper.quietAt
          go_simp
          exact rfl
        simp only [Act.put, List.setIfInBounds_toArray, List.set_cons_succ, List.set_cons_zero]
        refine qw_skip (by rfl) ?_
        simp only [Act.put, List.setIfInBounds_toArray, List.set_cons_succ, List.set_cons_zero]
        refine qw_skip (by rfl) ?_
        simp only [Act.put, List.setIfInBounds_toArray, List.set_cons_succ, List.set_cons_zero]
        refine qw_want rfl ?_ (fun w' hw' => ?_) ?_
        rotate_left
        · unfold Oper.quietAt
          go_simp
          exact rfl
        simp only [Act.put, List.setIfInBounds_toArray, List.set_cons_succ, List.set_cons_zero]
        refine qw_want rfl ?_ (fun w' hw' => ?_) ?_
        rotate_left
        · unfold Oper.quietAt
          go_simp
          exact rfl
        simp only [Act.put, List.setIfInBounds_toArray, List.set_cons_succ, List.set_cons_zero]
        refine qw_skip (by rfl) ?_
        simp only [Act.put, List.setIfInBounds_toArray, List.set_cons_succ, List.set_cons_zero]
        refine qw_skip (by rfl) ?_
        simp only [Act.put, List.setIfInBounds_toArray, List.set_cons_succ, List.set_cons_zero]
        refine qw_skip (by rfl) ?_
        simp only [Act.put, List.setIfInBounds_toArray, List.set_cons_succ, List.set_cons_zero]
        refine qw_skip (by rfl) ?_
        simp only [Act.put, List.setIfInBounds_toArray, List.set_cons_succ, List.set_cons_zero]
        refine qw_skip (by rfl) ?_
        simp only [Act.put, List.setIfInBounds_toArray, List.set_cons_succ, List.set_cons_zero]
        refine qw_skip (by rfl) ?_
        simp only [Act.put, List.setIfInBounds_toArray, List.set_cons_succ, List.set_cons_zero]
        refine qw_skip (by rfl) ?_
        simp only [Act.put, List.setIfInBounds_toArray, List.set_cons_succ, List.set_cons_zero]
        refine qw_want rfl ?_ (fun w' hw' => ?_) ?_
        rotate_left
        · unfold Oper.quietAt
          go_simp
          exact rfl
        simp only [Act.put, List.setIfInBounds_toArray, List.set_cons_succ, List.set_cons_zero]
        refine qw_end (fun w5 hb5 => ?_)
        have HB6 := Lib.hid (HBW.out.trans ((H5.out.trans (hb5.mono H5.out.size)).mono HBW.out.size))
        have HX6 := Lib.hid (HX.out.below (H5.out.trans (hb5.mono H5.out.size)) HX.out.lt)
        have HO6 : Hid (OwnL w5 w.heap.size _ fs) := Lib.hid (own_kept HO.out (Kept.of_below (S := fun _ => False) (H5.out.trans (hb5.mono H5.out.size))) (fun _ _ h => h))
        have c6 := (hb5.cell (p := ⟨b, off + i, none⟩) (Nat.lt_of_lt_of_le hbb H5.out.size)).trans (HF.out w7 H5.out).2
        have hbb6 : b < w5.heap.size := Nat.lt_of_lt_of_le (Nat.lt_of_lt_of_le hbb H5.out.size) hb5.size
        clear hb5
        go_wp2_with (at_builtin; refine list_push _ rfl (.tmp 44) (.tmp 49) 25 rfl w.heap.size 3 i0 (.int .i64 0) 1 8 Try.underlying25 hi hz0 hz1 hz2 rfl (by decide) _ fs.length (fs.map (Value.int .i64)) rfl (own_kept HO6.out ((Kept.refl (fun _ => False) w5).alloc _) (fun _ _ h => h)) w5.heap.size #[.int .i64 x] rfl (Blk.new w5 _ _) rfl (by intro u hu; rw [List.mem_singleton.1 hu]; rfl) X1.out (by decide) HB6.out.size ?_; intro ga ca w3 ho3 hg3 _ _; have HO3 := Lib.hid ho3; have HB3 := Lib.hid (Below.grown (HB6.out.alloc HB6.out.size _) hg3 (Nat.le_trans HB6.out.size (by simp)) (own_base_le HO6.out)); have HX3 := Lib.hid ((HX6.out.alloc (.cells #[.int .i64 x] 3)).grown hg3 (fun e => own_blk_ne HO6.out HX6.out (by decide) e.symm)); clear ho3 hg3)
        go_roundg gk
        case measure => omega
        case rel =>
          refine ⟨i + 1, by omega, by go_num, ?_, HB3.out, HX3.out⟩
          rw [HS.out, HTBV.out]
          simp only [if_true]
          unfold OwnL
          rw [List.length_append, List.map_append]
          exact HO3.out
      have b5 : (kv == 5) = false := by simp [k5]
      by_cases k8 : kv = 8
      · subst k8
        have HTBV : Hid (tb = true) := Lib.hid (HTB.out.2 (.inl (.inr (.inr rfl))))
        refine wp_region_quiet (C := fun w' => Below w7.heap.size w7 w') (by kernel_rfl) (by kernel_rfl) (⟨rfl, rfl, rfl, Nat.le_refl _, fun _ _ => rfl⟩) ?_
        refine QW.lit ?_
        refine qw_want rfl ?_ (fun w' hw' => ?_) ?_
        rotate_left
        · unfold Oper.quietAt
          go_simp
          exact rfl
        simp only [Act.put, List.setIfInBounds_toArray, List.set_cons_succ, List.set_cons_zero]
        refine qw_want rfl ?_ (fun w' hw' => ?_) ?_
        rotate_left
        · unfold Oper.quietAt
          go_simp
          exact rfl
        simp only [Act.put, List.setIfInBounds_toArray, List.set_cons_succ, List.set_cons_zero]
        refine qw_want rfl ?_ (fun w' hw' => ?_) ?_
        rotate_left
        · unfold Oper.quietAt
          go_simp
          exact rfl
        simp only [Act.put, List.setIfInBounds_toArray, List.set_cons_succ, List.set_cons_zero]
        refine qw_want rfl ?_ (fun w' hw' => ?_) ?_
        rotate_left
        · unfold Oper.quietAt
          go_simp
          exact rfl
        simp only [Act.put, List.setIfInBounds_toArray, List.set_cons_succ, List.set_cons_zero]
        refine qw_want rfl ?_ (fun w' hw' => ?_) ?_
        rotate_left
        · unfold Oper.quietAt
          go_simp
          exact rfl
        simp only [Act.put, List.setIfInBounds_toArray, List.set_cons_succ, List.set_cons_zero]
        refine qw_want rfl ?_ (fun w' hw' => ?_) ?_
        rotate_left
        · unfold Oper.quietAt
          go_simp
          exact rfl
        simp only [Act.put, List.setIfInBounds_toArray, List.set_cons_succ, List.set_cons_zero]
        refine qw_want rfl ?_ (fun w' hw' => ?_) ?_
        rotate_left
        · unfold Oper.quietAt
          go_simp
          exact rfl
        simp only [Act.put, List.setIfInBounds_toArray, List.set_cons_succ, List.set_cons_zero]
        refine qw_want rfl ?_ (fun w' hw' => ?_) ?_
        rotate_left
        · unfold Oper.quietAt
          go_simp
          exact rfl
        simp only [Act.put, List.setIfInBounds_toArray, List.set_cons_succ, List.set_cons_zero]
        refine qw_want rfl ?_ (fun w' hw' => ?_) ?_
        rotate_left
        · unfold Oper.quietAt
          go_simp
          exact rfl
        simp only [Act.put, List.setIfInBounds_toArray, List.set_cons_succ, List.set_cons_zero]
        refine qw_want rfl ?_ (fun w' hw' => ?_) ?_
        rotate_left
        · unfold Oper.quietAt
          go_simp
          exact rfl
        simp only [Act.put, List.setIfInBounds_toArray, List.set_cons_succ, List.set_cons_zero]
        refine qw_want rfl ?_ (fun w' hw' => ?_) ?_
        rotate_left
        · unfold Oper.quietAt
          go_simp
          exact rfl
        simp only [Act.put, List.setIfInBounds_toArray, List.set_cons_succ, List.set_cons_zero]
        refine qw_skip (by rfl) ?_
        simp only [Act.put, List.setIfInBounds_toArray, List.set_cons_succ, List.set_cons_zero]
        refine qw_skip (by rfl) ?_
        simp only [Act.put, List.setIfInBounds_toArray, List.set_cons_succ, List.set_cons_zero]
        refine qw_skip (by rfl) ?_
        simp only [Act.put, List.setIfInBounds_toArray, List.set_cons_succ, List.set_cons_zero]
        refine qw_skip (by rfl) ?_
        simp only [Act.put, List.setIfInBounds_toArray, List.set_cons_succ, List.set_cons_zero]
        refine qw_skip (by rfl) ?_
        simp only [Act.put, List.setIfInBounds_toArray, List.set_cons_succ, List.set_cons_zero]
        refine qw_skip (by rfl) ?_
        simp only [Act.put, List.setIfInBounds_toArray, List.set_cons_succ, List.set_cons_zero]
        refine qw_skip (by rfl) ?_
        simp only [Act.put, List.setIfInBounds_toArray, List.set_cons_succ, List.set_cons_zero]
        refine qw_want rfl ?_ (fun w' hw' => ?_) ?_
        rotate_left
        · unfold Oper.quietAt
          go_simp
          exact rfl
        simp only [Act.put, List.setIfInBounds_toArray, List.set_cons_succ, List.set_cons_zero]
        refine qw_end (fun w5 hb5 => ?_)
        have HB6 := Lib.hid (HBW.out.trans ((H5.out.trans (hb5.mono H5.out.size)).mono HBW.out.size))
        have HX6 := Lib.hid (HX.out.below (H5.out.trans (hb5.mono H5.out.size)) HX.out.lt)
        have HO6 : Hid (OwnL w5 w.heap.size _ fs) := Lib.hid (own_kept HO.out (Kept.of_below (S := fun _ => False) (H5.out.trans (hb5.mono H5.out.size))) (fun _ _ h => h))
        have c6 := (hb5.cell (p := ⟨b, off + i, none⟩) (Nat.lt_of_lt_of_le hbb H5.out.size)).trans (HF.out w7 H5.out).2
        have hbb6 : b < w5.heap.size := Nat.lt_of_lt_of_le (Nat.lt_of_lt_of_le hbb H5.out.size) hb5.size
        clear hb5
        go_wp2_with (at_builtin; refine list_push _ rfl (.tmp 44) (.tmp 49) 25 rfl w.heap.size 3 i0 (.int .i64 0) 1 8 Try.underlying25 hi hz0 hz1 hz2 rfl (by decide) _ fs.length (fs.map (Value.int .i64)) rfl (own_kept HO6.out ((Kept.refl (fun _ => False) w5).alloc _) (fun _ _ h => h)) w5.heap.size #[.int .i64 x] rfl (Blk.new w5 _ _) rfl (by intro u hu; rw [List.mem_singleton.1 hu]; rfl) X1.out (by decide) HB6.out.size ?_; intro ga ca w3 ho3 hg3 _ _; have HO3 := Lib.hid ho3; have HB3 := Lib.hid (Below.grown (HB6.out.alloc HB6.out.size _) hg3 (Nat.le_trans HB6.out.size (by simp)) (own_base_le HO6.out)); have HX3 := Lib.hid ((HX6.out.alloc (.cells #[.int .i64 x] 3)).grown hg3 (fun e => own_blk_ne HO6.out HX6.out (by decide) e.symm)); clear ho3 hg3)
        go_roundg gk
        case measure => omega
        case rel =>
          refine ⟨i + 1, by omega, by go_num, ?_, HB3.out, HX3.out⟩
          rw [HS.out, HTBV.out]
          simp only [if_true]
          unfold OwnL
          rw [List.length_append, List.map_append]
          exact HO3.out
      have b8 : (kv == 8) = false := by simp [k8]
      cases ab with
      | true =>
        have HTBV : Hid (tb = true) := Lib.hid (HTB.out.2 (.inr rfl))
        refine wp_region_quiet (C := fun w' => Below w7.heap.size w7 w') (by kernel_rfl) (by kernel_rfl) (⟨rfl, rfl, rfl, Nat.le_refl _, fun _ _ => rfl⟩) ?_
        refine QW.lit ?_
        refine qw_want rfl ?_ (fun w' hw' => ?_) ?_
        rotate_left
        · unfold Oper.quietAt
          go_simp
          exact rfl
        simp only [Act.put, List.setIfInBounds_toArray, List.set_cons_succ, List.set_cons_zero]
        refine qw_want rfl ?_ (fun w' hw' => ?_) ?_
        rotate_left
        · unfold Oper.quietAt
          go_simp
          exact rfl
        simp only [Act.put, List.setIfInBounds_toArray, List.set_cons_succ, List.set_cons_zero]
        refine qw_want rfl ?_ (fun w' hw' => ?_) ?_
        rotate_left
        · unfold Oper.quietAt
          go_simp
          exact rfl
        simp only [Act.put, List.setIfInBounds_toArray, List.set_cons_succ, List.set_cons_zero]
        refine qw_want rfl ?_ (fun w' hw' => ?_) ?_
        rotate_left
        · unfold Oper.quietAt
          go_simp
          exact rfl
        simp only [Act.put, List.setIfInBounds_toArray, List.set_cons_succ, List.set_cons_zero]
        refine qw_want rfl ?_ (fun w' hw' => ?_) ?_
        rotate_left
        · unfold Oper.quietAt
          go_simp
          exact rfl
        simp only [Act.put, List.setIfInBounds_toArray, List.set_cons_succ, List.set_cons_zero]
        refine qw_want rfl ?_ (fun w' hw' => ?_) ?_
        rotate_left
        · unfold Oper.quietAt
          go_simp
          exact rfl
        simp only [Act.put, List.setIfInBounds_toArray, List.set_cons_succ, List.set_cons_zero]
        refine qw_want rfl ?_ (fun w' hw' => ?_) ?_
        rotate_left
        · unfold Oper.quietAt
          go_simp
          exact rfl
        simp only [Act.put, List.setIfInBounds_toArray, List.set_cons_succ, List.set_cons_zero]
        refine qw_want rfl ?_ (fun w' hw' => ?_) ?_
        rotate_left
        · unfold Oper.quietAt
          go_simp
          exact rfl
        simp only [Act.put, List.setIfInBounds_toArray, List.set_cons_succ, List.set_cons_zero]
        refine qw_want rfl ?_ (fun w' hw' => ?_) ?_
        rotate_left
        · unfold Oper.quietAt
          go_simp
          exact rfl
        simp only [Act.put, List.setIfInBounds_toArray, List.set_cons_succ, List.set_cons_zero]
        refine qw_want rfl ?_ (fun w' hw' => ?_) ?_
        rotate_left
        · unfold Oper.quietAt
          go_simp
          exact rfl
        simp only [Act.put, List.setIfInBounds_toArray, List.set_cons_succ, List.set_cons_zero]
        refine qw_want rfl ?_ (fun w' hw' => ?_) ?_
        rotate_left
        · unfold Oper.quietAt
          go_simp
          exact rfl
        simp only [Act.put, List.setIfInBounds_toArray, List.set_cons_succ, List.set_cons_zero]
        refine qw_want rfl ?_ (fun w' hw' => ?_) ?_
        rotate_left
        · obtain ⟨k0, k1⟩ := HF.out w' (H5.out.trans (hw'.mono H5.out.size))
          unfold Oper.quietAt
          go_simp
          exact rfl
        simp only [Act.put, List.setIfInBounds_toArray, List.set_cons_succ, List.set_cons_zero]
        refine qw_want rfl ?_ (fun w' hw' => ?_) ?_
        rotate_left
        · unfold Oper.quietAt
          go_simp
          exact rfl
        simp only [Act.put, List.setIfInBounds_toArray, List.set_cons_succ, List.set_cons_zero]
        refine qw_want rfl ?_ (fun w' hw' => ?_) ?_
        rotate_left
        · unfold Oper.quietAt
          go_simp
          exact rfl
        simp only [Act.put, List.setIfInBounds_toArray, List.set_cons_succ, List.set_cons_zero]
        refine qw_want rfl ?_ (fun w' hw' => ?_) ?_
        rotate_left
        · unfold Oper.quietAt
          go_simp
          exact rfl
        simp only [Act.put, List.setIfInBounds_toArray, List.set_cons_succ, List.set_cons_zero]
        refine qw_want rfl ?_ (fun w' hw' => ?_) ?_
        rotate_left
        · obtain ⟨k0, k1⟩ := HF.out w' (H5.out.trans (hw'.mono H5.out.size))
          unfold Oper.quietAt
          go_simp
          exact rfl
        simp only [Act.put, List.setIfInBounds_toArray, List.set_cons_succ, List.set_cons_zero]
        refine qw_want rfl (.int .i64 (q : Int)) (fun w' hw' => ?_) ?_
        · unfold Oper.quietAt
          go_simp
          refine (KN.out w').mono ?_
          rintro e w2 ⟨rfl, rfl⟩
          exact ⟨rfl, hw'⟩
        simp only [Act.put, List.setIfInBounds_toArray, List.set_cons_succ, List.set_cons_zero]
        refine qw_want rfl (.bool true) (fun w' hw' => ?_) ?_
        · unfold Oper.quietAt
          go_simp
          refine (KA.out w' (H5.out.trans (hw'.mono H5.out.size))).mono ?_
          rintro e w2 ⟨rfl, hb⟩
          have hz := below_then hw' (Nat.le_refl _) hb
          exact ⟨rfl, by simpa using hz⟩
        simp only [Act.put, List.setIfInBounds_toArray, List.set_cons_succ, List.set_cons_zero]
        refine qw_want rfl ?_ (fun w' hw' => ?_) ?_
        rotate_left
        · unfold Oper.quietAt
          go_simp
          exact rfl
        simp only [Act.put, List.setIfInBounds_toArray, List.set_cons_succ, List.set_cons_zero]
        refine qw_end (fun w5 hb5 => ?_)
        have HB6 := Lib.hid (HBW.out.trans ((H5.out.trans (hb5.mono H5.out.size)).mono HBW.out.size))
        have HX6 := Lib.hid (HX.out.below (H5.out.trans (hb5.mono H5.out.size)) HX.out.lt)
        have HO6 : Hid (OwnL w5 w.heap.size _ fs) := Lib.hid (own_kept HO.out (Kept.of_below (S := fun _ => False) (H5.out.trans (hb5.mono H5.out.size))) (fun _ _ h => h))
        have c6 := (hb5.cell (p := ⟨b, off + i, none⟩) (Nat.lt_of_lt_of_le hbb H5.out.size)).trans (HF.out w7 H5.out).2
        have hbb6 : b < w5.heap.size := Nat.lt_of_lt_of_le (Nat.lt_of_lt_of_le hbb H5.out.size) hb5.size
        clear hb5
        go_wp2_with (at_builtin; refine list_push _ rfl (.tmp 44) (.tmp 49) 25 rfl w.heap.size 3 i0 (.int .i64 0) 1 8 Try.underlying25 hi hz0 hz1 hz2 rfl (by decide) _ fs.length (fs.map (Value.int .i64)) rfl (own_kept HO6.out ((Kept.refl (fun _ => False) w5).alloc _) (fun _ _ h => h)) w5.heap.size #[.int .i64 x] rfl (Blk.new w5 _ _) rfl (by intro u hu; rw [List.mem_singleton.1 hu]; rfl) X1.out (by decide) HB6.out.size ?_; intro ga ca w3 ho3 hg3 _ _; have HO3 := Lib.hid ho3; have HB3 := Lib.hid (Below.grown (HB6.out.alloc HB6.out.size _) hg3 (Nat.le_trans HB6.out.size (by simp)) (own_base_le HO6.out)); have HX3 := Lib.hid ((HX6.out.alloc (.cells #[.int .i64 x] 3)).grown hg3 (fun e => own_blk_ne HO6.out HX6.out (by decide) e.symm)); clear ho3 hg3)
        go_roundg gk
        case measure => omega
        case rel =>
          refine ⟨i + 1, by omega, by go_num, ?_, HB3.out, HX3.out⟩
          rw [HS.out, HTBV.out]
          simp only [if_true]
          unfold OwnL
          rw [List.length_append, List.map_append]
          exact HO3.out
      | false =>
        have HTBV : Hid (tb = false) := Lib.hid (Bool.eq_false_iff.2 fun h => by rcases HTB.out.1 h with g | g; omega; cases g)
        refine wp_region_quiet (C := fun w' => Below w7.heap.size w7 w') (by kernel_rfl) (by kernel_rfl) (⟨rfl, rfl, rfl, Nat.le_refl _, fun _ _ => rfl⟩) ?_
        refine QW.lit ?_
        refine qw_want rfl ?_ (fun w' hw' => ?_) ?_
        rotate_left
        · unfold Oper.quietAt
          go_simp
          exact rfl
        simp only [Act.put, List.setIfInBounds_toArray, List.set_cons_succ, List.set_cons_zero]
        refine qw_want rfl ?_ (fun w' hw' => ?_) ?_
        rotate_left
        · unfold Oper.quietAt
          go_simp
          exact rfl
        simp only [Act.put, List.setIfInBounds_toArray, List.set_cons_succ, List.set_cons_zero]
        refine qw_want rfl ?_ (fun w' hw' => ?_) ?_
        rotate_left
        · unfold Oper.quietAt
          go_simp
          exact rfl
        simp only [Act.put, List.setIfInBounds_toArray, List.set_cons_succ, List.set_cons_zero]
        refine qw_want rfl ?_ (fun w' hw' => ?_) ?_
        rotate_left
        · unfold Oper.quietAt
          go_simp
          exact rfl
        simp only [Act.put, List.setIfInBounds_toArray, List.set_cons_succ, List.set_cons_zero]
        refine qw_want rfl ?_ (fun w' hw' => ?_) ?_
        rotate_left
        · unfold Oper.quietAt
          go_simp
          exact rfl
        simp only [Act.put, List.setIfInBounds_toArray, List.set_cons_succ, List.set_cons_zero]
        refine qw_want rfl ?_ (fun w' hw' => ?_) ?_
        rotate_left
        · unfold Oper.quietAt
          go_simp
          exact rfl
        simp only [Act.put, List.setIfInBounds_toArray, List.set_cons_succ, List.set_cons_zero]
        refine qw_want rfl ?_ (fun w' hw' => ?_) ?_
        rotate_left
        · unfold Oper.quietAt
          go_simp
          exact rfl
        simp only [Act.put, List.setIfInBounds_toArray, List.set_cons_succ, List.set_cons_zero]
        refine qw_want rfl ?_ (fun w' hw' => ?_) ?_
        rotate_left
        · unfold Oper.quietAt
          go_simp
          exact rfl
        simp only [Act.put, List.setIfInBounds_toArray, List.set_cons_succ, List.set_cons_zero]
        refine qw_want rfl ?_ (fun w' hw' => ?_) ?_
        rotate_left
        · unfold Oper.quietAt
          go_simp
          exact rfl
        simp only [Act.put, List.setIfInBounds_toArray, List.set_cons_succ, List.set_cons_zero]
        refine qw_want rfl ?_ (fun w' hw' => ?_) ?_
        rotate_left
        · unfold Oper.quietAt
          go_simp
          exact rfl
        simp only [Act.put, List.setIfInBounds_toArray, List.set_cons_succ, List.set_cons_zero]
        refine qw_want rfl ?_ (fun w' hw' => ?_) ?_
        rotate_left
        · unfold Oper.quietAt
          go_simp
          exact rfl
        simp only [Act.put, List.setIfInBounds_toArray, List.set_cons_succ, List.set_cons_zero]
        refine qw_want rfl ?_ (fun w' hw' => ?_) ?_
        rotate_left
        · obtain ⟨k0, k1⟩ := HF.out w' (H5.out.trans (hw'.mono H5.out.size))
          unfold Oper.quietAt
          go_simp
          exact rfl
        simp only [Act.put, List.setIfInBounds_toArray, List.set_cons_succ, List.set_cons_zero]
        refine qw_want rfl ?_ (fun w' hw' => ?_) ?_
        rotate_left
        · unfold Oper.quietAt
          go_simp
          exact rfl
        simp only [Act.put, List.setIfInBounds_toArray, List.set_cons_succ, List.set_cons_zero]
        refine qw_want rfl ?_ (fun w' hw' => ?_) ?_
        rotate_left
        · unfold Oper.quietAt
          go_simp
          exact rfl
        simp only [Act.put, List.setIfInBounds_toArray, List.set_cons_succ, List.set_cons_zero]
        refine qw_want rfl ?_ (fun w' hw' => ?_) ?_
        rotate_left
        · unfold Oper.quietAt
          go_simp
          exact rfl
        simp only [Act.put, List.setIfInBounds_toArray, List.set_cons_succ, List.set_cons_zero]
        refine qw_want rfl ?_ (fun w' hw' => ?_) ?_
        rotate_left
        · obtain ⟨k0, k1⟩ := HF.out w' (H5.out.trans (hw'.mono H5.out.size))
          unfold Oper.quietAt
          go_simp
          exact rfl
        simp only [Act.put, List.setIfInBounds_toArray, List.set_cons_succ, List.set_cons_zero]
        refine qw_want rfl (.int .i64 (q : Int)) (fun w' hw' => ?_) ?_
        · unfold Oper.quietAt
          go_simp
          refine (KN.out w').mono ?_
          rintro e w2 ⟨rfl, rfl⟩
          exact ⟨rfl, hw'⟩
        simp only [Act.put, List.setIfInBounds_toArray, List.set_cons_succ, List.set_cons_zero]
        refine qw_want rfl (.bool false) (fun w' hw' => ?_) ?_
        · unfold Oper.quietAt
          go_simp
          refine (KA.out w' (H5.out.trans (hw'.mono H5.out.size))).mono ?_
          rintro e w2 ⟨rfl, hb⟩
          have hz := below_then hw' (Nat.le_refl _) hb
          exact ⟨rfl, by simpa using hz⟩
        simp only [Act.put, List.setIfInBounds_toArray, List.set_cons_succ, List.set_cons_zero]
        refine qw_want rfl ?_ (fun w' hw' => ?_) ?_
        rotate_left
        · unfold Oper.quietAt
          go_simp
          exact rfl
        simp only [Act.put, List.setIfInBounds_toArray, List.set_cons_succ, List.set_cons_zero]
        refine qw_end (fun w5 hb5 => ?_)
        have HB6 := Lib.hid (HBW.out.trans ((H5.out.trans (hb5.mono H5.out.size)).mono HBW.out.size))
        have HX6 := Lib.hid (HX.out.below (H5.out.trans (hb5.mono H5.out.size)) HX.out.lt)
        have HO6 : Hid (OwnL w5 w.heap.size _ fs) := Lib.hid (own_kept HO.out (Kept.of_below (S := fun _ => False) (H5.out.trans (hb5.mono H5.out.size))) (fun _ _ h => h))
        clear hb5
        go_wp2
        go_roundg gk
        case measure => omega
        case rel => exact ⟨i + 1, by omega, by go_num, by rw [HS.out, HTBV.out]; simpa using HO6.out, HB6.out, HX6.out⟩
end Go.Proofs.Ytbgbhfmchpdkcaa

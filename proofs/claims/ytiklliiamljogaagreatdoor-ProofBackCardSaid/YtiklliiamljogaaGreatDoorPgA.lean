/- Parse: the reference's. -/
import Derived.Test.YtiklliiamljogaaGreatDoorPfY
import Derived.Test.YtiklliiamljogaaGreatDoorPfZ
namespace Go.Proofs.YtiklliiamljogaaGreatDoor
open Go.RowKit

set_option maxHeartbeats 1000000 in
set_option maxRecDepth 100000 in
theorem rparsex_ok (x : Sx) (hm : x.mass ≤ 100000) (v : Value) (w : World) (hv : Lies (fun _ => True) w v x) :
    Calls Tryz.prog 17 #[v] w fun e w' => ParseOut (parseP x) w w' e := by
  obtain ⟨k, T, l⟩ := x
  obtain ⟨t, A, c, rfl, rfl, hlc, hnil, hmax, hk⟩ := hv.open_
  obtain ⟨W, eW⟩ : ∃ W, w.alloc (.cells #[.int .i8 k, .string t, .slice A l.length c] 28) = W := ⟨_, rfl⟩
  have hsW : W.heap.size = w.heap.size + 1 := by rw [← eW]; simp
  have hbW : Below w.heap.size w W := eW ▸ (Below.refl _ w).alloc (Nat.le_refl _) _
  have hBox : Blk W w.heap.size 28 #[.int .i8 k, .string t, .slice A l.length c] := eW ▸ Blk.new w _ _
  have HW := Lib.hid hbW
  have HBOX := Lib.hid (fun w1 (h1 : Below W.heap.size W w1) => hBox.below h1 hBox.lt)
  have HK0 := Lib.hid hk
  have hbd : Below W.heap.size W W.drew := (Below.refl _ W).drew
  have HBd := Lib.hid hbd
  obtain ⟨X, hX⟩ : ∃ X, Sx.mk k (byts t) l = X := ⟨_, rfl⟩
  rw [hX] at hm ⊢
  have HM := Lib.hid hm
  have HX := Lib.hid hX
  have HKL := Lib.hid (show X.kids = l by rw [← hX]; rfl)
  have hll : l.length ≤ 100000 := by
    have h1 := mass_len l
    rw [← hX, Sx.mass] at hm
    omega
  have d4 : decide ((l.length : Int) > 4194305) = false := decide_eq_false (by omega)
  have d4' : decide ((4194305 : Int) < l.length) = false := d4
  have HSY := Lib.hid (fun (w1 : World) => rsym_ok ⟨#[112, 114, 111, 111, 102]⟩ w1)
  have HKP := Lib.hid (fun (w1 : World) (h1 : Below W.heap.size W w1) => blk3 (hBox.below h1 hBox.lt))
  clear hv hk hm hsW hbW hBox hX hbd
  by_cases hk3 : k = 3
  · subst hk3
    by_cases ht : byts t = []
    · obtain rfl : t = ⟨#[]⟩ := byts_one ht
      have HLI := Lib.hid (show isList X = true by rw [← HX.out]; rfl)
      clear ht
      by_cases hl0 : l.length = 0
      · have d5 : decide ((l.length : Int) < 1) = true := decide_eq_true (by omega)
        have d6 : decide (l.length < 1) = true := decide_eq_true (by omega)
        have HNO := Lib.hid (parseP_no (X := X) (by unfold headP; rw [HLI.out, HKL.out, hl0]; rfl))
        clear hl0
        go_enter Tryz.func17, Tryz.ntmps17
        go_wp2
        refine wp_region_quiet (C := fun w' => Below W.heap.size W w') (by kernel_rfl) (by kernel_rfl) (HBd.out) ?_
        refine QW.lit ?_
        refine qw_want rfl ?_ (fun w' hw' => ?_) ?_
        rotate_left
        · obtain ⟨y0, y1, y2, _⟩ := HKP.out w' hw'
          unfold Oper.quietAt
          go_simp
          exact rfl
        simp only [Act.put, List.setIfInBounds_toArray, List.set_cons_succ, List.set_cons_zero]
        refine qw_want rfl ?_ (fun w' hw' => ?_) ?_
        rotate_left
        · obtain ⟨y0, y1, y2, _⟩ := HKP.out w' hw'
          unfold Oper.quietAt
          go_simp
          exact rfl
        simp only [Act.put, List.setIfInBounds_toArray, List.set_cons_succ, List.set_cons_zero]
        refine qw_want rfl (.bool false) (fun w' hw' => ?_) ?_
        · unfold Oper.quietAt
          go_simp
        simp only [Act.put, List.setIfInBounds_toArray, List.set_cons_succ, List.set_cons_zero]
        refine qw_want rfl (.bool false) (fun w' hw' => ?_) ?_
        · unfold Oper.quietAt
          go_simp
        simp only [Act.put, List.setIfInBounds_toArray, List.set_cons_succ, List.set_cons_zero]
        refine qw_want rfl ?_ (fun w' hw' => ?_) ?_
        rotate_left
        · obtain ⟨y0, y1, y2, _⟩ := HKP.out w' hw'
          unfold Oper.quietAt
          go_simp
          exact rfl
        simp only [Act.put, List.setIfInBounds_toArray, List.set_cons_succ, List.set_cons_zero]
        refine qw_want rfl ?_ (fun w' hw' => ?_) ?_
        rotate_left
        · obtain ⟨y0, y1, y2, _⟩ := HKP.out w' hw'
          unfold Oper.quietAt
          go_simp
          exact rfl
        simp only [Act.put, List.setIfInBounds_toArray, List.set_cons_succ, List.set_cons_zero]
        refine qw_want rfl (.bool false) (fun w' hw' => ?_) ?_
        · unfold Oper.quietAt
          go_simp
        simp only [Act.put, List.setIfInBounds_toArray, List.set_cons_succ, List.set_cons_zero]
        refine qw_want rfl (.bool false) (fun w' hw' => ?_) ?_
        · unfold Oper.quietAt
          go_simp
        simp only [Act.put, List.setIfInBounds_toArray, List.set_cons_succ, List.set_cons_zero]
        refine qw_want rfl (.bool false) (fun w' hw' => ?_) ?_
        · unfold Oper.quietAt
          go_simp
        simp only [Act.put, List.setIfInBounds_toArray, List.set_cons_succ, List.set_cons_zero]
        refine qw_want rfl ?_ (fun w' hw' => ?_) ?_
        rotate_left
        · obtain ⟨y0, y1, y2, _⟩ := HKP.out w' hw'
          unfold Oper.quietAt
          go_simp
          exact rfl
        simp only [Act.put, List.setIfInBounds_toArray, List.set_cons_succ, List.set_cons_zero]
        refine qw_want rfl ?_ (fun w' hw' => ?_) ?_
        rotate_left
        · obtain ⟨y0, y1, y2, _⟩ := HKP.out w' hw'
          unfold Oper.quietAt
          go_simp
          exact rfl
        simp only [Act.put, List.setIfInBounds_toArray, List.set_cons_succ, List.set_cons_zero]
        refine qw_want rfl ?_ (fun w' hw' => ?_) ?_
        rotate_left
        · obtain ⟨y0, y1, y2, _⟩ := HKP.out w' hw'
          unfold Oper.quietAt
          go_simp
          exact rfl
        simp only [Act.put, List.setIfInBounds_toArray, List.set_cons_succ, List.set_cons_zero]
        refine qw_want rfl (.bool true) (fun w' hw' => ?_) ?_
        · unfold Oper.quietAt
          go_simp
        simp only [Act.put, List.setIfInBounds_toArray, List.set_cons_succ, List.set_cons_zero]
        refine qw_want rfl (.bool true) (fun w' hw' => ?_) ?_
        · unfold Oper.quietAt
          go_simp
        simp only [Act.put, List.setIfInBounds_toArray, List.set_cons_succ, List.set_cons_zero]
        refine qw_want rfl (.bool true) (fun w' hw' => ?_) ?_
        · unfold Oper.quietAt
          go_simp
        simp only [Act.put, List.setIfInBounds_toArray, List.set_cons_succ, List.set_cons_zero]
        refine qw_skip (by rfl) ?_
        simp only [Act.put, List.setIfInBounds_toArray, List.set_cons_succ, List.set_cons_zero]
        refine qw_skip (by rfl) ?_
        simp only [Act.put, List.setIfInBounds_toArray, List.set_cons_succ, List.set_cons_zero]
        refine qw_skip (by rfl) ?_
        simp only [Act.put, List.setIfInBounds_toArray, List.set_cons_succ, List.set_cons_zero]
        refine qw_skip (by rfl) ?_
        simp only [Act.put, List.setIfInBounds_toArray, List.set_cons_succ, List.set_cons_zero]
        refine qw_want rfl (.bool true) (fun w' hw' => ?_) ?_
        · unfold Oper.quietAt
          go_simp
        simp only [Act.put, List.setIfInBounds_toArray, List.set_cons_succ, List.set_cons_zero]
        refine qw_want rfl (.bool true) (fun w' hw' => ?_) ?_
        · unfold Oper.quietAt
          go_simp
        simp only [Act.put, List.setIfInBounds_toArray, List.set_cons_succ, List.set_cons_zero]
        refine qw_skip (by rfl) ?_
        simp only [Act.put, List.setIfInBounds_toArray, List.set_cons_succ, List.set_cons_zero]
        refine qw_skip (by rfl) ?_
        simp only [Act.put, List.setIfInBounds_toArray, List.set_cons_succ, List.set_cons_zero]
        refine qw_skip (by rfl) ?_
        simp only [Act.put, List.setIfInBounds_toArray, List.set_cons_succ, List.set_cons_zero]
        refine qw_skip (by rfl) ?_
        simp only [Act.put, List.setIfInBounds_toArray, List.set_cons_succ, List.set_cons_zero]
        refine qw_skip (by rfl) ?_
        simp only [Act.put, List.setIfInBounds_toArray, List.set_cons_succ, List.set_cons_zero]
        refine qw_skip (by rfl) ?_
        simp only [Act.put, List.setIfInBounds_toArray, List.set_cons_succ, List.set_cons_zero]
        refine qw_skip (by rfl) ?_
        simp only [Act.put, List.setIfInBounds_toArray, List.set_cons_succ, List.set_cons_zero]
        refine qw_want rfl (.bool true) (fun w' hw' => ?_) ?_
        · unfold Oper.quietAt
          go_simp
        simp only [Act.put, List.setIfInBounds_toArray, List.set_cons_succ, List.set_cons_zero]
        refine qw_end (fun w5 hb5 => ?_)
        go_wp2
        exact bodyPost_ret (v := .tuple #[.slice none 0 0, .int .i64 30]) (by simp [results, Tryz.results17, go_sem]) rfl (ParseOut.no HNO.out rfl (below_then HW.out (Nat.le_refl _) hb5))
      · have hlpos : 0 < l.length := by omega
        have hlz : (0 : Int) < (l.length : Int) := by omega
        have d5 : decide ((l.length : Int) < 1) = false := decide_eq_false (by omega)
        have d6 : decide (l.length < 1) = false := decide_eq_false (by omega)
        obtain ⟨b, off, k1, t1, B1, n1, m1, rfl, _, hlt, z0, z1, z2, hy⟩ := HK0.out 0 hlpos
        rw [Nat.zero_mul, Nat.add_zero] at z0 z1 z2
        obtain ⟨Y0, hY0⟩ : ∃ Y0, l[0] = Y0 := ⟨_, rfl⟩
        rw [hY0] at hy
        have HY0 := Lib.hid (show l.headD noSx = Y0 by rw [← hY0]; exact headD_get l hlpos)
        have HKP2 := Lib.hid (fun (w1 : World) (h1 : Below W.heap.size W w1) => step_cells (blk3 (HBOX.out w1 h1)) hlt (below_then HW.out (Nat.le_refl _) h1) z0 z1 z2)
        have HSA := Lib.hid (fun (w1 : World) (h1 : Below W.heap.size W w1) => rsame_at Y0 (symS wProof) _ _ w1 (hy.keep (below_then HW.out (Nat.le_refl _) h1)) (sym_lie _ w1 ⟨#[112, 114, 111, 111, 102]⟩))
        obtain ⟨sm, hsm⟩ : ∃ sm, Y0.same (symS wProof) = sm := ⟨_, rfl⟩
        rw [hsm] at HSA
        have HSM := Lib.hid hsm
        have HMR := Lib.hid (fun (y : Sx) (hy : y ∈ l) => show y.mass ≤ 100000 by
          have h1 := mem_mass hy
          have h2 := HM.out
          rw [← HX.out, Sx.mass] at h2
          omega)
        clear z0 z1 z2 hlt hy hY0 hsm hl0
        cases hsm : sm with
        | false =>
          have HNO := Lib.hid (parseP_no (X := X) (by unfold headP; rw [HLI.out, HKL.out, HY0.out, HSM.out, hsm, Bool.and_false, Bool.and_false]))
          rw [hsm] at HSA
          clear hsm
          go_enter Tryz.func17, Tryz.ntmps17
          go_wp2
          refine wp_region_quiet (C := fun w' => Below W.heap.size W w') (by kernel_rfl) (by kernel_rfl) (HBd.out) ?_
          refine QW.lit ?_
          refine qw_want rfl ?_ (fun w' hw' => ?_) ?_
          rotate_left
          · obtain ⟨y0, y1, y2, y3, y4, y5⟩ := HKP2.out w' hw'
            unfold Oper.quietAt
            go_simp
            exact rfl
          simp only [Act.put, List.setIfInBounds_toArray, List.set_cons_succ, List.set_cons_zero]
          refine qw_want rfl ?_ (fun w' hw' => ?_) ?_
          rotate_left
          · obtain ⟨y0, y1, y2, y3, y4, y5⟩ := HKP2.out w' hw'
            unfold Oper.quietAt
            go_simp
            exact rfl
          simp only [Act.put, List.setIfInBounds_toArray, List.set_cons_succ, List.set_cons_zero]
          refine qw_want rfl (.bool false) (fun w' hw' => ?_) ?_
          · unfold Oper.quietAt
            go_simp
          simp only [Act.put, List.setIfInBounds_toArray, List.set_cons_succ, List.set_cons_zero]
          refine qw_want rfl (.bool false) (fun w' hw' => ?_) ?_
          · unfold Oper.quietAt
            go_simp
          simp only [Act.put, List.setIfInBounds_toArray, List.set_cons_succ, List.set_cons_zero]
          refine qw_want rfl ?_ (fun w' hw' => ?_) ?_
          rotate_left
          · obtain ⟨y0, y1, y2, y3, y4, y5⟩ := HKP2.out w' hw'
            unfold Oper.quietAt
            go_simp
            exact rfl
          simp only [Act.put, List.setIfInBounds_toArray, List.set_cons_succ, List.set_cons_zero]
          refine qw_want rfl ?_ (fun w' hw' => ?_) ?_
          rotate_left
          · obtain ⟨y0, y1, y2, y3, y4, y5⟩ := HKP2.out w' hw'
            unfold Oper.quietAt
            go_simp
            exact rfl
          simp only [Act.put, List.setIfInBounds_toArray, List.set_cons_succ, List.set_cons_zero]
          refine qw_want rfl (.bool false) (fun w' hw' => ?_) ?_
          · unfold Oper.quietAt
            go_simp
          simp only [Act.put, List.setIfInBounds_toArray, List.set_cons_succ, List.set_cons_zero]
          refine qw_want rfl (.bool false) (fun w' hw' => ?_) ?_
          · unfold Oper.quietAt
            go_simp
          simp only [Act.put, List.setIfInBounds_toArray, List.set_cons_succ, List.set_cons_zero]
          refine qw_want rfl (.bool false) (fun w' hw' => ?_) ?_
          · unfold Oper.quietAt
            go_simp
          simp only [Act.put, List.setIfInBounds_toArray, List.set_cons_succ, List.set_cons_zero]
          refine qw_want rfl ?_ (fun w' hw' => ?_) ?_
          rotate_left
          · obtain ⟨y0, y1, y2, y3, y4, y5⟩ := HKP2.out w' hw'
            unfold Oper.quietAt
            go_simp
            exact rfl
          simp only [Act.put, List.setIfInBounds_toArray, List.set_cons_succ, List.set_cons_zero]
          refine qw_want rfl ?_ (fun w' hw' => ?_) ?_
          rotate_left
          · obtain ⟨y0, y1, y2, y3, y4, y5⟩ := HKP2.out w' hw'
            unfold Oper.quietAt
            go_simp
            exact rfl
          simp only [Act.put, List.setIfInBounds_toArray, List.set_cons_succ, List.set_cons_zero]
          refine qw_want rfl ?_ (fun w' hw' => ?_) ?_
          rotate_left
          · obtain ⟨y0, y1, y2, y3, y4, y5⟩ := HKP2.out w' hw'
            unfold Oper.quietAt
            go_simp
            exact rfl
          simp only [Act.put, List.setIfInBounds_toArray, List.set_cons_succ, List.set_cons_zero]
          refine qw_want rfl (.bool false) (fun w' hw' => ?_) ?_
          · unfold Oper.quietAt
            go_simp
          simp only [Act.put, List.setIfInBounds_toArray, List.set_cons_succ, List.set_cons_zero]
          refine qw_want rfl (.bool false) (fun w' hw' => ?_) ?_
          · unfold Oper.quietAt
            go_simp
          simp only [Act.put, List.setIfInBounds_toArray, List.set_cons_succ, List.set_cons_zero]
          refine qw_want rfl (.bool false) (fun w' hw' => ?_) ?_
          · unfold Oper.quietAt
            go_simp
          simp only [Act.put, List.setIfInBounds_toArray, List.set_cons_succ, List.set_cons_zero]
          refine qw_want rfl ?_ (fun w' hw' => ?_) ?_
          rotate_left
          · obtain ⟨y0, y1, y2, y3, y4, y5⟩ := HKP2.out w' hw'
            unfold Oper.quietAt
            go_simp
            exact rfl
          simp only [Act.put, List.setIfInBounds_toArray, List.set_cons_succ, List.set_cons_zero]
          refine qw_want rfl ?_ (fun w' hw' => ?_) ?_
          rotate_left
          · obtain ⟨y0, y1, y2, y3, y4, y5⟩ := HKP2.out w' hw'
            unfold Oper.quietAt
            go_simp
            exact rfl
          simp only [Act.put, List.setIfInBounds_toArray, List.set_cons_succ, List.set_cons_zero]
          refine qw_want rfl ?_ (fun w' hw' => ?_) ?_
          rotate_left
          · obtain ⟨y0, y1, y2, y3, y4, y5⟩ := HKP2.out w' hw'
            unfold Oper.quietAt
            go_simp
            exact rfl
          simp only [Act.put, List.setIfInBounds_toArray, List.set_cons_succ, List.set_cons_zero]
          refine qw_want rfl (.bool false) (fun w' hw' => ?_) ?_
          · unfold Oper.quietAt
            go_simp
          simp only [Act.put, List.setIfInBounds_toArray, List.set_cons_succ, List.set_cons_zero]
          refine qw_want rfl (.bool false) (fun w' hw' => ?_) ?_
          · unfold Oper.quietAt
            go_simp
          simp only [Act.put, List.setIfInBounds_toArray, List.set_cons_succ, List.set_cons_zero]
          refine qw_want rfl (.bool false) (fun w' hw' => ?_) ?_
          · unfold Oper.quietAt
            go_simp
          simp only [Act.put, List.setIfInBounds_toArray, List.set_cons_succ, List.set_cons_zero]
          refine qw_want rfl ?_ (fun w' hw' => ?_) ?_
          rotate_left
          · obtain ⟨y0, y1, y2, y3, y4, y5⟩ := HKP2.out w' hw'
            unfold Oper.quietAt
            go_simp
            exact rfl
          simp only [Act.put, List.setIfInBounds_toArray, List.set_cons_succ, List.set_cons_zero]
          refine qw_want rfl ?_ (fun w' hw' => ?_) ?_
          rotate_left
          · obtain ⟨y0, y1, y2, y3, y4, y5⟩ := HKP2.out w' hw'
            unfold Oper.quietAt
            go_simp
            exact rfl
          simp only [Act.put, List.setIfInBounds_toArray, List.set_cons_succ, List.set_cons_zero]
          refine qw_want rfl ?_ (fun w' hw' => ?_) ?_
          rotate_left
          · obtain ⟨y0, y1, y2, y3, y4, y5⟩ := HKP2.out w' hw'
            unfold Oper.quietAt
            go_simp
            exact rfl
          simp only [Act.put, List.setIfInBounds_toArray, List.set_cons_succ, List.set_cons_zero]
          refine qw_want rfl ?_ (fun w' hw' => ?_) ?_
          rotate_left
          · obtain ⟨y0, y1, y2, y3, y4, y5⟩ := HKP2.out w' hw'
            unfold Oper.quietAt
            go_simp
            exact rfl
          simp only [Act.put, List.setIfInBounds_toArray, List.set_cons_succ, List.set_cons_zero]
          refine qw_want rfl (.agg #[.int .i8 0, .string ⟨#[112, 114, 111, 111, 102]⟩, .slice none 0 0]) (fun w' hw' => ?_) ?_
          · unfold Oper.quietAt
            go_simp
            refine (HSY.out w').mono ?_
            rintro e w2 ⟨rfl, hb⟩
            have hz := below_then hw' (Nat.le_refl _) hb
            exact ⟨rfl, by simpa using hz⟩
          simp only [Act.put, List.setIfInBounds_toArray, List.set_cons_succ, List.set_cons_zero]
          refine qw_want rfl (.bool false) (fun w' hw' => ?_) ?_
          · unfold Oper.quietAt
            go_simp
            refine (HSA.out w' hw').mono ?_
            rintro e w2 ⟨rfl, hb⟩
            have hz := below_then hw' (Nat.le_refl _) hb
            exact ⟨rfl, by simpa using hz⟩
          simp only [Act.put, List.setIfInBounds_toArray, List.set_cons_succ, List.set_cons_zero]
          refine qw_want rfl (.bool true) (fun w' hw' => ?_) ?_
          · unfold Oper.quietAt
            go_simp
          simp only [Act.put, List.setIfInBounds_toArray, List.set_cons_succ, List.set_cons_zero]
          refine qw_want rfl (.bool true) (fun w' hw' => ?_) ?_
          · unfold Oper.quietAt
            go_simp
          simp only [Act.put, List.setIfInBounds_toArray, List.set_cons_succ, List.set_cons_zero]
          refine qw_end (fun w5 hb5 => ?_)
          go_wp2
          exact bodyPost_ret (v := .tuple #[.slice none 0 0, .int .i64 30]) (by simp [results, Tryz.results17, go_sem]) rfl (ParseOut.no HNO.out rfl (below_then HW.out (Nat.le_refl _) hb5))
        | true =>
          have HHP := Lib.hid (show headP X = true by unfold headP; rw [HLI.out, HKL.out, HY0.out, HSM.out, hsm, decide_eq_true hlpos]; rfl)
          have hpar := parseP_yes HHP.out (by rw [HKL.out]; omega)
          rw [HKL.out] at hpar
          have HPAR := Lib.hid hpar
          rw [hsm] at HSA
          clear hsm hpar
          go_enter Tryz.func17, Tryz.ntmps17
          go_wp2
          refine wp_region_quiet (C := fun w' => Below W.heap.size W w') (by kernel_rfl) (by kernel_rfl) (HBd.out) ?_
          refine QW.lit ?_
          refine qw_want rfl ?_ (fun w' hw' => ?_) ?_
          rotate_left
          · obtain ⟨y0, y1, y2, y3, y4, y5⟩ := HKP2.out w' hw'
            unfold Oper.quietAt
            go_simp
            exact rfl
          simp only [Act.put, List.setIfInBounds_toArray, List.set_cons_succ, List.set_cons_zero]
          refine qw_want rfl ?_ (fun w' hw' => ?_) ?_
          rotate_left
          · obtain ⟨y0, y1, y2, y3, y4, y5⟩ := HKP2.out w' hw'
            unfold Oper.quietAt
            go_simp
            exact rfl
          simp only [Act.put, List.setIfInBounds_toArray, List.set_cons_succ, List.set_cons_zero]
          refine qw_want rfl (.bool false) (fun w' hw' => ?_) ?_
          · unfold Oper.quietAt
            go_simp
          simp only [Act.put, List.setIfInBounds_toArray, List.set_cons_succ, List.set_cons_zero]
          refine qw_want rfl (.bool false) (fun w' hw' => ?_) ?_
          · unfold Oper.quietAt
            go_simp
          simp only [Act.put, List.setIfInBounds_toArray, List.set_cons_succ, List.set_cons_zero]
          refine qw_want rfl ?_ (fun w' hw' => ?_) ?_
          rotate_left
          · obtain ⟨y0, y1, y2, y3, y4, y5⟩ := HKP2.out w' hw'
            unfold Oper.quietAt
            go_simp
            exact rfl
          simp only [Act.put, List.setIfInBounds_toArray, List.set_cons_succ, List.set_cons_zero]
          refine qw_want rfl ?_ (fun w' hw' => ?_) ?_
          rotate_left
          · obtain ⟨y0, y1, y2, y3, y4, y5⟩ := HKP2.out w' hw'
            unfold Oper.quietAt
            go_simp
            exact rfl
          simp only [Act.put, List.setIfInBounds_toArray, List.set_cons_succ, List.set_cons_zero]
          refine qw_want rfl (.bool false) (fun w' hw' => ?_) ?_
          · unfold Oper.quietAt
            go_simp
          simp only [Act.put, List.setIfInBounds_toArray, List.set_cons_succ, List.set_cons_zero]
          refine qw_want rfl (.bool false) (fun w' hw' => ?_) ?_
          · unfold Oper.quietAt
            go_simp
          simp only [Act.put, List.setIfInBounds_toArray, List.set_cons_succ, List.set_cons_zero]
          refine qw_want rfl (.bool false) (fun w' hw' => ?_) ?_
          · unfold Oper.quietAt
            go_simp
          simp only [Act.put, List.setIfInBounds_toArray, List.set_cons_succ, List.set_cons_zero]
          refine qw_want rfl ?_ (fun w' hw' => ?_) ?_
          rotate_left
          · obtain ⟨y0, y1, y2, y3, y4, y5⟩ := HKP2.out w' hw'
            unfold Oper.quietAt
            go_simp
            exact rfl
          simp only [Act.put, List.setIfInBounds_toArray, List.set_cons_succ, List.set_cons_zero]
          refine qw_want rfl ?_ (fun w' hw' => ?_) ?_
          rotate_left
          · obtain ⟨y0, y1, y2, y3, y4, y5⟩ := HKP2.out w' hw'
            unfold Oper.quietAt
            go_simp
            exact rfl
          simp only [Act.put, List.setIfInBounds_toArray, List.set_cons_succ, List.set_cons_zero]
          refine qw_want rfl ?_ (fun w' hw' => ?_) ?_
          rotate_left
          · obtain ⟨y0, y1, y2, y3, y4, y5⟩ := HKP2.out w' hw'
            unfold Oper.quietAt
            go_simp
            exact rfl
          simp only [Act.put, List.setIfInBounds_toArray, List.set_cons_succ, List.set_cons_zero]
          refine qw_want rfl (.bool false) (fun w' hw' => ?_) ?_
          · unfold Oper.quietAt
            go_simp
          simp only [Act.put, List.setIfInBounds_toArray, List.set_cons_succ, List.set_cons_zero]
          refine qw_want rfl (.bool false) (fun w' hw' => ?_) ?_
          · unfold Oper.quietAt
            go_simp
          simp only [Act.put, List.setIfInBounds_toArray, List.set_cons_succ, List.set_cons_zero]
          refine qw_want rfl (.bool false) (fun w' hw' => ?_) ?_
          · unfold Oper.quietAt
            go_simp
          simp only [Act.put, List.setIfInBounds_toArray, List.set_cons_succ, List.set_cons_zero]
          refine qw_want rfl ?_ (fun w' hw' => ?_) ?_
          rotate_left
          · obtain ⟨y0, y1, y2, y3, y4, y5⟩ := HKP2.out w' hw'
            unfold Oper.quietAt
            go_simp
            exact rfl
          simp only [Act.put, List.setIfInBounds_toArray, List.set_cons_succ, List.set_cons_zero]
          refine qw_want rfl ?_ (fun w' hw' => ?_) ?_
          rotate_left
          · obtain ⟨y0, y1, y2, y3, y4, y5⟩ := HKP2.out w' hw'
            unfold Oper.quietAt
            go_simp
            exact rfl
          simp only [Act.put, List.setIfInBounds_toArray, List.set_cons_succ, List.set_cons_zero]
          refine qw_want rfl ?_ (fun w' hw' => ?_) ?_
          rotate_left
          · obtain ⟨y0, y1, y2, y3, y4, y5⟩ := HKP2.out w' hw'
            unfold Oper.quietAt
            go_simp
            exact rfl
          simp only [Act.put, List.setIfInBounds_toArray, List.set_cons_succ, List.set_cons_zero]
          refine qw_want rfl (.bool false) (fun w' hw' => ?_) ?_
          · unfold Oper.quietAt
            go_simp
          simp only [Act.put, List.setIfInBounds_toArray, List.set_cons_succ, List.set_cons_zero]
          refine qw_want rfl (.bool false) (fun w' hw' => ?_) ?_
          · unfold Oper.quietAt
            go_simp
          simp only [Act.put, List.setIfInBounds_toArray, List.set_cons_succ, List.set_cons_zero]
          refine qw_want rfl (.bool false) (fun w' hw' => ?_) ?_
          · unfold Oper.quietAt
            go_simp
          simp only [Act.put, List.setIfInBounds_toArray, List.set_cons_succ, List.set_cons_zero]
          refine qw_want rfl ?_ (fun w' hw' => ?_) ?_
          rotate_left
          · obtain ⟨y0, y1, y2, y3, y4, y5⟩ := HKP2.out w' hw'
            unfold Oper.quietAt
            go_simp
            exact rfl
          simp only [Act.put, List.setIfInBounds_toArray, List.set_cons_succ, List.set_cons_zero]
          refine qw_want rfl ?_ (fun w' hw' => ?_) ?_
          rotate_left
          · obtain ⟨y0, y1, y2, y3, y4, y5⟩ := HKP2.out w' hw'
            unfold Oper.quietAt
            go_simp
            exact rfl
          simp only [Act.put, List.setIfInBounds_toArray, List.set_cons_succ, List.set_cons_zero]
          refine qw_want rfl ?_ (fun w' hw' => ?_) ?_
          rotate_left
          · obtain ⟨y0, y1, y2, y3, y4, y5⟩ := HKP2.out w' hw'
            unfold Oper.quietAt
            go_simp
            exact rfl
          simp only [Act.put, List.setIfInBounds_toArray, List.set_cons_succ, List.set_cons_zero]
          refine qw_want rfl ?_ (fun w' hw' => ?_) ?_
          rotate_left
          · obtain ⟨y0, y1, y2, y3, y4, y5⟩ := HKP2.out w' hw'
            unfold Oper.quietAt
            go_simp
            exact rfl
          simp only [Act.put, List.setIfInBounds_toArray, List.set_cons_succ, List.set_cons_zero]
          refine qw_want rfl (.agg #[.int .i8 0, .string ⟨#[112, 114, 111, 111, 102]⟩, .slice none 0 0]) (fun w' hw' => ?_) ?_
          · unfold Oper.quietAt
            go_simp
            refine (HSY.out w').mono ?_
            rintro e w2 ⟨rfl, hb⟩
            have hz := below_then hw' (Nat.le_refl _) hb
            exact ⟨rfl, by simpa using hz⟩
          simp only [Act.put, List.setIfInBounds_toArray, List.set_cons_succ, List.set_cons_zero]
          refine qw_want rfl (.bool true) (fun w' hw' => ?_) ?_
          · unfold Oper.quietAt
            go_simp
            refine (HSA.out w' hw').mono ?_
            rintro e w2 ⟨rfl, hb⟩
            have hz := below_then hw' (Nat.le_refl _) hb
            exact ⟨rfl, by simpa using hz⟩
          simp only [Act.put, List.setIfInBounds_toArray, List.set_cons_succ, List.set_cons_zero]
          refine qw_want rfl (.bool false) (fun w' hw' => ?_) ?_
          · unfold Oper.quietAt
            go_simp
          simp only [Act.put, List.setIfInBounds_toArray, List.set_cons_succ, List.set_cons_zero]
          refine qw_want rfl (.bool false) (fun w' hw' => ?_) ?_
          · unfold Oper.quietAt
            go_simp
          simp only [Act.put, List.setIfInBounds_toArray, List.set_cons_succ, List.set_cons_zero]
          refine qw_end (fun w5 hb5 => ?_)
          have HB5 := Lib.hid hb5
          obtain ⟨y0, y1, y2, y3, y4, y5⟩ := HKP2.out w5 hb5
          clear hb5
          go_wp2
          have hsz5 := HB5.out.size
          go_loopw [5, 4] (fun d v wx => ∃ (i : Nat) (L : List Stp) (ys : List C4), 1 ≤ i ∧ i ≤ l.length ∧ d = .int .i64 i ∧ StpRow W.heap.size wx v L ys ∧ ys.length + 1 = i ∧ allP stepP (l.tail.take (i - 1)) = some L ∧ Below W.heap.size W wx) (fun d _ _ => (l.length - intOf d).toNat)
          case atStart => exact ⟨1, [], [], Nat.le_refl _, hlpos, rfl, StpRow.nil _ _, rfl, rfl, HB5.out⟩
          case round =>
            obtain ⟨i, L, ys, hi1, hi, rfl, hO, hyl, hAP, hB⟩ := hrel
            obtain ⟨OA, oc, rfl⟩ := own_slice hO.own
            have HO := Lib.hid hO
            have HAP := Lib.hid hAP
            have HB := Lib.hid hB
            have HYL := Lib.hid hyl
            obtain ⟨x0, x1, x2, _⟩ := blk3 (HBOX.out wr hB)
            clear hO hAP hB hyl
            by_cases hin : i < l.length
            · have hinz : (i : Int) < (l.length : Int) := by omega
              have d7 : decide ((i : Int) < l.length) = true := decide_eq_true hinz
              have hbwr : Below w.heap.size w wr := below_then HW.out (Nat.le_refl _) HB.out
              obtain ⟨k4, t4, B4, n4, m4, hc4⟩ := kid_at HK0.out hin
              obtain ⟨c0, c1, c2⟩ := hc4.cells wr hbwr
              have hti : i - 1 < l.tail.length := by rw [List.length_tail]; omega
              have hY : l.tail[i - 1] = l[i] := by
                rw [List.getElem_tail]
                congr 1
                omega
              obtain ⟨Y, hYY⟩ : ∃ Y, l[i] = Y := ⟨_, rfl⟩
              have hmY := HMR.out _ (List.getElem_mem hin)
              rw [hYY] at hY hc4 hmY
              have HST := Lib.hid (rstep_ok Y hmY _ wr (hc4.lies wr hbwr))
              have HIM := Lib.hid (show i - 1 + 1 = i by omega)
              cases hs : stepP Y with
              | none =>
                have HNO := Lib.hid (show parseP X = none by rw [HPAR.out]; exact allP_none hti (by rw [hY]; exact hs))
                have HST2 := Lib.hid (HST.out.mono (fun e w' h => step_none hs h))
                clear hs hY hYY hc4 hmY hti hbwr HST
                go_wp2_with (go_at_call 37; (with_reducible refine HST2.out.mono ?_); rintro e w9 ⟨⟨y, rfl⟩, hb9⟩; have HB9 := Lib.hid (below_then (below_then HW.out (Nat.le_refl _) HB.out) (Nat.le_refl _) hb9); clear hb9)
                exact bodyPost_ret (v := .tuple #[.slice none 0 0, .int .i64 30]) (by simp [results, Tryz.results17, go_sem]) rfl (ParseOut.no HNO.out rfl (HB9.out.alloc HB9.out.size _))
              | some s =>
                have HAP2 := Lib.hid (allP_step hti HAP.out (by rw [hY]; exact hs))
                rw [HIM.out] at HAP2
                have HST2 := Lib.hid (HST.out.mono (fun e w' h => step_some hs h))
                clear hs hY hYY hc4 hmY hti hbwr HST
                obtain ⟨i0, hi0, hz0, hz1, hz2⟩ := info_parts stp_info
                go_wp2_with (first
                  | (go_at_call 37; (with_reducible refine HST2.out.mono ?_); rintro e w9 ⟨⟨y, rfl, hy4, hyp⟩, hb9⟩; obtain ⟨wc, hwc⟩ : ∃ wc, w9.alloc (.cells #[.int .i8 y.k, .int .i64 y.a, .int .i64 y.b, .slice y.A y.n y.c] 46) = wc := ⟨_, rfl⟩; have hb9c : Below w9.heap.size w9 wc := hwc ▸ (Below.refl _ w9).alloc (Nat.le_refl _) _; have HB9 := Lib.hid (below_then (below_then HB.out (Nat.le_refl _) hb9) (Nat.le_refl _) hb9c); have HO9 := Lib.hid ((HO.out.keep hb9).keep hb9c); have HY9 := Lib.hid (hy4.keep hb9c); have HYP := Lib.hid (step_apart HO.out hyp hb9 hb9c HB.out.size); obtain ⟨q0, q1, q2, q3⟩ := blk4 (hwc ▸ Blk.new w9 _ _ : Blk wc w9.heap.size 46 #[.int .i8 y.k, .int .i64 y.a, .int .i64 y.b, .slice y.A y.n y.c]); have HSC := Lib.hid (show W.heap.size ≤ wc.heap.size from Nat.le_trans HB.out.size (Nat.le_trans hb9.size hb9c.size)); clear hy4 hyp hb9 hb9c)
                  | (at_builtin; refine list_push _ rfl (.tmp 55) (.tmp 57) 22 rfl W.heap.size 46 i0 _ 4 48 Tryz.underlying22 hi0 hz0 hz1 hz2 rfl (by decide) (.slice OA ys.length oc) ys.length _ rfl (HO9.out.own.alloc _) wc.heap.size #[.int .i8 y.k, .int .i64 y.a, .int .i64 y.b, .slice y.A y.n y.c] rfl (Blk.new _ _ _) rfl (by simp [Value.oneCell']) (by have := HYL.out; omega) (by omega) HSC.out ?_; intro ga ca w10 hown hgrow hat hlt1))
                have hbe : Below W.heap.size W w10 := by
                  have hk : Kept (fun i => (Value.slice OA ys.length oc).ownBlock = some i) wc w10 := ((Kept.refl _ wc).alloc _).grown hgrow fun i hi => .inl hi
                  exact HB9.out.trans (hk.below HB9.out.size fun k hk => (HO9.out.own.lt k hk).1)
                refine ⟨⟨i + 1, _, ys ++ [y], by omega, hin, by go_num, HO9.out.push HY9.out HYP.out hown hgrow (hat.imp id (fun h => by rw [h]; simp)), by rw [List.length_append, ← HYL.out]; rfl, HAP2.out, hbe⟩, by simp only [intOf]; omega⟩
            · obtain rfl : i = l.length := by omega
              have d7 : decide ((l.length : Int) < l.length) = false := decide_eq_false (by omega)
              have hAP := HAP.out
              rw [List.take_of_length_le (by rw [List.length_tail]; exact Nat.le_refl _)] at hAP
              have HYES := Lib.hid (show parseP X = some L by rw [HPAR.out, hAP])
              clear hAP
              go_wp2
              exact bodyPost_ret (v := .tuple #[.slice OA ys.length oc, .int .i64 0]) (by simp [results, Tryz.results17, go_sem]) rfl (ParseOut.yes HYES.out HO.out (below_then HW.out (Nat.le_refl _) HB.out))
    · have ht2 : t.toList.isEmpty = false := by rw [← byts_nil]; cases h : (byts t).isEmpty with
        | false => rfl
        | true => exact absurd (List.isEmpty_iff.1 h) ht
      have HNO := Lib.hid (parseP_no (X := X) (by unfold headP; rw [← HX.out, list_no (.inr ht)]; rfl))
      clear ht
      go_enter Tryz.func17, Tryz.ntmps17
      go_wp2
      refine wp_region_quiet (C := fun w' => Below W.heap.size W w') (by kernel_rfl) (by kernel_rfl) (HBd.out) ?_
      refine QW.lit ?_
      refine qw_want rfl ?_ (fun w' hw' => ?_) ?_
      rotate_left
      · obtain ⟨y0, y1, y2, _⟩ := HKP.out w' hw'
        unfold Oper.quietAt
        go_simp
        exact rfl
      simp only [Act.put, List.setIfInBounds_toArray, List.set_cons_succ, List.set_cons_zero]
      refine qw_want rfl ?_ (fun w' hw' => ?_) ?_
      rotate_left
      · obtain ⟨y0, y1, y2, _⟩ := HKP.out w' hw'
        unfold Oper.quietAt
        go_simp
        exact rfl
      simp only [Act.put, List.setIfInBounds_toArray, List.set_cons_succ, List.set_cons_zero]
      refine qw_want rfl (.bool false) (fun w' hw' => ?_) ?_
      · unfold Oper.quietAt
        go_simp
      simp only [Act.put, List.setIfInBounds_toArray, List.set_cons_succ, List.set_cons_zero]
      refine qw_want rfl (.bool false) (fun w' hw' => ?_) ?_
      · unfold Oper.quietAt
        go_simp
      simp only [Act.put, List.setIfInBounds_toArray, List.set_cons_succ, List.set_cons_zero]
      refine qw_want rfl ?_ (fun w' hw' => ?_) ?_
      rotate_left
      · obtain ⟨y0, y1, y2, _⟩ := HKP.out w' hw'
        unfold Oper.quietAt
        go_simp
        exact rfl
      simp only [Act.put, List.setIfInBounds_toArray, List.set_cons_succ, List.set_cons_zero]
      refine qw_want rfl ?_ (fun w' hw' => ?_) ?_
      rotate_left
      · obtain ⟨y0, y1, y2, _⟩ := HKP.out w' hw'
        unfold Oper.quietAt
        go_simp
        exact rfl
      simp only [Act.put, List.setIfInBounds_toArray, List.set_cons_succ, List.set_cons_zero]
      refine qw_want rfl (.bool true) (fun w' hw' => ?_) ?_
      · unfold Oper.quietAt
        go_simp
      simp only [Act.put, List.setIfInBounds_toArray, List.set_cons_succ, List.set_cons_zero]
      refine qw_want rfl (.bool true) (fun w' hw' => ?_) ?_
      · unfold Oper.quietAt
        go_simp
      simp only [Act.put, List.setIfInBounds_toArray, List.set_cons_succ, List.set_cons_zero]
      refine qw_want rfl (.bool true) (fun w' hw' => ?_) ?_
      · unfold Oper.quietAt
        go_simp
      simp only [Act.put, List.setIfInBounds_toArray, List.set_cons_succ, List.set_cons_zero]
      refine qw_skip (by rfl) ?_
      simp only [Act.put, List.setIfInBounds_toArray, List.set_cons_succ, List.set_cons_zero]
      refine qw_skip (by rfl) ?_
      simp only [Act.put, List.setIfInBounds_toArray, List.set_cons_succ, List.set_cons_zero]
      refine qw_skip (by rfl) ?_
      simp only [Act.put, List.setIfInBounds_toArray, List.set_cons_succ, List.set_cons_zero]
      refine qw_skip (by rfl) ?_
      simp only [Act.put, List.setIfInBounds_toArray, List.set_cons_succ, List.set_cons_zero]
      refine qw_want rfl (.bool true) (fun w' hw' => ?_) ?_
      · unfold Oper.quietAt
        go_simp
      simp only [Act.put, List.setIfInBounds_toArray, List.set_cons_succ, List.set_cons_zero]
      refine qw_want rfl (.bool true) (fun w' hw' => ?_) ?_
      · unfold Oper.quietAt
        go_simp
      simp only [Act.put, List.setIfInBounds_toArray, List.set_cons_succ, List.set_cons_zero]
      refine qw_skip (by rfl) ?_
      simp only [Act.put, List.setIfInBounds_toArray, List.set_cons_succ, List.set_cons_zero]
      refine qw_skip (by rfl) ?_
      simp only [Act.put, List.setIfInBounds_toArray, List.set_cons_succ, List.set_cons_zero]
      refine qw_skip (by rfl) ?_
      simp only [Act.put, List.setIfInBounds_toArray, List.set_cons_succ, List.set_cons_zero]
      refine qw_skip (by rfl) ?_
      simp only [Act.put, List.setIfInBounds_toArray, List.set_cons_succ, List.set_cons_zero]
      refine qw_want rfl (.bool true) (fun w' hw' => ?_) ?_
      · unfold Oper.quietAt
        go_simp
      simp only [Act.put, List.setIfInBounds_toArray, List.set_cons_succ, List.set_cons_zero]
      refine qw_want rfl (.bool true) (fun w' hw' => ?_) ?_
      · unfold Oper.quietAt
        go_simp
      simp only [Act.put, List.setIfInBounds_toArray, List.set_cons_succ, List.set_cons_zero]
      refine qw_skip (by rfl) ?_
      simp only [Act.put, List.setIfInBounds_toArray, List.set_cons_succ, List.set_cons_zero]
      refine qw_skip (by rfl) ?_
      simp only [Act.put, List.setIfInBounds_toArray, List.set_cons_succ, List.set_cons_zero]
      refine qw_skip (by rfl) ?_
      simp only [Act.put, List.setIfInBounds_toArray, List.set_cons_succ, List.set_cons_zero]
      refine qw_skip (by rfl) ?_
      simp only [Act.put, List.setIfInBounds_toArray, List.set_cons_succ, List.set_cons_zero]
      refine qw_skip (by rfl) ?_
      simp only [Act.put, List.setIfInBounds_toArray, List.set_cons_succ, List.set_cons_zero]
      refine qw_skip (by rfl) ?_
      simp only [Act.put, List.setIfInBounds_toArray, List.set_cons_succ, List.set_cons_zero]
      refine qw_skip (by rfl) ?_
      simp only [Act.put, List.setIfInBounds_toArray, List.set_cons_succ, List.set_cons_zero]
      refine qw_want rfl (.bool true) (fun w' hw' => ?_) ?_
      · unfold Oper.quietAt
        go_simp
      simp only [Act.put, List.setIfInBounds_toArray, List.set_cons_succ, List.set_cons_zero]
      refine qw_end (fun w5 hb5 => ?_)
      go_wp2
      exact bodyPost_ret (v := .tuple #[.slice none 0 0, .int .i64 30]) (by simp [results, Tryz.results17, go_sem]) rfl (ParseOut.no HNO.out rfl (below_then HW.out (Nat.le_refl _) hb5))
  · have b3 : (k != 3) = true := bne_iff_ne.2 hk3
    have HNO := Lib.hid (parseP_no (X := X) (by unfold headP; rw [← HX.out, list_no (.inl hk3)]; rfl))
    clear hk3
    go_enter Tryz.func17, Tryz.ntmps17
    go_wp2
    refine wp_region_quiet (C := fun w' => Below W.heap.size W w') (by kernel_rfl) (by kernel_rfl) (HBd.out) ?_
    refine QW.lit ?_
    refine qw_want rfl ?_ (fun w' hw' => ?_) ?_
    rotate_left
    · obtain ⟨y0, y1, y2, _⟩ := HKP.out w' hw'
      unfold Oper.quietAt
      go_simp
      exact rfl
    simp only [Act.put, List.setIfInBounds_toArray, List.set_cons_succ, List.set_cons_zero]
    refine qw_want rfl ?_ (fun w' hw' => ?_) ?_
    rotate_left
    · obtain ⟨y0, y1, y2, _⟩ := HKP.out w' hw'
      unfold Oper.quietAt
      go_simp
      exact rfl
    simp only [Act.put, List.setIfInBounds_toArray, List.set_cons_succ, List.set_cons_zero]
    refine qw_want rfl (.bool true) (fun w' hw' => ?_) ?_
    · unfold Oper.quietAt
      go_simp
    simp only [Act.put, List.setIfInBounds_toArray, List.set_cons_succ, List.set_cons_zero]
    refine qw_want rfl (.bool true) (fun w' hw' => ?_) ?_
    · unfold Oper.quietAt
      go_simp
    simp only [Act.put, List.setIfInBounds_toArray, List.set_cons_succ, List.set_cons_zero]
    refine qw_skip (by rfl) ?_
    simp only [Act.put, List.setIfInBounds_toArray, List.set_cons_succ, List.set_cons_zero]
    refine qw_skip (by rfl) ?_
    simp only [Act.put, List.setIfInBounds_toArray, List.set_cons_succ, List.set_cons_zero]
    refine qw_skip (by rfl) ?_
    simp only [Act.put, List.setIfInBounds_toArray, List.set_cons_succ, List.set_cons_zero]
    refine qw_want rfl (.bool true) (fun w' hw' => ?_) ?_
    · unfold Oper.quietAt
      go_simp
    simp only [Act.put, List.setIfInBounds_toArray, List.set_cons_succ, List.set_cons_zero]
    refine qw_want rfl (.bool true) (fun w' hw' => ?_) ?_
    · unfold Oper.quietAt
      go_simp
    simp only [Act.put, List.setIfInBounds_toArray, List.set_cons_succ, List.set_cons_zero]
    refine qw_skip (by rfl) ?_
    simp only [Act.put, List.setIfInBounds_toArray, List.set_cons_succ, List.set_cons_zero]
    refine qw_skip (by rfl) ?_
    simp only [Act.put, List.setIfInBounds_toArray, List.set_cons_succ, List.set_cons_zero]
    refine qw_skip (by rfl) ?_
    simp only [Act.put, List.setIfInBounds_toArray, List.set_cons_succ, List.set_cons_zero]
    refine qw_skip (by rfl) ?_
    simp only [Act.put, List.setIfInBounds_toArray, List.set_cons_succ, List.set_cons_zero]
    refine qw_want rfl (.bool true) (fun w' hw' => ?_) ?_
    · unfold Oper.quietAt
      go_simp
    simp only [Act.put, List.setIfInBounds_toArray, List.set_cons_succ, List.set_cons_zero]
    refine qw_want rfl (.bool true) (fun w' hw' => ?_) ?_
    · unfold Oper.quietAt
      go_simp
    simp only [Act.put, List.setIfInBounds_toArray, List.set_cons_succ, List.set_cons_zero]
    refine qw_skip (by rfl) ?_
    simp only [Act.put, List.setIfInBounds_toArray, List.set_cons_succ, List.set_cons_zero]
    refine qw_skip (by rfl) ?_
    simp only [Act.put, List.setIfInBounds_toArray, List.set_cons_succ, List.set_cons_zero]
    refine qw_skip (by rfl) ?_
    simp only [Act.put, List.setIfInBounds_toArray, List.set_cons_succ, List.set_cons_zero]
    refine qw_skip (by rfl) ?_
    simp only [Act.put, List.setIfInBounds_toArray, List.set_cons_succ, List.set_cons_zero]
    refine qw_want rfl (.bool true) (fun w' hw' => ?_) ?_
    · unfold Oper.quietAt
      go_simp
    simp only [Act.put, List.setIfInBounds_toArray, List.set_cons_succ, List.set_cons_zero]
    refine qw_want rfl (.bool true) (fun w' hw' => ?_) ?_
    · unfold Oper.quietAt
      go_simp
    simp only [Act.put, List.setIfInBounds_toArray, List.set_cons_succ, List.set_cons_zero]
    refine qw_skip (by rfl) ?_
    simp only [Act.put, List.setIfInBounds_toArray, List.set_cons_succ, List.set_cons_zero]
    refine qw_skip (by rfl) ?_
    simp only [Act.put, List.setIfInBounds_toArray, List.set_cons_succ, List.set_cons_zero]
    refine qw_skip (by rfl) ?_
    simp only [Act.put, List.setIfInBounds_toArray, List.set_cons_succ, List.set_cons_zero]
    refine qw_skip (by rfl) ?_
    simp only [Act.put, List.setIfInBounds_toArray, List.set_cons_succ, List.set_cons_zero]
    refine qw_skip (by rfl) ?_
    simp only [Act.put, List.setIfInBounds_toArray, List.set_cons_succ, List.set_cons_zero]
    refine qw_skip (by rfl) ?_
    simp only [Act.put, List.setIfInBounds_toArray, List.set_cons_succ, List.set_cons_zero]
    refine qw_skip (by rfl) ?_
    simp only [Act.put, List.setIfInBounds_toArray, List.set_cons_succ, List.set_cons_zero]
    refine qw_want rfl (.bool true) (fun w' hw' => ?_) ?_
    · unfold Oper.quietAt
      go_simp
    simp only [Act.put, List.setIfInBounds_toArray, List.set_cons_succ, List.set_cons_zero]
    refine qw_end (fun w5 hb5 => ?_)
    go_wp2
    exact bodyPost_ret (v := .tuple #[.slice none 0 0, .int .i64 30]) (by simp [results, Tryz.results17, go_sem]) rfl (ParseOut.no HNO.out rfl (below_then HW.out (Nat.le_refl _) hb5))
end Go.Proofs.YtiklliiamljogaaGreatDoor

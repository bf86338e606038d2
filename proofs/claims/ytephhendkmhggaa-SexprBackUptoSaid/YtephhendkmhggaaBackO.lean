/- SexprBack: its walk (what is read is written and read again). -/
import Derived.Test.YtephhendkmhggaaBackQ
namespace Go.Proofs.Ytephhendkmhggaa
open Go.RowKit


set_option maxHeartbeats 8000000 in
set_option maxRecDepth 100000 in
theorem back_A_ok (x y : Sx) (s : ByteArray) (hg : x.great = false) (hg' : y.great = false) (hx : x.mass ≤ 2000000) (hy : y.mass ≤ 2000000) (hs : s.size ≤ 1000) (h1 : (textL x).2 ≠ 0) (z : Sx) (m : Nat) (hr : topP (byts s) 0 = .ok z m) (hl : ¬ 8192 < z.print.length) (w : World) (a b : C3) (hlx : Lies (fun _ => True) w a.val x) (hly : Lies (fun _ => True) w b.val y) :
    Calls Try.prog 6 #[a.val, b.val, .string s] w fun e w' => e = .returned (.bool true) ∧ Below w.heap.size w w' := by
  obtain ⟨w0, h0⟩ := two_mk w a b x y hlx hly
  have e0 := h0.eq
  have hm := great_mass hg
  have hm' := great_mass hg'
  have HKP := Lib.hid h0.at_
  have HF := Lib.hid h0.fst
  have HSN := Lib.hid h0.snd
  have HGX := Lib.hid (fun w1 h1 => great3_ok x hx a.val w1 (h0.fst w1 h1))
  have HGY := Lib.hid (fun w1 h1 => great3_ok y hy b.val w1 (h0.snd w1 h1))
  have HX := Lib.hid (fun w1 h1 => text_val x hm.1 w1 a.val (h0.fst w1 h1))
  have HY := Lib.hid (fun w1 h1 => text_val y hm'.1 w1 b.val (h0.snd w1 h1))
  have HW := Lib.hid wakes_ok
  have HB0 := Lib.hid h0.below
  have d1 : decide ((s.size : Int) > 1000) = false := decide_eq_false (by omega)
  have d1' : decide ((1000 : Int) < s.size) = false := d1
  rw [hg] at HGX
  rw [hg'] at HGY
  unfold C3.val at HGX HGY HX HY
  obtain ⟨tx, htx⟩ : ∃ q, ofByts (textL x).1 = q := ⟨_, rfl⟩
  obtain ⟨ty, hty⟩ : ∃ q, ofByts (textL y).1 = q := ⟨_, rfl⟩
  rw [htx] at HX
  rw [hty] at HY
  obtain ⟨tc, htc⟩ : ∃ q, (textL x).2 = q := ⟨_, rfl⟩
  obtain ⟨uc, huc⟩ : ∃ q, (textL y).2 = q := ⟨_, rfl⟩
  rw [huc] at HY
  rw [htc] at HX h1
  have b1 : (tc == 0) = false := beq_eq_false_iff_ne.2 h1
  clear htc huc
  clear htx hty
  have HR := Lib.hid (read_ok0 s (by omega) z m hr)
  have hzm := topP_mass hr (by rw [byts_len]; exact hs)
  have hzmay := topP_may hr
  have HTZ := Lib.hid (text_big z (by omega))
  have htz : textL z = (z.print, 0) := by unfold textL; rw [if_pos hzmay, if_neg hl]
  rw [htz] at HTZ
  dsimp only at HTZ
  obtain ⟨tz, hqz⟩ : ∃ q, ofByts z.print = q := ⟨_, rfl⟩
  have hzb : byts tz = z.print := by rw [← hqz, byts_of]
  have hzl : z.print.length = tz.size := by rw [← hzb, byts_len]
  have hmr := may_read hzmay [] rfl
  rw [List.append_nil, ← hzb, byts_len] at hmr
  have HR2 := Lib.hid (read_ok0 tz (by omega) z tz.size hmr)
  have hdz := depth_mass z
  have HSZ : Hid (∀ (v v' : Value) (w : World), Lies (fun _ => True) w v z → Lies (fun _ => True) w v' z → Calls Try.prog 21 #[v, v'] w fun e w' => e = .returned (.bool true) ∧ Below w.heap.size w w') := Lib.hid fun v v' w h h' => (same_at z z v v' w h h').mono (by rw [same_refl]; exact fun _ _ h => h)
  have HMZ : Hid (∀ (v : Value) (w : World), Lies (fun _ => True) w v z → Calls Try.prog 17 #[v] w fun e w' => e = .returned (.bool true) ∧ Below w.heap.size w w') := Lib.hid fun v w h => (may_ok z (fits_mass z (by omega)) (by omega) w v h).mono (by rw [hzmay]; exact fun _ _ h => h)
  rw [hqz] at HTZ
  have htsz : tz.size ≤ 1000000 := by omega
  clear htz hqz hzm hzmay hr hl hzb hmr hdz hzl
  clear hm hm' hx hy hg hg' h0 hlx hly
  obtain ⟨j1, j2, j3, j4, j5, j6⟩ := HKP.out w0 (Below.refl _ _)
  unfold C3.val
  go_enter Try.func6, Try.ntmps6
  go_wp2_with (first
    | (go_at_call 14; (with_reducible refine (HGX.out _ (Below.refl _ _)).mono ?_); rintro e w1 ⟨rfl, hb1⟩; obtain ⟨k1, k2, k3, k4, k5, k6⟩ := HKP.out w1 hb1)
    | (go_at_call 14; (with_reducible refine (HGY.out _ hb1).mono ?_); rintro e w2 ⟨rfl, hb2⟩; have hc2 := hb1.trans (hb2.mono hb1.size); obtain ⟨l1, l2, l3, l4, l5, l6⟩ := HKP.out w2 hc2)
    | (go_at_call 15; (with_reducible refine (HX.out _ hc2).mono ?_); rintro e w3 ⟨rfl, hb3⟩; have hc3 := hc2.trans (hb3.mono hc2.size); obtain ⟨m1, m2, m3, m4, m5, m6⟩ := HKP.out w3 hc3)
    | (go_at_call 15; (with_reducible refine (HY.out _ hc3).mono ?_); rintro e w4 ⟨rfl, hb4⟩; have hc4 := hc3.trans (hb4.mono hc3.size))
    | (go_at_call 9; (with_reducible refine (HR.out _).mono ?_); rintro e w6 ⟨⟨az, hlz, rfl⟩, hb6⟩; have hbk := Blk.new w6 26 #[.int .i8 az.k, .string az.t, .slice az.A az.n az.c]; have hbb6 : Below w4.heap.size w4 (w6.alloc (.cells #[.int .i8 az.k, .string az.t, .slice az.A az.n az.c] 26)) := hb6.alloc hb6.size _; have hl6 := Lib.hid (hlz.keep ((Below.refl _ w6).alloc (Nat.le_refl _) (.cells #[.int .i8 az.k, .string az.t, .slice az.A az.n az.c] 26))); clear hlz; obtain ⟨z0, z1, z2, _⟩ := blk3 hbk)
    | (go_at_call 15; refine (HTZ.out _ _ hl6.out).mono ?_; rintro e w7 ⟨rfl, hb7⟩)
    | (go_at_call 9; (with_reducible refine (HR2.out _).mono ?_); rintro e w8 ⟨⟨ay, hly, rfl⟩, hb8⟩; obtain ⟨w9, e9, hB9, HK3, HS3, HM3⟩ := back_end hbk hl6 hly hb7 hb8 HSZ HMZ; have hB9' := below_then (below_then (below_then (below_then (HB0.out.trans (hc4.mono HB0.out.size)) (Nat.le_refl _) hbb6) (Nat.le_refl _) hb7) (Nat.le_refl _) hb8) (Nat.le_refl _) hB9; clear hb7 hb8 hbb6 hbk hly z0 z1 z2; obtain ⟨n1, n2, n3, n4, n5, n6⟩ := HK3.out w9 (Below.refl _ _))
    | (go_at_call 21; refine (HS3.out _ (Below.refl _ _)).mono ?_; rintro e w10 ⟨rfl, hb10⟩; obtain ⟨p1, p2, p3, p4, p5, p6⟩ := HK3.out w10 hb10)
    | (go_at_call 17; refine (HM3.out _ hb10).mono ?_; rintro e w11 ⟨rfl, hb11⟩)
    | (go_at_call 8; refine (HW.out _).mono ?_; rintro e w12 ⟨rfl, hb12⟩))
  go_ret
  exact ⟨rfl, below_then (below_then (below_then hB9' (Nat.le_refl _) hb10) (Nat.le_refl _) hb11) (Nat.le_refl _) hb12⟩

set_option maxHeartbeats 8000000 in
set_option maxRecDepth 100000 in
theorem back_B_ok (x y : Sx) (s : ByteArray) (hg : x.great = false) (hg' : y.great = false) (hx : x.mass ≤ 2000000) (hy : y.mass ≤ 2000000) (hs : s.size ≤ 1000) (h1 : (textL x).2 = 0) (h2 : (textL y).2 ≠ 0) (z : Sx) (m : Nat) (hr : topP (byts s) 0 = .ok z m) (hl : ¬ 8192 < z.print.length) (w : World) (a b : C3) (hlx : Lies (fun _ => True) w a.val x) (hly : Lies (fun _ => True) w b.val y) :
    Calls Try.prog 6 #[a.val, b.val, .string s] w fun e w' => e = .returned (.bool true) ∧ Below w.heap.size w w' := by
  obtain ⟨w0, h0⟩ := two_mk w a b x y hlx hly
  have e0 := h0.eq
  have hm := great_mass hg
  have hm' := great_mass hg'
  have HKP := Lib.hid h0.at_
  have HF := Lib.hid h0.fst
  have HSN := Lib.hid h0.snd
  have HGX := Lib.hid (fun w1 h1 => great3_ok x hx a.val w1 (h0.fst w1 h1))
  have HGY := Lib.hid (fun w1 h1 => great3_ok y hy b.val w1 (h0.snd w1 h1))
  have HX := Lib.hid (fun w1 h1 => text_val x hm.1 w1 a.val (h0.fst w1 h1))
  have HY := Lib.hid (fun w1 h1 => text_val y hm'.1 w1 b.val (h0.snd w1 h1))
  have HW := Lib.hid wakes_ok
  have HB0 := Lib.hid h0.below
  have d1 : decide ((s.size : Int) > 1000) = false := decide_eq_false (by omega)
  have d1' : decide ((1000 : Int) < s.size) = false := d1
  rw [hg] at HGX
  rw [hg'] at HGY
  unfold C3.val at HGX HGY HX HY
  obtain ⟨tx, htx⟩ : ∃ q, ofByts (textL x).1 = q := ⟨_, rfl⟩
  obtain ⟨ty, hty⟩ : ∃ q, ofByts (textL y).1 = q := ⟨_, rfl⟩
  rw [htx] at HX
  rw [hty] at HY
  rw [h1] at HX
  obtain ⟨uc, huc⟩ : ∃ q, (textL y).2 = q := ⟨_, rfl⟩
  rw [huc] at HY h2
  have b2 : (uc == 0) = false := beq_eq_false_iff_ne.2 h2
  clear huc h2
  clear htx hty
  have HR := Lib.hid (read_ok0 s (by omega) z m hr)
  have hzm := topP_mass hr (by rw [byts_len]; exact hs)
  have hzmay := topP_may hr
  have HTZ := Lib.hid (text_big z (by omega))
  have htz : textL z = (z.print, 0) := by unfold textL; rw [if_pos hzmay, if_neg hl]
  rw [htz] at HTZ
  dsimp only at HTZ
  obtain ⟨tz, hqz⟩ : ∃ q, ofByts z.print = q := ⟨_, rfl⟩
  have hzb : byts tz = z.print := by rw [← hqz, byts_of]
  have hzl : z.print.length = tz.size := by rw [← hzb, byts_len]
  have hmr := may_read hzmay [] rfl
  rw [List.append_nil, ← hzb, byts_len] at hmr
  have HR2 := Lib.hid (read_ok0 tz (by omega) z tz.size hmr)
  have hdz := depth_mass z
  have HSZ : Hid (∀ (v v' : Value) (w : World), Lies (fun _ => True) w v z → Lies (fun _ => True) w v' z → Calls Try.prog 21 #[v, v'] w fun e w' => e = .returned (.bool true) ∧ Below w.heap.size w w') := Lib.hid fun v v' w h h' => (same_at z z v v' w h h').mono (by rw [same_refl]; exact fun _ _ h => h)
  have HMZ : Hid (∀ (v : Value) (w : World), Lies (fun _ => True) w v z → Calls Try.prog 17 #[v] w fun e w' => e = .returned (.bool true) ∧ Below w.heap.size w w') := Lib.hid fun v w h => (may_ok z (fits_mass z (by omega)) (by omega) w v h).mono (by rw [hzmay]; exact fun _ _ h => h)
  rw [hqz] at HTZ
  have htsz : tz.size ≤ 1000000 := by omega
  clear htz hqz hzm hzmay hr hl hzb hmr hdz hzl
  clear hm hm' hx hy hg hg' h0 hlx hly
  obtain ⟨j1, j2, j3, j4, j5, j6⟩ := HKP.out w0 (Below.refl _ _)
  unfold C3.val
  go_enter Try.func6, Try.ntmps6
  go_wp2_with (first
    | (go_at_call 14; (with_reducible refine (HGX.out _ (Below.refl _ _)).mono ?_); rintro e w1 ⟨rfl, hb1⟩; obtain ⟨k1, k2, k3, k4, k5, k6⟩ := HKP.out w1 hb1)
    | (go_at_call 14; (with_reducible refine (HGY.out _ hb1).mono ?_); rintro e w2 ⟨rfl, hb2⟩; have hc2 := hb1.trans (hb2.mono hb1.size); obtain ⟨l1, l2, l3, l4, l5, l6⟩ := HKP.out w2 hc2)
    | (go_at_call 15; (with_reducible refine (HX.out _ hc2).mono ?_); rintro e w3 ⟨rfl, hb3⟩; have hc3 := hc2.trans (hb3.mono hc2.size); obtain ⟨m1, m2, m3, m4, m5, m6⟩ := HKP.out w3 hc3)
    | (go_at_call 15; (with_reducible refine (HY.out _ hc3).mono ?_); rintro e w4 ⟨rfl, hb4⟩; have hc4 := hc3.trans (hb4.mono hc3.size))
    | (go_at_call 9; (with_reducible refine (HR.out _).mono ?_); rintro e w6 ⟨⟨az, hlz, rfl⟩, hb6⟩; have hbk := Blk.new w6 26 #[.int .i8 az.k, .string az.t, .slice az.A az.n az.c]; have hbb6 : Below w4.heap.size w4 (w6.alloc (.cells #[.int .i8 az.k, .string az.t, .slice az.A az.n az.c] 26)) := hb6.alloc hb6.size _; have hl6 := Lib.hid (hlz.keep ((Below.refl _ w6).alloc (Nat.le_refl _) (.cells #[.int .i8 az.k, .string az.t, .slice az.A az.n az.c] 26))); clear hlz; obtain ⟨z0, z1, z2, _⟩ := blk3 hbk)
    | (go_at_call 15; refine (HTZ.out _ _ hl6.out).mono ?_; rintro e w7 ⟨rfl, hb7⟩)
    | (go_at_call 9; (with_reducible refine (HR2.out _).mono ?_); rintro e w8 ⟨⟨ay, hly, rfl⟩, hb8⟩; obtain ⟨w9, e9, hB9, HK3, HS3, HM3⟩ := back_end hbk hl6 hly hb7 hb8 HSZ HMZ; have hB9' := below_then (below_then (below_then (below_then (HB0.out.trans (hc4.mono HB0.out.size)) (Nat.le_refl _) hbb6) (Nat.le_refl _) hb7) (Nat.le_refl _) hb8) (Nat.le_refl _) hB9; clear hb7 hb8 hbb6 hbk hly z0 z1 z2; obtain ⟨n1, n2, n3, n4, n5, n6⟩ := HK3.out w9 (Below.refl _ _))
    | (go_at_call 21; refine (HS3.out _ (Below.refl _ _)).mono ?_; rintro e w10 ⟨rfl, hb10⟩; obtain ⟨p1, p2, p3, p4, p5, p6⟩ := HK3.out w10 hb10)
    | (go_at_call 17; refine (HM3.out _ hb10).mono ?_; rintro e w11 ⟨rfl, hb11⟩)
    | (go_at_call 8; refine (HW.out _).mono ?_; rintro e w12 ⟨rfl, hb12⟩))
  go_ret
  exact ⟨rfl, below_then (below_then (below_then hB9' (Nat.le_refl _) hb10) (Nat.le_refl _) hb11) (Nat.le_refl _) hb12⟩

set_option maxHeartbeats 8000000 in
set_option maxRecDepth 100000 in
theorem back_C_ok (x y : Sx) (s : ByteArray) (hg : x.great = false) (hg' : y.great = false) (hx : x.mass ≤ 2000000) (hy : y.mass ≤ 2000000) (hs : s.size ≤ 1000) (h1 : (textL x).2 = 0) (h2 : (textL y).2 = 0) (z : Sx) (m : Nat) (hr : topP (byts s) 0 = .ok z m) (hl : ¬ 8192 < z.print.length) (w : World) (a b : C3) (hlx : Lies (fun _ => True) w a.val x) (hly : Lies (fun _ => True) w b.val y) :
    Calls Try.prog 6 #[a.val, b.val, .string s] w fun e w' => e = .returned (.bool true) ∧ Below w.heap.size w w' := by
  obtain ⟨w0, h0⟩ := two_mk w a b x y hlx hly
  have e0 := h0.eq
  have hm := great_mass hg
  have hm' := great_mass hg'
  have HKP := Lib.hid h0.at_
  have HF := Lib.hid h0.fst
  have HSN := Lib.hid h0.snd
  have HGX := Lib.hid (fun w1 h1 => great3_ok x hx a.val w1 (h0.fst w1 h1))
  have HGY := Lib.hid (fun w1 h1 => great3_ok y hy b.val w1 (h0.snd w1 h1))
  have HX := Lib.hid (fun w1 h1 => text_val x hm.1 w1 a.val (h0.fst w1 h1))
  have HY := Lib.hid (fun w1 h1 => text_val y hm'.1 w1 b.val (h0.snd w1 h1))
  have HW := Lib.hid wakes_ok
  have HB0 := Lib.hid h0.below
  have d1 : decide ((s.size : Int) > 1000) = false := decide_eq_false (by omega)
  have d1' : decide ((1000 : Int) < s.size) = false := d1
  rw [hg] at HGX
  rw [hg'] at HGY
  unfold C3.val at HGX HGY HX HY
  obtain ⟨hmx, hpx, htx⟩ := textL_zero h1
  obtain ⟨hmy, hpy, hty⟩ := textL_zero h2
  rw [htx] at HX
  rw [hty] at HY
  dsimp only at HX HY
  obtain ⟨tx, hq1⟩ : ∃ q, ofByts x.print = q := ⟨_, rfl⟩
  obtain ⟨ty, hq2⟩ : ∃ q, ofByts y.print = q := ⟨_, rfl⟩
  obtain ⟨q, hq⟩ : ∃ q, (tx ++ ⟨#[32]⟩ : ByteArray) ++ ty = q := ⟨_, rfl⟩
  have hqb : byts q = x.print ++ 32 :: y.print := by rw [← hq, ← byts_of x.print, ← byts_of y.print, ← hq1, ← hq2]; simp [byts, ofByts]
  have hqs : q.size ≤ 1000000 := by rw [← byts_len, hqb, List.length_append, List.length_cons]; omega
  have HAL := Lib.hid (all_two hmx hmy q hqb hqs)
  have HSX : Hid (∀ (v v' : Value) (w : World), Lies (fun _ => True) w v x → Lies (fun _ => True) w v' x → Calls Try.prog 21 #[v, v'] w fun e w' => e = .returned (.bool true) ∧ Below w.heap.size w w') := Lib.hid fun v v' w h h' => (same_at x x v v' w h h').mono (by rw [same_refl]; exact fun _ _ h => h)
  have HSY : Hid (∀ (v v' : Value) (w : World), Lies (fun _ => True) w v y → Lies (fun _ => True) w v' y → Calls Try.prog 21 #[v, v'] w fun e w' => e = .returned (.bool true) ∧ Below w.heap.size w w') := Lib.hid fun v v' w h h' => (same_at y y v v' w h h').mono (by rw [same_refl]; exact fun _ _ h => h)
  rw [hq1] at HX
  rw [hq2] at HY
  have hq3 : (tx ++ ⟨#[32]⟩ : ByteArray).size ≤ 1000000 := by
    have : (tx ++ ⟨#[32]⟩ : ByteArray).size + ty.size = q.size := by rw [← hq]; simp
    omega
  have hxs : tx.size ≤ 8192 := by rw [← byts_len, ← hq1, byts_of]; exact hpx
  have hys : ty.size ≤ 8192 := by rw [← byts_len, ← hq2, byts_of]; exact hpy
  clear hqb hq1 hq2 htx hty hpx hpy hmx hmy
  have HR := Lib.hid (read_ok0 s (by omega) z m hr)
  have hzm := topP_mass hr (by rw [byts_len]; exact hs)
  have hzmay := topP_may hr
  have HTZ := Lib.hid (text_big z (by omega))
  have htz : textL z = (z.print, 0) := by unfold textL; rw [if_pos hzmay, if_neg hl]
  rw [htz] at HTZ
  dsimp only at HTZ
  obtain ⟨tz, hqz⟩ : ∃ q, ofByts z.print = q := ⟨_, rfl⟩
  have hzb : byts tz = z.print := by rw [← hqz, byts_of]
  have hzl : z.print.length = tz.size := by rw [← hzb, byts_len]
  have hmr := may_read hzmay [] rfl
  rw [List.append_nil, ← hzb, byts_len] at hmr
  have HR2 := Lib.hid (read_ok0 tz (by omega) z tz.size hmr)
  have hdz := depth_mass z
  have HSZ : Hid (∀ (v v' : Value) (w : World), Lies (fun _ => True) w v z → Lies (fun _ => True) w v' z → Calls Try.prog 21 #[v, v'] w fun e w' => e = .returned (.bool true) ∧ Below w.heap.size w w') := Lib.hid fun v v' w h h' => (same_at z z v v' w h h').mono (by rw [same_refl]; exact fun _ _ h => h)
  have HMZ : Hid (∀ (v : Value) (w : World), Lies (fun _ => True) w v z → Calls Try.prog 17 #[v] w fun e w' => e = .returned (.bool true) ∧ Below w.heap.size w w') := Lib.hid fun v w h => (may_ok z (fits_mass z (by omega)) (by omega) w v h).mono (by rw [hzmay]; exact fun _ _ h => h)
  rw [hqz] at HTZ
  have htsz : tz.size ≤ 1000000 := by omega
  clear htz hqz hzm hzmay hr hl hzb hmr hdz hzl
  clear hm hm' hx hy hg hg' h0 hlx hly
  obtain ⟨j1, j2, j3, j4, j5, j6⟩ := HKP.out w0 (Below.refl _ _)
  unfold C3.val
  go_enter Try.func6, Try.ntmps6
  go_wp2_with (first
    | (go_at_call 14; (with_reducible refine (HGX.out _ (Below.refl _ _)).mono ?_); rintro e w1 ⟨rfl, hb1⟩; obtain ⟨k1, k2, k3, k4, k5, k6⟩ := HKP.out w1 hb1)
    | (go_at_call 14; (with_reducible refine (HGY.out _ hb1).mono ?_); rintro e w2 ⟨rfl, hb2⟩; have hc2 := hb1.trans (hb2.mono hb1.size); obtain ⟨l1, l2, l3, l4, l5, l6⟩ := HKP.out w2 hc2)
    | (go_at_call 15; (with_reducible refine (HX.out _ hc2).mono ?_); rintro e w3 ⟨rfl, hb3⟩; have hc3 := hc2.trans (hb3.mono hc2.size); obtain ⟨m1, m2, m3, m4, m5, m6⟩ := HKP.out w3 hc3)
    | (go_at_call 15; (with_reducible refine (HY.out _ hc3).mono ?_); rintro e w4 ⟨rfl, hb4⟩; have hc4 := hc3.trans (hb4.mono hc3.size))
    | (go_at_call 12; refine (HAL.out _).mono ?_; rintro e w5 ⟨⟨B, off, c, a1, a2, hlc, hcs, hlt, hl1, hl2, rfl⟩, hb5⟩))
  have hc4 := hc4.trans (hb5.mono hc4.size)
  have HK2 : Hid (∀ w', Below w5.heap.size w5 w' → w'.cell? ⟨B, off, none⟩ = some (.int .i8 a1.k) ∧ w'.cell? ⟨B, off + 1, none⟩ = some (.string a1.t) ∧ w'.cell? ⟨B, off + 2, none⟩ = some (.slice a1.A a1.n a1.c) ∧ w'.cell? ⟨B, off + 3, none⟩ = some (.int .i8 a2.k) ∧ w'.cell? ⟨B, off + 4, none⟩ = some (.string a2.t) ∧ w'.cell? ⟨B, off + 5, none⟩ = some (.slice a2.A a2.n a2.c)) := Lib.hid fun w' h' =>
    ⟨(h'.cell (p := ⟨B, off, none⟩) hlt).trans hcs.1, (h'.cell (p := ⟨B, off + 1, none⟩) hlt).trans hcs.2.1, (h'.cell (p := ⟨B, off + 2, none⟩) hlt).trans hcs.2.2.1, (h'.cell (p := ⟨B, off + 3, none⟩) hlt).trans hcs.2.2.2.1, (h'.cell (p := ⟨B, off + 4, none⟩) hlt).trans hcs.2.2.2.2.1, (h'.cell (p := ⟨B, off + 5, none⟩) hlt).trans hcs.2.2.2.2.2⟩
  have HS1 := Lib.hid (fun w' (h' : Below w5.heap.size w5 w') => HSX.out a1.val a.val w' (hl1.keep h') (HF.out w' (hc4.trans (h'.mono hc4.size))))
  have HS2 := Lib.hid (fun w' (h' : Below w5.heap.size w5 w') => HSY.out a2.val b.val w' (hl2.keep h') (HSN.out w' (hc4.trans (h'.mono hc4.size))))
  unfold C3.val at HS1 HS2
  clear hl1 hl2 hcs
  refine wp_region_quiet (C := fun w' => Below w5.heap.size w5 w') (by kernel_rfl) (by kernel_rfl) ((Below.refl _ _).drew) ?_
  rw [List.toList_toArray]
  refine wpQuiet_want rfl ?_ (fun w' hw' => ?_) ?_
  rotate_left
  · unfold Oper.quietAt
    go_simp
    exact rfl
  simp only [Act.put, List.setIfInBounds_toArray, List.set_cons_succ, List.set_cons_zero]
  refine wpQuiet_want rfl (.bool false) (fun w' hw' => ?_) ?_
  · unfold Oper.quietAt
    go_simp
  simp only [Act.put, List.setIfInBounds_toArray, List.set_cons_succ, List.set_cons_zero]
  refine wpQuiet_want rfl ?_ (fun w' hw' => ?_) ?_
  rotate_left
  · unfold Oper.quietAt
    go_simp
    exact rfl
  simp only [Act.put, List.setIfInBounds_toArray, List.set_cons_succ, List.set_cons_zero]
  refine wpQuiet_want rfl ?_ (fun w' hw' => ?_) ?_
  rotate_left
  · unfold Oper.quietAt
    go_simp
    exact rfl
  simp only [Act.put, List.setIfInBounds_toArray, List.set_cons_succ, List.set_cons_zero]
  refine wpQuiet_want rfl ?_ (fun w' hw' => ?_) ?_
  rotate_left
  · unfold Oper.quietAt
    go_simp
    exact rfl
  simp only [Act.put, List.setIfInBounds_toArray, List.set_cons_succ, List.set_cons_zero]
  refine wpQuiet_want rfl (.bool false) (fun w' hw' => ?_) ?_
  · unfold Oper.quietAt
    go_simp
  simp only [Act.put, List.setIfInBounds_toArray, List.set_cons_succ, List.set_cons_zero]
  refine wpQuiet_want rfl ?_ (fun w' hw' => ?_) ?_
  rotate_left
  · unfold Oper.quietAt
    go_simp
    exact rfl
  simp only [Act.put, List.setIfInBounds_toArray, List.set_cons_succ, List.set_cons_zero]
  refine wpQuiet_want rfl ?_ (fun w' hw' => ?_) ?_
  rotate_left
  · unfold Oper.quietAt
    go_simp
    exact rfl
  simp only [Act.put, List.setIfInBounds_toArray, List.set_cons_succ, List.set_cons_zero]
  refine wpQuiet_want rfl ?_ (fun w' hw' => ?_) ?_
  rotate_left
  · unfold Oper.quietAt
    go_simp
    exact rfl
  simp only [Act.put, List.setIfInBounds_toArray, List.set_cons_succ, List.set_cons_zero]
  refine wpQuiet_want rfl ?_ (fun w' hw' => ?_) ?_
  rotate_left
  · obtain ⟨j1, j2, j3, j4, j5, j6⟩ := HKP.out w' (hc4.trans (hw'.mono hc4.size)); obtain ⟨g1, g2, g3, g4, g5, g6⟩ := HK2.out w' hw'
    unfold Oper.quietAt
    go_simp
    exact rfl
  simp only [Act.put, List.setIfInBounds_toArray, List.set_cons_succ, List.set_cons_zero]
  refine wpQuiet_want rfl ?_ (fun w' hw' => ?_) ?_
  rotate_left
  · obtain ⟨j1, j2, j3, j4, j5, j6⟩ := HKP.out w' (hc4.trans (hw'.mono hc4.size)); obtain ⟨g1, g2, g3, g4, g5, g6⟩ := HK2.out w' hw'
    unfold Oper.quietAt
    go_simp
    exact rfl
  simp only [Act.put, List.setIfInBounds_toArray, List.set_cons_succ, List.set_cons_zero]
  refine wpQuiet_want rfl ?_ (fun w' hw' => ?_) ?_
  rotate_left
  · obtain ⟨j1, j2, j3, j4, j5, j6⟩ := HKP.out w' (hc4.trans (hw'.mono hc4.size)); obtain ⟨g1, g2, g3, g4, g5, g6⟩ := HK2.out w' hw'
    unfold Oper.quietAt
    go_simp
    exact rfl
  simp only [Act.put, List.setIfInBounds_toArray, List.set_cons_succ, List.set_cons_zero]
  refine wpQuiet_want rfl (.bool true) (fun w' hw' => ?_) ?_
  · unfold Oper.quietAt
    go_simp
    refine (HS1.out w' hw').mono ?_
    rintro e w9 ⟨rfl, hb⟩
    have hz := hw'.trans (hb.mono hw'.size)
    exact ⟨rfl, by simpa using hz⟩
  simp only [Act.put, List.setIfInBounds_toArray, List.set_cons_succ, List.set_cons_zero]
  refine wpQuiet_want rfl (.bool false) (fun w' hw' => ?_) ?_
  · unfold Oper.quietAt
    go_simp
  simp only [Act.put, List.setIfInBounds_toArray, List.set_cons_succ, List.set_cons_zero]
  refine wpQuiet_want rfl ?_ (fun w' hw' => ?_) ?_
  rotate_left
  · unfold Oper.quietAt
    go_simp
    exact rfl
  simp only [Act.put, List.setIfInBounds_toArray, List.set_cons_succ, List.set_cons_zero]
  refine wpQuiet_want rfl ?_ (fun w' hw' => ?_) ?_
  rotate_left
  · unfold Oper.quietAt
    go_simp
    exact rfl
  simp only [Act.put, List.setIfInBounds_toArray, List.set_cons_succ, List.set_cons_zero]
  refine wpQuiet_want rfl ?_ (fun w' hw' => ?_) ?_
  rotate_left
  · unfold Oper.quietAt
    go_simp
    exact rfl
  simp only [Act.put, List.setIfInBounds_toArray, List.set_cons_succ, List.set_cons_zero]
  refine wpQuiet_want rfl ?_ (fun w' hw' => ?_) ?_
  rotate_left
  · obtain ⟨j1, j2, j3, j4, j5, j6⟩ := HKP.out w' (hc4.trans (hw'.mono hc4.size)); obtain ⟨g1, g2, g3, g4, g5, g6⟩ := HK2.out w' hw'
    unfold Oper.quietAt
    go_simp
    exact rfl
  simp only [Act.put, List.setIfInBounds_toArray, List.set_cons_succ, List.set_cons_zero]
  refine wpQuiet_want rfl ?_ (fun w' hw' => ?_) ?_
  rotate_left
  · obtain ⟨j1, j2, j3, j4, j5, j6⟩ := HKP.out w' (hc4.trans (hw'.mono hc4.size)); obtain ⟨g1, g2, g3, g4, g5, g6⟩ := HK2.out w' hw'
    unfold Oper.quietAt
    go_simp
    exact rfl
  simp only [Act.put, List.setIfInBounds_toArray, List.set_cons_succ, List.set_cons_zero]
  refine wpQuiet_want rfl ?_ (fun w' hw' => ?_) ?_
  rotate_left
  · obtain ⟨j1, j2, j3, j4, j5, j6⟩ := HKP.out w' (hc4.trans (hw'.mono hc4.size)); obtain ⟨g1, g2, g3, g4, g5, g6⟩ := HK2.out w' hw'
    unfold Oper.quietAt
    go_simp
    exact rfl
  simp only [Act.put, List.setIfInBounds_toArray, List.set_cons_succ, List.set_cons_zero]
  refine wpQuiet_want rfl (.bool true) (fun w' hw' => ?_) ?_
  · unfold Oper.quietAt
    go_simp
    refine (HS2.out w' hw').mono ?_
    rintro e w9 ⟨rfl, hb⟩
    have hz := hw'.trans (hb.mono hw'.size)
    exact ⟨rfl, by simpa using hz⟩
  simp only [Act.put, List.setIfInBounds_toArray, List.set_cons_succ, List.set_cons_zero]
  refine wpQuiet_want rfl (.bool false) (fun w' hw' => ?_) ?_
  · unfold Oper.quietAt
    go_simp
  simp only [Act.put, List.setIfInBounds_toArray, List.set_cons_succ, List.set_cons_zero]
  refine wpQuiet_want rfl ?_ (fun w' hw' => ?_) ?_
  rotate_left
  · unfold Oper.quietAt
    go_simp
    exact rfl
  simp only [Act.put, List.setIfInBounds_toArray, List.set_cons_succ, List.set_cons_zero]
  refine wpQuiet_nil ?_
  intro w4 hb7
  have hc4 := hc4.trans (hb7.mono hc4.size)
  go_wp2_with (first
    | (go_at_call 9; (with_reducible refine (HR.out _).mono ?_); rintro e w6 ⟨⟨az, hlz, rfl⟩, hb6⟩; have hbk := Blk.new w6 26 #[.int .i8 az.k, .string az.t, .slice az.A az.n az.c]; have hbb6 : Below w4.heap.size w4 (w6.alloc (.cells #[.int .i8 az.k, .string az.t, .slice az.A az.n az.c] 26)) := hb6.alloc hb6.size _; have hl6 := Lib.hid (hlz.keep ((Below.refl _ w6).alloc (Nat.le_refl _) (.cells #[.int .i8 az.k, .string az.t, .slice az.A az.n az.c] 26))); clear hlz; obtain ⟨z0, z1, z2, _⟩ := blk3 hbk)
    | (go_at_call 15; refine (HTZ.out _ _ hl6.out).mono ?_; rintro e w7 ⟨rfl, hb7⟩)
    | (go_at_call 9; (with_reducible refine (HR2.out _).mono ?_); rintro e w8 ⟨⟨ay, hly, rfl⟩, hb8⟩; obtain ⟨w9, e9, hB9, HK3, HS3, HM3⟩ := back_end hbk hl6 hly hb7 hb8 HSZ HMZ; have hB9' := below_then (below_then (below_then (below_then (HB0.out.trans (hc4.mono HB0.out.size)) (Nat.le_refl _) hbb6) (Nat.le_refl _) hb7) (Nat.le_refl _) hb8) (Nat.le_refl _) hB9; clear hb7 hb8 hbb6 hbk hly z0 z1 z2; obtain ⟨n1, n2, n3, n4, n5, n6⟩ := HK3.out w9 (Below.refl _ _))
    | (go_at_call 21; refine (HS3.out _ (Below.refl _ _)).mono ?_; rintro e w10 ⟨rfl, hb10⟩; obtain ⟨p1, p2, p3, p4, p5, p6⟩ := HK3.out w10 hb10)
    | (go_at_call 17; refine (HM3.out _ hb10).mono ?_; rintro e w11 ⟨rfl, hb11⟩)
    | (go_at_call 8; refine (HW.out _).mono ?_; rintro e w12 ⟨rfl, hb12⟩))
  go_ret
  exact ⟨rfl, below_then (below_then (below_then hB9' (Nat.le_refl _) hb10) (Nat.le_refl _) hb11) (Nat.le_refl _) hb12⟩
end Go.Proofs.Ytephhendkmhggaa

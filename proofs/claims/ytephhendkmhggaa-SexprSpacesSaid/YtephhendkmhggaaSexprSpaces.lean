/- SexprSpaces: white space and comments make no difference to what is read. -/
import Derived.Test.YtephhendkmhggaaGlueB
namespace Go.Proofs.Ytephhendkmhggaa
open Go.RowKit

theorem and_three (a : Int) : ∃ j : Fin 4, bits .and .i64 a 3 = (j.val : Int) := by
  have h3 : (BitVec.ofInt 64 3).toNat = 3 := by decide
  have h : (BitVec.ofInt 64 a).toNat &&& 3 = (BitVec.ofInt 64 a).toNat % 4 := Nat.and_two_pow_sub_one_eq_mod _ 2
  refine ⟨⟨(BitVec.ofInt 64 a).toNat % 4, Nat.mod_lt _ (by decide)⟩, ?_⟩
  show IntKind.i64.wrap ((BitVec.ofInt 64 a &&& BitVec.ofInt 64 3).toNat : Int) = _
  rw [BitVec.toNat_and, h3, h, IntKind.wrap_i64]
  have := Nat.mod_lt (BitVec.ofInt 64 a).toNat (show 0 < 4 by decide)
  dsimp only
  omega
theorem read_zero (L : List UInt8) : readM L 0 = (topP L 0).out := by
  unfold readM
  rw [if_neg (by decide)]
  have : fromI 0 L.length = 0 := by unfold fromI; omega
  rw [this]
theorem rd_place (L : List UInt8) : ∀ f, (∀ p n e, p ≤ L.length → readF L f p = .err n e → n ≤ L.length) ∧ (∀ p acc n e, p ≤ L.length → listF L f p acc = .err n e → n ≤ L.length)
  | 0 => ⟨fun p n e hp h => by unfold readF at h; injection h with h1 h2; omega, fun p acc n e hp h => by unfold listF at h; injection h with h1 h2; omega⟩
  | f + 1 => by
    obtain ⟨ih1, ih2⟩ := rd_place L f
    refine ⟨fun p n e hp h => ?_, fun p acc n e hp h => ?_⟩
    · have hle := startL_le L p hp
      unfold readF at h
      split at h
      · injection h with h1 h2; omega
      · split at h
        · injection h with h1 h2; omega
        · rename_i r hr
          have hl := tok_len hr
          rw [List.length_drop] at hl
          split at h
          · injection h with h1 h2; omega
          · split at h
            · exact ih2 _ _ _ _ (by omega) h
            · cases h
    · unfold listF at h
      split at h
      · cases h
      · split at h
        · rename_i y q' hy
          exact ih2 _ _ _ _ ((rd_ok L f).1 _ _ _ hp hy).2 h
        · rename_i n' e' hy
          injection h with h1 h2
          subst h1
          exact ih1 _ _ _ hp hy
theorem read_place (L : List UInt8) : (readM L 0).2.1 ≤ L.length := by
  rw [read_zero]
  unfold topP readP
  cases h : readF L (2 * (L.length - 0) + 1) 0 with
  | err n e => exact (rd_place L _).1 0 n e (Nat.zero_le _) h
  | ok x q =>
    have := ((rd_ok L _).1 0 x q (Nat.zero_le _) h).2
    dsimp only
    split <;> exact this
/-- White space ahead moves what is read. -/
theorem read_ahead (W L : List UInt8) (h : startL (W ++ L) 0 = W.length + startL L 0) : readM (W ++ L) 0 = ((readM L 0).1, W.length + (readM L 0).2.1, (readM L 0).2.2) := by
  rw [read_zero, read_zero]
  have h1 : topP (W ++ L) 0 = topP (W ++ L) (W.length + 0) := topP_same (Nat.zero_le _) (by simp) (by rw [h, startL_shift])
  rw [h1, topP_shift]
  cases topP L 0 <;> rfl
theorem read_behind (L M : List UInt8) (h : (readM L 0).2.2 = 0) : readM (L ++ 10 :: M) 0 = readM L 0 ∧ (readM L 0).2.1 ≤ L.length ∧ startL L 0 < (readM L 0).2.1 := by
  rw [read_zero] at h ⊢
  rw [read_zero]
  cases ht : topP L 0 with
  | err n c =>
    rw [ht] at h
    exact absurd h (topP_err (Nat.zero_le _) ht)
  | ok x q =>
    rw [topP_behind M (Nat.zero_le _) ht]
    exact ⟨rfl, (topP_ok (Nat.zero_le _) ht).2.1, topP_begin (Nat.zero_le _) ht⟩
theorem start_0 (L : List UInt8) : startL ([32] ++ L) 0 = ([32] : List UInt8).length + startL L 0 := by
  unfold startL
  simp [sk_f, sk_c, whiteN]
  try omega
theorem start_1 (L : List UInt8) : startL ([10, 9] ++ L) 0 = ([10, 9] : List UInt8).length + startL L 0 := by
  unfold startL
  simp [sk_f, sk_c, whiteN]
  try omega
theorem start_2 (L : List UInt8) : startL ([59, 32, 40, 97, 10] ++ L) 0 = ([59, 32, 40, 97, 10] : List UInt8).length + startL L 0 := by
  unfold startL
  simp [sk_f, sk_c, whiteN]
  try omega
theorem start_3 (L : List UInt8) : startL ([] ++ L) 0 = ([] : List UInt8).length + startL L 0 := by
  unfold startL
  simp [sk_f, sk_c, whiteN]
  try omega

set_option maxHeartbeats 2000000 in
set_option maxRecDepth 100000 in
theorem spaces_0 (s : ByteArray) (a : Int) (w : World) (h1 : s.size ≤ 1000) (ha : bits .and .i64 a 3 = 0) :
    Calls Try.prog 5 #[.string s, .int .i64 a] w fun e w' => e = .returned (.bool true) ∧ Below w.heap.size w w' := by
  have d1 : decide ((s.size : Int) > 1000) = false := decide_eq_false (by omega)
  have d1' : decide ((1000 : Int) < s.size) = false := d1
  obtain ⟨q2, hq2⟩ : ∃ q2, (⟨#[32]⟩ : ByteArray) ++ s = q2 := ⟨_, rfl⟩
  obtain ⟨q3, hq3⟩ : ∃ q3, (s ++ ⟨#[10]⟩ : ByteArray) ++ ⟨#[32]⟩ = q3 := ⟨_, rfl⟩
  have hb2 : byts q2 = [32] ++ byts s := by rw [← hq2]; simp [byts]
  have hb3 : byts q3 = byts s ++ 10 :: [32] := by rw [← hq3]; simp [byts]
  have hs2 : q2.size ≤ 1000000 := by rw [← byts_len, hb2, List.length_append, byts_len]; simp; omega
  have hs3 : q3.size ≤ 1000000 := by rw [← byts_len, hb3, List.length_append, byts_len]; simp; omega
  have HR := Lib.hid (Read_out s 0 (by omega))
  have HR2 := Lib.hid (Read_out q2 0 hs2)
  have HR3 := Lib.hid (Read_out q3 0 hs3)
  have HSK := Lib.hid (fun w => rskip_ok s 0 w (by omega))
  have hah := read_ahead [32] (byts s) (start_0 _)
  have hbe := read_behind (byts s) [32]
  have hsk0 : fromI 0 s.size + sk false ((byts s).drop (fromI 0 s.size)) = startL (byts s) 0 := by
    have : fromI 0 s.size = 0 := by unfold fromI; omega
    rw [this]
    rfl
  rw [hsk0] at HSK
  rw [hb2, hah] at HR2
  rw [hb3] at HR3
  rw [byts_len] at hbe
  obtain ⟨⟨X, m, ec⟩, hR⟩ : ∃ R, readM (byts s) 0 = R := ⟨_, rfl⟩
  obtain ⟨st, hst⟩ : ∃ st, startL (byts s) 0 = st := ⟨_, rfl⟩
  rw [hR] at HR HR2 hbe
  rw [hst] at HSK hbe
  have HSX := Lib.hid (same_at X X)
  have HSR := Lib.hid (same_refl X)
  have HW := Lib.hid wakes_ok
  obtain ⟨m2, hm2⟩ : ∃ m2, ([32] : List UInt8).length + m = m2 := ⟨_, rfl⟩
  have hmz : (m2 : Int) = m + 1 := by rw [← hm2]; simp; try omega
  have dm : ((m2 : Int) != (m : Int) + 1) = false := by rw [hmz]; simp
  have hml := read_place (byts s)
  rw [hR, byts_len] at hml
  dsimp only at HR2 hbe hml
  rw [hm2] at HR2
  have Hmz := Lib.hid hmz
  clear hah hsk0 hb2 hb3 hR hst hm2 hmz
  by_cases hec : ec = 0
  · have hb := hbe hec
    subst hec
    rw [hb.1] at HR3
    have hm1 := hb.2.1
    have hm3 := hb.2.2
    have d3 : decide ((m : Int) ≤ s.size) = true := decide_eq_true (by omega)
    have d4 : decide ((st : Int) < m) = true := decide_eq_true (by omega)
    clear hbe hb
    go_enter Try.func5, Try.ntmps5
    go_wp2_with (first
      | (go_at_call 9; (with_reducible refine (HR.out _).mono ?_); rintro e w1 ⟨⟨y, hl, rfl⟩, hb1⟩; have hbk := Blk.new w1 26 #[.int .i8 y.k, .string y.t, .slice y.A y.n y.c]; have hbb1 := hb1.alloc hb1.size (.cells #[.int .i8 y.k, .string y.t, .slice y.A y.n y.c] 26); have hl1 := Lib.hid ((hl.mono (S' := fun _ => True) (fun _ _ _ => True.intro)).keep ((Below.refl _ w1).alloc (Nat.le_refl _) (.cells #[.int .i8 y.k, .string y.t, .slice y.A y.n y.c] 26))); clear hl)
      | (go_at_call 9; (with_reducible refine (HR2.out _).mono ?_); rintro e w2 ⟨⟨z, hz, rfl⟩, hb2⟩; have hbb2 := hb2.alloc hb2.size (.cells #[.int .i8 z.k, .string z.t, .slice z.A z.n z.c] 26); have hl2 := Lib.hid (hl1.out.keep hbb2); have hz2 := Lib.hid ((hz.mono (S' := fun _ => True) (fun _ _ _ => True.intro)).keep ((Below.refl _ w2).alloc (Nat.le_refl _) (.cells #[.int .i8 z.k, .string z.t, .slice z.A z.n z.c] 26))); have hbk2 := hbk.below hbb2 hbk.lt; obtain ⟨x0, x1, x2, _⟩ := blk3 hbk2; clear hz)
      | (go_at_call 9; (with_reducible refine (HR3.out _).mono ?_); rintro e w4 ⟨⟨u, hu, rfl⟩, hb4⟩; have hbb4 := hb4.alloc hb4.size (.cells #[.int .i8 u.k, .string u.t, .slice u.A u.n u.c] 26); have hl4 := Lib.hid (hl3.out.keep hbb4); have hu4 := Lib.hid ((hu.mono (S' := fun _ => True) (fun _ _ _ => True.intro)).keep ((Below.refl _ w4).alloc (Nat.le_refl _) (.cells #[.int .i8 u.k, .string u.t, .slice u.A u.n u.c] 26))); have hbk4 := hbk3.below hbb4 hbk3.lt; obtain ⟨x0, x1, x2, _⟩ := blk3 hbk4; clear hu)
      | (go_at_call 21; refine (HSX.out _ _ _ hl4.out hu4.out).mono ?_; rw [HSR.out]; rintro e w5 ⟨rfl, hb5⟩)
      | (go_at_call 21; refine (HSX.out _ _ _ hl2.out hz2.out).mono ?_; rw [HSR.out]; rintro e w3 ⟨rfl, hb3⟩; have hbk3 := hbk2.below hb3 hbk2.lt; have hl3 := Lib.hid (hl2.out.keep hb3); obtain ⟨x0, x1, x2, _⟩ := blk3 hbk3)
      | (go_at_call 24; refine (HSK.out _).mono ?_; rintro e w6 ⟨rfl, rfl⟩)
      | (go_at_call 8; refine (HW.out _).mono ?_; rintro e w6 ⟨rfl, hb6⟩))
    go_ret
    exact ⟨rfl, below_then (below_then (below_then (below_then (below_then (below_then ((Below.refl _ w).alloc (Nat.le_refl _) _) (Nat.le_refl _) hbb1) (Nat.le_refl _) hbb2) (Nat.le_refl _) hb3) (Nat.le_refl _) hbb4) (Nat.le_refl _) hb5) (Nat.le_refl _) hb6⟩
  · have b1 : (ec != 0) = true := bne_iff_ne.2 hec
    clear hbe HR3
    go_enter Try.func5, Try.ntmps5
    go_wp2_with (first
      | (go_at_call 9; (with_reducible refine (HR.out _).mono ?_); rintro e w1 ⟨⟨y, hl, rfl⟩, hb1⟩; have hbk := Blk.new w1 26 #[.int .i8 y.k, .string y.t, .slice y.A y.n y.c]; have hbb1 := hb1.alloc hb1.size (.cells #[.int .i8 y.k, .string y.t, .slice y.A y.n y.c] 26); have hl1 := Lib.hid ((hl.mono (S' := fun _ => True) (fun _ _ _ => True.intro)).keep ((Below.refl _ w1).alloc (Nat.le_refl _) (.cells #[.int .i8 y.k, .string y.t, .slice y.A y.n y.c] 26))); clear hl)
      | (go_at_call 9; (with_reducible refine (HR2.out _).mono ?_); rintro e w2 ⟨⟨z, hz, rfl⟩, hb2⟩; have hbb2 := hb2.alloc hb2.size (.cells #[.int .i8 z.k, .string z.t, .slice z.A z.n z.c] 26); have hl2 := Lib.hid (hl1.out.keep hbb2); have hz2 := Lib.hid ((hz.mono (S' := fun _ => True) (fun _ _ _ => True.intro)).keep ((Below.refl _ w2).alloc (Nat.le_refl _) (.cells #[.int .i8 z.k, .string z.t, .slice z.A z.n z.c] 26))); have hbk2 := hbk.below hbb2 hbk.lt; obtain ⟨x0, x1, x2, _⟩ := blk3 hbk2; clear hz)
      | (go_at_call 9; (with_reducible refine (HR3.out _).mono ?_); rintro e w4 ⟨⟨u, hu, rfl⟩, hb4⟩; have hbb4 := hb4.alloc hb4.size (.cells #[.int .i8 u.k, .string u.t, .slice u.A u.n u.c] 26); have hl4 := Lib.hid (hl3.out.keep hbb4); have hu4 := Lib.hid ((hu.mono (S' := fun _ => True) (fun _ _ _ => True.intro)).keep ((Below.refl _ w4).alloc (Nat.le_refl _) (.cells #[.int .i8 u.k, .string u.t, .slice u.A u.n u.c] 26))); have hbk4 := hbk3.below hbb4 hbk3.lt; obtain ⟨x0, x1, x2, _⟩ := blk3 hbk4; clear hu)
      | (go_at_call 21; refine (HSX.out _ _ _ hl4.out hu4.out).mono ?_; rw [HSR.out]; rintro e w5 ⟨rfl, hb5⟩)
      | (go_at_call 21; refine (HSX.out _ _ _ hl2.out hz2.out).mono ?_; rw [HSR.out]; rintro e w3 ⟨rfl, hb3⟩; have hbk3 := hbk2.below hb3 hbk2.lt; have hl3 := Lib.hid (hl2.out.keep hb3); obtain ⟨x0, x1, x2, _⟩ := blk3 hbk3)
      | (go_at_call 24; refine (HSK.out _).mono ?_; rintro e w6 ⟨rfl, rfl⟩)
      | (go_at_call 8; refine (HW.out _).mono ?_; rintro e w6 ⟨rfl, hb6⟩))
    go_ret
    exact ⟨rfl, below_then (below_then (below_then (below_then ((Below.refl _ w).alloc (Nat.le_refl _) _) (Nat.le_refl _) hbb1) (Nat.le_refl _) hbb2) (Nat.le_refl _) hb3) (Nat.le_refl _) hb6⟩

set_option maxHeartbeats 2000000 in
set_option maxRecDepth 100000 in
theorem spaces_1 (s : ByteArray) (a : Int) (w : World) (h1 : s.size ≤ 1000) (ha : bits .and .i64 a 3 = 1) :
    Calls Try.prog 5 #[.string s, .int .i64 a] w fun e w' => e = .returned (.bool true) ∧ Below w.heap.size w w' := by
  have d1 : decide ((s.size : Int) > 1000) = false := decide_eq_false (by omega)
  have d1' : decide ((1000 : Int) < s.size) = false := d1
  obtain ⟨q2, hq2⟩ : ∃ q2, (⟨#[10, 9]⟩ : ByteArray) ++ s = q2 := ⟨_, rfl⟩
  obtain ⟨q3, hq3⟩ : ∃ q3, (s ++ ⟨#[10]⟩ : ByteArray) ++ ⟨#[10, 9]⟩ = q3 := ⟨_, rfl⟩
  have hb2 : byts q2 = [10, 9] ++ byts s := by rw [← hq2]; simp [byts]
  have hb3 : byts q3 = byts s ++ 10 :: [10, 9] := by rw [← hq3]; simp [byts]
  have hs2 : q2.size ≤ 1000000 := by rw [← byts_len, hb2, List.length_append, byts_len]; simp; omega
  have hs3 : q3.size ≤ 1000000 := by rw [← byts_len, hb3, List.length_append, byts_len]; simp; omega
  have HR := Lib.hid (Read_out s 0 (by omega))
  have HR2 := Lib.hid (Read_out q2 0 hs2)
  have HR3 := Lib.hid (Read_out q3 0 hs3)
  have HSK := Lib.hid (fun w => rskip_ok s 0 w (by omega))
  have hah := read_ahead [10, 9] (byts s) (start_1 _)
  have hbe := read_behind (byts s) [10, 9]
  have hsk0 : fromI 0 s.size + sk false ((byts s).drop (fromI 0 s.size)) = startL (byts s) 0 := by
    have : fromI 0 s.size = 0 := by unfold fromI; omega
    rw [this]
    rfl
  rw [hsk0] at HSK
  rw [hb2, hah] at HR2
  rw [hb3] at HR3
  rw [byts_len] at hbe
  obtain ⟨⟨X, m, ec⟩, hR⟩ : ∃ R, readM (byts s) 0 = R := ⟨_, rfl⟩
  obtain ⟨st, hst⟩ : ∃ st, startL (byts s) 0 = st := ⟨_, rfl⟩
  rw [hR] at HR HR2 hbe
  rw [hst] at HSK hbe
  have HSX := Lib.hid (same_at X X)
  have HSR := Lib.hid (same_refl X)
  have HW := Lib.hid wakes_ok
  obtain ⟨m2, hm2⟩ : ∃ m2, ([10, 9] : List UInt8).length + m = m2 := ⟨_, rfl⟩
  have hmz : (m2 : Int) = m + 2 := by rw [← hm2]; simp; try omega
  have dm : ((m2 : Int) != (m : Int) + 2) = false := by rw [hmz]; simp
  have hml := read_place (byts s)
  rw [hR, byts_len] at hml
  dsimp only at HR2 hbe hml
  rw [hm2] at HR2
  have Hmz := Lib.hid hmz
  clear hah hsk0 hb2 hb3 hR hst hm2 hmz
  by_cases hec : ec = 0
  · have hb := hbe hec
    subst hec
    rw [hb.1] at HR3
    have hm1 := hb.2.1
    have hm3 := hb.2.2
    have d3 : decide ((m : Int) ≤ s.size) = true := decide_eq_true (by omega)
    have d4 : decide ((st : Int) < m) = true := decide_eq_true (by omega)
    clear hbe hb
    go_enter Try.func5, Try.ntmps5
    go_wp2_with (first
      | (go_at_call 9; (with_reducible refine (HR.out _).mono ?_); rintro e w1 ⟨⟨y, hl, rfl⟩, hb1⟩; have hbk := Blk.new w1 26 #[.int .i8 y.k, .string y.t, .slice y.A y.n y.c]; have hbb1 := hb1.alloc hb1.size (.cells #[.int .i8 y.k, .string y.t, .slice y.A y.n y.c] 26); have hl1 := Lib.hid ((hl.mono (S' := fun _ => True) (fun _ _ _ => True.intro)).keep ((Below.refl _ w1).alloc (Nat.le_refl _) (.cells #[.int .i8 y.k, .string y.t, .slice y.A y.n y.c] 26))); clear hl)
      | (go_at_call 9; (with_reducible refine (HR2.out _).mono ?_); rintro e w2 ⟨⟨z, hz, rfl⟩, hb2⟩; have hbb2 := hb2.alloc hb2.size (.cells #[.int .i8 z.k, .string z.t, .slice z.A z.n z.c] 26); have hl2 := Lib.hid (hl1.out.keep hbb2); have hz2 := Lib.hid ((hz.mono (S' := fun _ => True) (fun _ _ _ => True.intro)).keep ((Below.refl _ w2).alloc (Nat.le_refl _) (.cells #[.int .i8 z.k, .string z.t, .slice z.A z.n z.c] 26))); have hbk2 := hbk.below hbb2 hbk.lt; obtain ⟨x0, x1, x2, _⟩ := blk3 hbk2; clear hz)
      | (go_at_call 9; (with_reducible refine (HR3.out _).mono ?_); rintro e w4 ⟨⟨u, hu, rfl⟩, hb4⟩; have hbb4 := hb4.alloc hb4.size (.cells #[.int .i8 u.k, .string u.t, .slice u.A u.n u.c] 26); have hl4 := Lib.hid (hl3.out.keep hbb4); have hu4 := Lib.hid ((hu.mono (S' := fun _ => True) (fun _ _ _ => True.intro)).keep ((Below.refl _ w4).alloc (Nat.le_refl _) (.cells #[.int .i8 u.k, .string u.t, .slice u.A u.n u.c] 26))); have hbk4 := hbk3.below hbb4 hbk3.lt; obtain ⟨x0, x1, x2, _⟩ := blk3 hbk4; clear hu)
      | (go_at_call 21; refine (HSX.out _ _ _ hl4.out hu4.out).mono ?_; rw [HSR.out]; rintro e w5 ⟨rfl, hb5⟩)
      | (go_at_call 21; refine (HSX.out _ _ _ hl2.out hz2.out).mono ?_; rw [HSR.out]; rintro e w3 ⟨rfl, hb3⟩; have hbk3 := hbk2.below hb3 hbk2.lt; have hl3 := Lib.hid (hl2.out.keep hb3); obtain ⟨x0, x1, x2, _⟩ := blk3 hbk3)
      | (go_at_call 24; refine (HSK.out _).mono ?_; rintro e w6 ⟨rfl, rfl⟩)
      | (go_at_call 8; refine (HW.out _).mono ?_; rintro e w6 ⟨rfl, hb6⟩))
    go_ret
    exact ⟨rfl, below_then (below_then (below_then (below_then (below_then (below_then ((Below.refl _ w).alloc (Nat.le_refl _) _) (Nat.le_refl _) hbb1) (Nat.le_refl _) hbb2) (Nat.le_refl _) hb3) (Nat.le_refl _) hbb4) (Nat.le_refl _) hb5) (Nat.le_refl _) hb6⟩
  · have b1 : (ec != 0) = true := bne_iff_ne.2 hec
    clear hbe HR3
    go_enter Try.func5, Try.ntmps5
    go_wp2_with (first
      | (go_at_call 9; (with_reducible refine (HR.out _).mono ?_); rintro e w1 ⟨⟨y, hl, rfl⟩, hb1⟩; have hbk := Blk.new w1 26 #[.int .i8 y.k, .string y.t, .slice y.A y.n y.c]; have hbb1 := hb1.alloc hb1.size (.cells #[.int .i8 y.k, .string y.t, .slice y.A y.n y.c] 26); have hl1 := Lib.hid ((hl.mono (S' := fun _ => True) (fun _ _ _ => True.intro)).keep ((Below.refl _ w1).alloc (Nat.le_refl _) (.cells #[.int .i8 y.k, .string y.t, .slice y.A y.n y.c] 26))); clear hl)
      | (go_at_call 9; (with_reducible refine (HR2.out _).mono ?_); rintro e w2 ⟨⟨z, hz, rfl⟩, hb2⟩; have hbb2 := hb2.alloc hb2.size (.cells #[.int .i8 z.k, .string z.t, .slice z.A z.n z.c] 26); have hl2 := Lib.hid (hl1.out.keep hbb2); have hz2 := Lib.hid ((hz.mono (S' := fun _ => True) (fun _ _ _ => True.intro)).keep ((Below.refl _ w2).alloc (Nat.le_refl _) (.cells #[.int .i8 z.k, .string z.t, .slice z.A z.n z.c] 26))); have hbk2 := hbk.below hbb2 hbk.lt; obtain ⟨x0, x1, x2, _⟩ := blk3 hbk2; clear hz)
      | (go_at_call 9; (with_reducible refine (HR3.out _).mono ?_); rintro e w4 ⟨⟨u, hu, rfl⟩, hb4⟩; have hbb4 := hb4.alloc hb4.size (.cells #[.int .i8 u.k, .string u.t, .slice u.A u.n u.c] 26); have hl4 := Lib.hid (hl3.out.keep hbb4); have hu4 := Lib.hid ((hu.mono (S' := fun _ => True) (fun _ _ _ => True.intro)).keep ((Below.refl _ w4).alloc (Nat.le_refl _) (.cells #[.int .i8 u.k, .string u.t, .slice u.A u.n u.c] 26))); have hbk4 := hbk3.below hbb4 hbk3.lt; obtain ⟨x0, x1, x2, _⟩ := blk3 hbk4; clear hu)
      | (go_at_call 21; refine (HSX.out _ _ _ hl4.out hu4.out).mono ?_; rw [HSR.out]; rintro e w5 ⟨rfl, hb5⟩)
      | (go_at_call 21; refine (HSX.out _ _ _ hl2.out hz2.out).mono ?_; rw [HSR.out]; rintro e w3 ⟨rfl, hb3⟩; have hbk3 := hbk2.below hb3 hbk2.lt; have hl3 := Lib.hid (hl2.out.keep hb3); obtain ⟨x0, x1, x2, _⟩ := blk3 hbk3)
      | (go_at_call 24; refine (HSK.out _).mono ?_; rintro e w6 ⟨rfl, rfl⟩)
      | (go_at_call 8; refine (HW.out _).mono ?_; rintro e w6 ⟨rfl, hb6⟩))
    go_ret
    exact ⟨rfl, below_then (below_then (below_then (below_then ((Below.refl _ w).alloc (Nat.le_refl _) _) (Nat.le_refl _) hbb1) (Nat.le_refl _) hbb2) (Nat.le_refl _) hb3) (Nat.le_refl _) hb6⟩

set_option maxHeartbeats 2000000 in
set_option maxRecDepth 100000 in
theorem spaces_2 (s : ByteArray) (a : Int) (w : World) (h1 : s.size ≤ 1000) (ha : bits .and .i64 a 3 = 2) :
    Calls Try.prog 5 #[.string s, .int .i64 a] w fun e w' => e = .returned (.bool true) ∧ Below w.heap.size w w' := by
  have d1 : decide ((s.size : Int) > 1000) = false := decide_eq_false (by omega)
  have d1' : decide ((1000 : Int) < s.size) = false := d1
  obtain ⟨q2, hq2⟩ : ∃ q2, (⟨#[59, 32, 40, 97, 10]⟩ : ByteArray) ++ s = q2 := ⟨_, rfl⟩
  obtain ⟨q3, hq3⟩ : ∃ q3, (s ++ ⟨#[10]⟩ : ByteArray) ++ ⟨#[59, 32, 40, 97, 10]⟩ = q3 := ⟨_, rfl⟩
  have hb2 : byts q2 = [59, 32, 40, 97, 10] ++ byts s := by rw [← hq2]; simp [byts]
  have hb3 : byts q3 = byts s ++ 10 :: [59, 32, 40, 97, 10] := by rw [← hq3]; simp [byts]
  have hs2 : q2.size ≤ 1000000 := by rw [← byts_len, hb2, List.length_append, byts_len]; simp; omega
  have hs3 : q3.size ≤ 1000000 := by rw [← byts_len, hb3, List.length_append, byts_len]; simp; omega
  have HR := Lib.hid (Read_out s 0 (by omega))
  have HR2 := Lib.hid (Read_out q2 0 hs2)
  have HR3 := Lib.hid (Read_out q3 0 hs3)
  have HSK := Lib.hid (fun w => rskip_ok s 0 w (by omega))
  have hah := read_ahead [59, 32, 40, 97, 10] (byts s) (start_2 _)
  have hbe := read_behind (byts s) [59, 32, 40, 97, 10]
  have hsk0 : fromI 0 s.size + sk false ((byts s).drop (fromI 0 s.size)) = startL (byts s) 0 := by
    have : fromI 0 s.size = 0 := by unfold fromI; omega
    rw [this]
    rfl
  rw [hsk0] at HSK
  rw [hb2, hah] at HR2
  rw [hb3] at HR3
  rw [byts_len] at hbe
  obtain ⟨⟨X, m, ec⟩, hR⟩ : ∃ R, readM (byts s) 0 = R := ⟨_, rfl⟩
  obtain ⟨st, hst⟩ : ∃ st, startL (byts s) 0 = st := ⟨_, rfl⟩
  rw [hR] at HR HR2 hbe
  rw [hst] at HSK hbe
  have HSX := Lib.hid (same_at X X)
  have HSR := Lib.hid (same_refl X)
  have HW := Lib.hid wakes_ok
  obtain ⟨m2, hm2⟩ : ∃ m2, ([59, 32, 40, 97, 10] : List UInt8).length + m = m2 := ⟨_, rfl⟩
  have hmz : (m2 : Int) = m + 5 := by rw [← hm2]; simp; try omega
  have dm : ((m2 : Int) != (m : Int) + 5) = false := by rw [hmz]; simp
  have hml := read_place (byts s)
  rw [hR, byts_len] at hml
  dsimp only at HR2 hbe hml
  rw [hm2] at HR2
  have Hmz := Lib.hid hmz
  clear hah hsk0 hb2 hb3 hR hst hm2 hmz
  by_cases hec : ec = 0
  · have hb := hbe hec
    subst hec
    rw [hb.1] at HR3
    have hm1 := hb.2.1
    have hm3 := hb.2.2
    have d3 : decide ((m : Int) ≤ s.size) = true := decide_eq_true (by omega)
    have d4 : decide ((st : Int) < m) = true := decide_eq_true (by omega)
    clear hbe hb
    go_enter Try.func5, Try.ntmps5
    go_wp2_with (first
      | (go_at_call 9; (with_reducible refine (HR.out _).mono ?_); rintro e w1 ⟨⟨y, hl, rfl⟩, hb1⟩; have hbk := Blk.new w1 26 #[.int .i8 y.k, .string y.t, .slice y.A y.n y.c]; have hbb1 := hb1.alloc hb1.size (.cells #[.int .i8 y.k, .string y.t, .slice y.A y.n y.c] 26); have hl1 := Lib.hid ((hl.mono (S' := fun _ => True) (fun _ _ _ => True.intro)).keep ((Below.refl _ w1).alloc (Nat.le_refl _) (.cells #[.int .i8 y.k, .string y.t, .slice y.A y.n y.c] 26))); clear hl)
      | (go_at_call 9; (with_reducible refine (HR2.out _).mono ?_); rintro e w2 ⟨⟨z, hz, rfl⟩, hb2⟩; have hbb2 := hb2.alloc hb2.size (.cells #[.int .i8 z.k, .string z.t, .slice z.A z.n z.c] 26); have hl2 := Lib.hid (hl1.out.keep hbb2); have hz2 := Lib.hid ((hz.mono (S' := fun _ => True) (fun _ _ _ => True.intro)).keep ((Below.refl _ w2).alloc (Nat.le_refl _) (.cells #[.int .i8 z.k, .string z.t, .slice z.A z.n z.c] 26))); have hbk2 := hbk.below hbb2 hbk.lt; obtain ⟨x0, x1, x2, _⟩ := blk3 hbk2; clear hz)
      | (go_at_call 9; (with_reducible refine (HR3.out _).mono ?_); rintro e w4 ⟨⟨u, hu, rfl⟩, hb4⟩; have hbb4 := hb4.alloc hb4.size (.cells #[.int .i8 u.k, .string u.t, .slice u.A u.n u.c] 26); have hl4 := Lib.hid (hl3.out.keep hbb4); have hu4 := Lib.hid ((hu.mono (S' := fun _ => True) (fun _ _ _ => True.intro)).keep ((Below.refl _ w4).alloc (Nat.le_refl _) (.cells #[.int .i8 u.k, .string u.t, .slice u.A u.n u.c] 26))); have hbk4 := hbk3.below hbb4 hbk3.lt; obtain ⟨x0, x1, x2, _⟩ := blk3 hbk4; clear hu)
      | (go_at_call 21; refine (HSX.out _ _ _ hl4.out hu4.out).mono ?_; rw [HSR.out]; rintro e w5 ⟨rfl, hb5⟩)
      | (go_at_call 21; refine (HSX.out _ _ _ hl2.out hz2.out).mono ?_; rw [HSR.out]; rintro e w3 ⟨rfl, hb3⟩; have hbk3 := hbk2.below hb3 hbk2.lt; have hl3 := Lib.hid (hl2.out.keep hb3); obtain ⟨x0, x1, x2, _⟩ := blk3 hbk3)
      | (go_at_call 24; refine (HSK.out _).mono ?_; rintro e w6 ⟨rfl, rfl⟩)
      | (go_at_call 8; refine (HW.out _).mono ?_; rintro e w6 ⟨rfl, hb6⟩))
    go_ret
    exact ⟨rfl, below_then (below_then (below_then (below_then (below_then (below_then ((Below.refl _ w).alloc (Nat.le_refl _) _) (Nat.le_refl _) hbb1) (Nat.le_refl _) hbb2) (Nat.le_refl _) hb3) (Nat.le_refl _) hbb4) (Nat.le_refl _) hb5) (Nat.le_refl _) hb6⟩
  · have b1 : (ec != 0) = true := bne_iff_ne.2 hec
    clear hbe HR3
    go_enter Try.func5, Try.ntmps5
    go_wp2_with (first
      | (go_at_call 9; (with_reducible refine (HR.out _).mono ?_); rintro e w1 ⟨⟨y, hl, rfl⟩, hb1⟩; have hbk := Blk.new w1 26 #[.int .i8 y.k, .string y.t, .slice y.A y.n y.c]; have hbb1 := hb1.alloc hb1.size (.cells #[.int .i8 y.k, .string y.t, .slice y.A y.n y.c] 26); have hl1 := Lib.hid ((hl.mono (S' := fun _ => True) (fun _ _ _ => True.intro)).keep ((Below.refl _ w1).alloc (Nat.le_refl _) (.cells #[.int .i8 y.k, .string y.t, .slice y.A y.n y.c] 26))); clear hl)
      | (go_at_call 9; (with_reducible refine (HR2.out _).mono ?_); rintro e w2 ⟨⟨z, hz, rfl⟩, hb2⟩; have hbb2 := hb2.alloc hb2.size (.cells #[.int .i8 z.k, .string z.t, .slice z.A z.n z.c] 26); have hl2 := Lib.hid (hl1.out.keep hbb2); have hz2 := Lib.hid ((hz.mono (S' := fun _ => True) (fun _ _ _ => True.intro)).keep ((Below.refl _ w2).alloc (Nat.le_refl _) (.cells #[.int .i8 z.k, .string z.t, .slice z.A z.n z.c] 26))); have hbk2 := hbk.below hbb2 hbk.lt; obtain ⟨x0, x1, x2, _⟩ := blk3 hbk2; clear hz)
      | (go_at_call 9; (with_reducible refine (HR3.out _).mono ?_); rintro e w4 ⟨⟨u, hu, rfl⟩, hb4⟩; have hbb4 := hb4.alloc hb4.size (.cells #[.int .i8 u.k, .string u.t, .slice u.A u.n u.c] 26); have hl4 := Lib.hid (hl3.out.keep hbb4); have hu4 := Lib.hid ((hu.mono (S' := fun _ => True) (fun _ _ _ => True.intro)).keep ((Below.refl _ w4).alloc (Nat.le_refl _) (.cells #[.int .i8 u.k, .string u.t, .slice u.A u.n u.c] 26))); have hbk4 := hbk3.below hbb4 hbk3.lt; obtain ⟨x0, x1, x2, _⟩ := blk3 hbk4; clear hu)
      | (go_at_call 21; refine (HSX.out _ _ _ hl4.out hu4.out).mono ?_; rw [HSR.out]; rintro e w5 ⟨rfl, hb5⟩)
      | (go_at_call 21; refine (HSX.out _ _ _ hl2.out hz2.out).mono ?_; rw [HSR.out]; rintro e w3 ⟨rfl, hb3⟩; have hbk3 := hbk2.below hb3 hbk2.lt; have hl3 := Lib.hid (hl2.out.keep hb3); obtain ⟨x0, x1, x2, _⟩ := blk3 hbk3)
      | (go_at_call 24; refine (HSK.out _).mono ?_; rintro e w6 ⟨rfl, rfl⟩)
      | (go_at_call 8; refine (HW.out _).mono ?_; rintro e w6 ⟨rfl, hb6⟩))
    go_ret
    exact ⟨rfl, below_then (below_then (below_then (below_then ((Below.refl _ w).alloc (Nat.le_refl _) _) (Nat.le_refl _) hbb1) (Nat.le_refl _) hbb2) (Nat.le_refl _) hb3) (Nat.le_refl _) hb6⟩

set_option maxHeartbeats 2000000 in
set_option maxRecDepth 100000 in
theorem spaces_3 (s : ByteArray) (a : Int) (w : World) (h1 : s.size ≤ 1000) (ha : bits .and .i64 a 3 = 3) :
    Calls Try.prog 5 #[.string s, .int .i64 a] w fun e w' => e = .returned (.bool true) ∧ Below w.heap.size w w' := by
  have d1 : decide ((s.size : Int) > 1000) = false := decide_eq_false (by omega)
  have d1' : decide ((1000 : Int) < s.size) = false := d1
  obtain ⟨q2, hq2⟩ : ∃ q2, (⟨#[]⟩ : ByteArray) ++ s = q2 := ⟨_, rfl⟩
  obtain ⟨q3, hq3⟩ : ∃ q3, (s ++ ⟨#[10]⟩ : ByteArray) ++ ⟨#[]⟩ = q3 := ⟨_, rfl⟩
  have hb2 : byts q2 = [] ++ byts s := by rw [← hq2]; simp [byts]
  have hb3 : byts q3 = byts s ++ 10 :: [] := by rw [← hq3]; simp [byts]
  have hs2 : q2.size ≤ 1000000 := by rw [← byts_len, hb2, List.length_append, byts_len]; simp; omega
  have hs3 : q3.size ≤ 1000000 := by rw [← byts_len, hb3, List.length_append, byts_len]; simp; omega
  have HR := Lib.hid (Read_out s 0 (by omega))
  have HR2 := Lib.hid (Read_out q2 0 hs2)
  have HR3 := Lib.hid (Read_out q3 0 hs3)
  have HSK := Lib.hid (fun w => rskip_ok s 0 w (by omega))
  have hah := read_ahead [] (byts s) (start_3 _)
  have hbe := read_behind (byts s) []
  have hsk0 : fromI 0 s.size + sk false ((byts s).drop (fromI 0 s.size)) = startL (byts s) 0 := by
    have : fromI 0 s.size = 0 := by unfold fromI; omega
    rw [this]
    rfl
  rw [hsk0] at HSK
  rw [hb2, hah] at HR2
  rw [hb3] at HR3
  rw [byts_len] at hbe
  obtain ⟨⟨X, m, ec⟩, hR⟩ : ∃ R, readM (byts s) 0 = R := ⟨_, rfl⟩
  obtain ⟨st, hst⟩ : ∃ st, startL (byts s) 0 = st := ⟨_, rfl⟩
  rw [hR] at HR HR2 hbe
  rw [hst] at HSK hbe
  have HSX := Lib.hid (same_at X X)
  have HSR := Lib.hid (same_refl X)
  have HW := Lib.hid wakes_ok
  obtain ⟨m2, hm2⟩ : ∃ m2, ([] : List UInt8).length + m = m2 := ⟨_, rfl⟩
  have hmz : (m2 : Int) = m + 0 := by rw [← hm2]; simp; try omega
  have dm : ((m2 : Int) != (m : Int) + 0) = false := by rw [hmz]; simp
  have hml := read_place (byts s)
  rw [hR, byts_len] at hml
  dsimp only at HR2 hbe hml
  rw [hm2] at HR2
  have Hmz := Lib.hid hmz
  clear hah hsk0 hb2 hb3 hR hst hm2 hmz
  by_cases hec : ec = 0
  · have hb := hbe hec
    subst hec
    rw [hb.1] at HR3
    have hm1 := hb.2.1
    have hm3 := hb.2.2
    have d3 : decide ((m : Int) ≤ s.size) = true := decide_eq_true (by omega)
    have d4 : decide ((st : Int) < m) = true := decide_eq_true (by omega)
    clear hbe hb
    go_enter Try.func5, Try.ntmps5
    go_wp2_with (first
      | (go_at_call 9; (with_reducible refine (HR.out _).mono ?_); rintro e w1 ⟨⟨y, hl, rfl⟩, hb1⟩; have hbk := Blk.new w1 26 #[.int .i8 y.k, .string y.t, .slice y.A y.n y.c]; have hbb1 := hb1.alloc hb1.size (.cells #[.int .i8 y.k, .string y.t, .slice y.A y.n y.c] 26); have hl1 := Lib.hid ((hl.mono (S' := fun _ => True) (fun _ _ _ => True.intro)).keep ((Below.refl _ w1).alloc (Nat.le_refl _) (.cells #[.int .i8 y.k, .string y.t, .slice y.A y.n y.c] 26))); clear hl)
      | (go_at_call 9; (with_reducible refine (HR2.out _).mono ?_); rintro e w2 ⟨⟨z, hz, rfl⟩, hb2⟩; have hbb2 := hb2.alloc hb2.size (.cells #[.int .i8 z.k, .string z.t, .slice z.A z.n z.c] 26); have hl2 := Lib.hid (hl1.out.keep hbb2); have hz2 := Lib.hid ((hz.mono (S' := fun _ => True) (fun _ _ _ => True.intro)).keep ((Below.refl _ w2).alloc (Nat.le_refl _) (.cells #[.int .i8 z.k, .string z.t, .slice z.A z.n z.c] 26))); have hbk2 := hbk.below hbb2 hbk.lt; obtain ⟨x0, x1, x2, _⟩ := blk3 hbk2; clear hz)
      | (go_at_call 9; (with_reducible refine (HR3.out _).mono ?_); rintro e w4 ⟨⟨u, hu, rfl⟩, hb4⟩; have hbb4 := hb4.alloc hb4.size (.cells #[.int .i8 u.k, .string u.t, .slice u.A u.n u.c] 26); have hl4 := Lib.hid (hl3.out.keep hbb4); have hu4 := Lib.hid ((hu.mono (S' := fun _ => True) (fun _ _ _ => True.intro)).keep ((Below.refl _ w4).alloc (Nat.le_refl _) (.cells #[.int .i8 u.k, .string u.t, .slice u.A u.n u.c] 26))); have hbk4 := hbk3.below hbb4 hbk3.lt; obtain ⟨x0, x1, x2, _⟩ := blk3 hbk4; clear hu)
      | (go_at_call 21; refine (HSX.out _ _ _ hl4.out hu4.out).mono ?_; rw [HSR.out]; rintro e w5 ⟨rfl, hb5⟩)
      | (go_at_call 21; refine (HSX.out _ _ _ hl2.out hz2.out).mono ?_; rw [HSR.out]; rintro e w3 ⟨rfl, hb3⟩; have hbk3 := hbk2.below hb3 hbk2.lt; have hl3 := Lib.hid (hl2.out.keep hb3); obtain ⟨x0, x1, x2, _⟩ := blk3 hbk3)
      | (go_at_call 24; refine (HSK.out _).mono ?_; rintro e w6 ⟨rfl, rfl⟩)
      | (go_at_call 8; refine (HW.out _).mono ?_; rintro e w6 ⟨rfl, hb6⟩))
    go_ret
    exact ⟨rfl, below_then (below_then (below_then (below_then (below_then (below_then ((Below.refl _ w).alloc (Nat.le_refl _) _) (Nat.le_refl _) hbb1) (Nat.le_refl _) hbb2) (Nat.le_refl _) hb3) (Nat.le_refl _) hbb4) (Nat.le_refl _) hb5) (Nat.le_refl _) hb6⟩
  · have b1 : (ec != 0) = true := bne_iff_ne.2 hec
    clear hbe HR3
    go_enter Try.func5, Try.ntmps5
    go_wp2_with (first
      | (go_at_call 9; (with_reducible refine (HR.out _).mono ?_); rintro e w1 ⟨⟨y, hl, rfl⟩, hb1⟩; have hbk := Blk.new w1 26 #[.int .i8 y.k, .string y.t, .slice y.A y.n y.c]; have hbb1 := hb1.alloc hb1.size (.cells #[.int .i8 y.k, .string y.t, .slice y.A y.n y.c] 26); have hl1 := Lib.hid ((hl.mono (S' := fun _ => True) (fun _ _ _ => True.intro)).keep ((Below.refl _ w1).alloc (Nat.le_refl _) (.cells #[.int .i8 y.k, .string y.t, .slice y.A y.n y.c] 26))); clear hl)
      | (go_at_call 9; (with_reducible refine (HR2.out _).mono ?_); rintro e w2 ⟨⟨z, hz, rfl⟩, hb2⟩; have hbb2 := hb2.alloc hb2.size (.cells #[.int .i8 z.k, .string z.t, .slice z.A z.n z.c] 26); have hl2 := Lib.hid (hl1.out.keep hbb2); have hz2 := Lib.hid ((hz.mono (S' := fun _ => True) (fun _ _ _ => True.intro)).keep ((Below.refl _ w2).alloc (Nat.le_refl _) (.cells #[.int .i8 z.k, .string z.t, .slice z.A z.n z.c] 26))); have hbk2 := hbk.below hbb2 hbk.lt; obtain ⟨x0, x1, x2, _⟩ := blk3 hbk2; clear hz)
      | (go_at_call 9; (with_reducible refine (HR3.out _).mono ?_); rintro e w4 ⟨⟨u, hu, rfl⟩, hb4⟩; have hbb4 := hb4.alloc hb4.size (.cells #[.int .i8 u.k, .string u.t, .slice u.A u.n u.c] 26); have hl4 := Lib.hid (hl3.out.keep hbb4); have hu4 := Lib.hid ((hu.mono (S' := fun _ => True) (fun _ _ _ => True.intro)).keep ((Below.refl _ w4).alloc (Nat.le_refl _) (.cells #[.int .i8 u.k, .string u.t, .slice u.A u.n u.c] 26))); have hbk4 := hbk3.below hbb4 hbk3.lt; obtain ⟨x0, x1, x2, _⟩ := blk3 hbk4; clear hu)
      | (go_at_call 21; refine (HSX.out _ _ _ hl4.out hu4.out).mono ?_; rw [HSR.out]; rintro e w5 ⟨rfl, hb5⟩)
      | (go_at_call 21; refine (HSX.out _ _ _ hl2.out hz2.out).mono ?_; rw [HSR.out]; rintro e w3 ⟨rfl, hb3⟩; have hbk3 := hbk2.below hb3 hbk2.lt; have hl3 := Lib.hid (hl2.out.keep hb3); obtain ⟨x0, x1, x2, _⟩ := blk3 hbk3)
      | (go_at_call 24; refine (HSK.out _).mono ?_; rintro e w6 ⟨rfl, rfl⟩)
      | (go_at_call 8; refine (HW.out _).mono ?_; rintro e w6 ⟨rfl, hb6⟩))
    go_ret
    exact ⟨rfl, below_then (below_then (below_then (below_then ((Below.refl _ w).alloc (Nat.le_refl _) _) (Nat.le_refl _) hbb1) (Nat.le_refl _) hbb2) (Nat.le_refl _) hb3) (Nat.le_refl _) hb6⟩

theorem sexprSpaces_walk (s : ByteArray) (a : Int) (w : World) (_ : s.size ≤ maxLen) (_ : (Lit.int .i64 a).wf = true) :
    Calls Try.prog 5 #[.string s, .int .i64 a] w fun e w' => e = .returned (.bool true) ∧ Below w.heap.size w w' := by
  by_cases h1 : s.size ≤ 1000
  · obtain ⟨j, hj⟩ := and_three a
    match j, hj with
    | ⟨0, _⟩, hj => exact spaces_0 s a w h1 hj
    | ⟨1, _⟩, hj => exact spaces_1 s a w h1 hj
    | ⟨2, _⟩, hj => exact spaces_2 s a w h1 hj
    | ⟨3, _⟩, hj => exact spaces_3 s a w h1 hj
  · have d1 : decide ((s.size : Int) > 1000) = true := decide_eq_true (by omega)
    have d1' : decide ((1000 : Int) < s.size) = true := d1
    have HW := Lib.hid (wakes_ok w)
    go_enter Try.func5, Try.ntmps5
    go_wp2_with (go_at_call 8; refine HW.out.mono ?_; rintro e w6 ⟨rfl, hb6⟩)
    go_ret
    exact ⟨rfl, hb6⟩
end Go.Proofs.Ytephhendkmhggaa

/- The reference's Next: the cases of names and numerals. Printed by gen_E.py 2. -/
import Derived.Test.YtephhendkmhggaaRefF
namespace Go.Proofs.Ytephhendkmhggaa
open Go.RowKit

set_option maxRecDepth 100000 in
theorem rnext_none (s : ByteArray) (a : Int) (w : World) (n : Nat) (hs : s.size ≤ 1000000) (hst : startI s a = n) (hn : n < s.size) (hk0 : (s[n]'hn).toNat ≠ 40) (hk1 : (s[n]'hn).toNat ≠ 41) (hk2 : (s[n]'hn).toNat ≠ 124) (hk3 : (s[n]'hn).toNat ≠ 58) (dg : Bool) (HDIG : digitN (s[n]'hn).toNat = dg) (m : Nat) (hm : (signs ((byts s).drop n)).length = m) (hp : m = 0) :
    Calls Try.prog 39 #[.string s, .int .i64 a] w fun e w' => e = .returned (.tuple #[.agg #[.int .i8 0, .string ⟨#[]⟩, .int .i64 n, .int .i64 0], .bool false, .int .i64 20]) ∧ Below w.heap.size w w' := by
  have K := fun W => rskip_ok s a W hs
  rw [show fromI a s.size + sk false ((byts s).drop (fromI a s.size)) = startI s a from rfl, hst] at K
  have hB : ∀ c c2, Below w.heap.size w ((w.alloc (.cells c 62)).alloc (.cells c2 62)) := fun c c2 => ((Below.refl _ _).alloc (Nat.le_refl _) _).alloc (by simp) _
  have hc : ∀ c c2 i, ((w.alloc (.cells c 62)).alloc (.cells c2 62)).cell? ⟨w.heap.size, i, none⟩ = c[i]? := fun c c2 i => ((Blk.new w _ c).alloc _).cell i
  have HC := Lib.hid hc
  have HB := Lib.hid hB
  have d1 : decide ((s.size : Int) ≤ n) = false := decide_eq_false (by omega)
  have hnz : (n : Int) < s.size := by omega
  have t1 : (0 : Int) ≤ n := by omega
  obtain ⟨x, hx⟩ : ∃ x : UInt8, s[n]'hn = x := ⟨_, rfl⟩
  rw [hx] at hk0 hk1 hk2 hk3 HDIG
  have b0 : ((x.toNat : Int) == 40) = false := beq_eq_false_iff_ne.2 (by omega)
  have b1 : ((x.toNat : Int) == 41) = false := beq_eq_false_iff_ne.2 (by omega)
  have b2 : ((x.toNat : Int) == 124) = false := beq_eq_false_iff_ne.2 (by omega)
  have b3 : ((x.toNat : Int) == 58) = false := beq_eq_false_iff_ne.2 (by omega)
  have KR : ∀ W, Calls Try.prog 63 #[.string s, .int .i64 (n : Int)] W fun e w' => e = .returned (.int .i64 ((n : Int) + m)) ∧ W = w' := fun W => by
    have h := rrun_ok s n W hs (by omega)
    rw [hm] at h
    exact h
  subst hp

  clear hst hc hB hk0 hk1 hk2 hk3 hm HDIG
  go_enter Try.func39, Try.ntmps39
  go_wp2_with (first
    | (go_at_call 24; refine (K _).mono ?_; rintro e w1 ⟨rfl, rfl⟩)

    | (go_at_call 63; with_reducible refine (KR _).mono ?_; rintro e w1 ⟨rfl, rfl⟩))
  refine bodyPost_ret (v := .tuple #[.agg #[.int .i8 0, .string ⟨#[]⟩, .int .i64 n, .int .i64 0], .bool false, .int .i64 20]) (by simp [results, Try.results39, go_sem, HC.out]) rfl ⟨rfl, HB.out _ _⟩

set_option maxRecDepth 100000 in
theorem rnext_long (s : ByteArray) (a : Int) (w : World) (n : Nat) (hs : s.size ≤ 1000000) (hst : startI s a = n) (hn : n < s.size) (hk0 : (s[n]'hn).toNat ≠ 40) (hk1 : (s[n]'hn).toNat ≠ 41) (hk2 : (s[n]'hn).toNat ≠ 124) (hk3 : (s[n]'hn).toNat ≠ 58) (dg : Bool) (HDIG : digitN (s[n]'hn).toNat = dg) (m : Nat) (hm : (signs ((byts s).drop n)).length = m) (hp : 100 < m) (hp2 : m ≤ 1000000) :
    Calls Try.prog 39 #[.string s, .int .i64 a] w fun e w' => e = .returned (.tuple #[.agg #[.int .i8 0, .string ⟨#[]⟩, .int .i64 n, .int .i64 0], .bool false, .int .i64 20]) ∧ Below w.heap.size w w' := by
  have K := fun W => rskip_ok s a W hs
  rw [show fromI a s.size + sk false ((byts s).drop (fromI a s.size)) = startI s a from rfl, hst] at K
  have hB : ∀ c c2, Below w.heap.size w ((w.alloc (.cells c 62)).alloc (.cells c2 62)) := fun c c2 => ((Below.refl _ _).alloc (Nat.le_refl _) _).alloc (by simp) _
  have hc : ∀ c c2 i, ((w.alloc (.cells c 62)).alloc (.cells c2 62)).cell? ⟨w.heap.size, i, none⟩ = c[i]? := fun c c2 i => ((Blk.new w _ c).alloc _).cell i
  have HC := Lib.hid hc
  have HB := Lib.hid hB
  have d1 : decide ((s.size : Int) ≤ n) = false := decide_eq_false (by omega)
  have hnz : (n : Int) < s.size := by omega
  have t1 : (0 : Int) ≤ n := by omega
  obtain ⟨x, hx⟩ : ∃ x : UInt8, s[n]'hn = x := ⟨_, rfl⟩
  rw [hx] at hk0 hk1 hk2 hk3 HDIG
  have b0 : ((x.toNat : Int) == 40) = false := beq_eq_false_iff_ne.2 (by omega)
  have b1 : ((x.toNat : Int) == 41) = false := beq_eq_false_iff_ne.2 (by omega)
  have b2 : ((x.toNat : Int) == 124) = false := beq_eq_false_iff_ne.2 (by omega)
  have b3 : ((x.toNat : Int) == 58) = false := beq_eq_false_iff_ne.2 (by omega)
  have KR : ∀ W, Calls Try.prog 63 #[.string s, .int .i64 (n : Int)] W fun e w' => e = .returned (.int .i64 ((n : Int) + m)) ∧ W = w' := fun W => by
    have h := rrun_ok s n W hs (by omega)
    rw [hm] at h
    exact h
  have b4 : (((n : Int) + m) == (n : Int)) = false := beq_eq_false_iff_ne.2 (by omega)
  have d9 : decide ((100 : Int) < (n : Int) + m - n) = true := decide_eq_true (by omega)

  clear hst hc hB hk0 hk1 hk2 hk3 hm HDIG
  go_enter Try.func39, Try.ntmps39
  go_wp2_with (first
    | (go_at_call 24; refine (K _).mono ?_; rintro e w1 ⟨rfl, rfl⟩)

    | (go_at_call 63; with_reducible refine (KR _).mono ?_; rintro e w1 ⟨rfl, rfl⟩))
  refine bodyPost_ret (v := .tuple #[.agg #[.int .i8 0, .string ⟨#[]⟩, .int .i64 n, .int .i64 0], .bool false, .int .i64 20]) (by simp [results, Try.results39, go_sem, HC.out]) rfl ⟨rfl, HB.out _ _⟩

set_option maxRecDepth 100000 in
theorem rnext_name (s : ByteArray) (a : Int) (w : World) (n : Nat) (hs : s.size ≤ 1000000) (hst : startI s a = n) (hn : n < s.size) (hk0 : (s[n]'hn).toNat ≠ 40) (hk1 : (s[n]'hn).toNat ≠ 41) (hk2 : (s[n]'hn).toNat ≠ 124) (hk3 : (s[n]'hn).toNat ≠ 58) (dg : Bool) (HDIG : digitN (s[n]'hn).toNat = dg) (m : Nat) (hm : (signs ((byts s).drop n)).length = m) (hdg : dg = false) (hp : 0 < m) (hp1 : m ≤ 100) (hp2 : n + m ≤ s.size) :
    Calls Try.prog 39 #[.string s, .int .i64 a] w fun e w' => e = .returned (.tuple #[.agg #[.int .i8 2, .string (s.extract n (n + m)), .int .i64 n, .int .i64 ((n : Int) + m)], .bool true, .int .i64 0]) ∧ Below w.heap.size w w' := by
  have K := fun W => rskip_ok s a W hs
  rw [show fromI a s.size + sk false ((byts s).drop (fromI a s.size)) = startI s a from rfl, hst] at K
  have hB : ∀ c c2, Below w.heap.size w ((w.alloc (.cells c 62)).alloc (.cells c2 62)) := fun c c2 => ((Below.refl _ _).alloc (Nat.le_refl _) _).alloc (by simp) _
  have hc : ∀ c c2 i, ((w.alloc (.cells c 62)).alloc (.cells c2 62)).cell? ⟨w.heap.size, i, none⟩ = c[i]? := fun c c2 i => ((Blk.new w _ c).alloc _).cell i
  have HC := Lib.hid hc
  have HB := Lib.hid hB
  have d1 : decide ((s.size : Int) ≤ n) = false := decide_eq_false (by omega)
  have hnz : (n : Int) < s.size := by omega
  have t1 : (0 : Int) ≤ n := by omega
  obtain ⟨x, hx⟩ : ∃ x : UInt8, s[n]'hn = x := ⟨_, rfl⟩
  rw [hx] at hk0 hk1 hk2 hk3 HDIG
  have b0 : ((x.toNat : Int) == 40) = false := beq_eq_false_iff_ne.2 (by omega)
  have b1 : ((x.toNat : Int) == 41) = false := beq_eq_false_iff_ne.2 (by omega)
  have b2 : ((x.toNat : Int) == 124) = false := beq_eq_false_iff_ne.2 (by omega)
  have b3 : ((x.toNat : Int) == 58) = false := beq_eq_false_iff_ne.2 (by omega)
  have KR : ∀ W, Calls Try.prog 63 #[.string s, .int .i64 (n : Int)] W fun e w' => e = .returned (.int .i64 ((n : Int) + m)) ∧ W = w' := fun W => by
    have h := rrun_ok s n W hs (by omega)
    rw [hm] at h
    exact h
  have b4 : (((n : Int) + m) == (n : Int)) = false := beq_eq_false_iff_ne.2 (by omega)
  have d9 : decide ((100 : Int) < (n : Int) + m - n) = false := decide_eq_false (by omega)
  have t5 : (n : Int) ≤ (n : Int) + m := by omega
  have t6 : (n : Int) + m ≤ s.size := by omega
  have KD : ∀ W, Calls Try.prog 65 #[.int .u8 (x.toNat : Nat)] W fun e w' => e = .returned (.bool dg) ∧ W = w' := fun W => by
    have h := rdigit_ok (w := W) x.toNat
    rw [HDIG] at h
    exact h
  subst hdg

  clear hst hc hB hk0 hk1 hk2 hk3 hm HDIG
  go_enter Try.func39, Try.ntmps39
  go_wp2_with (first
    | (go_at_call 24; refine (K _).mono ?_; rintro e w1 ⟨rfl, rfl⟩)
    | (go_at_call 65; with_reducible refine (KD _).mono ?_; rintro e w1 ⟨rfl, rfl⟩)
    | (go_at_call 63; with_reducible refine (KR _).mono ?_; rintro e w1 ⟨rfl, rfl⟩))
  refine bodyPost_ret (v := .tuple #[.agg #[.int .i8 2, .string (s.extract n (n + m)), .int .i64 n, .int .i64 ((n : Int) + m)], .bool true, .int .i64 0]) (by simp [results, Try.results39, go_sem, HC.out]) rfl ⟨rfl, HB.out _ _⟩

set_option maxRecDepth 100000 in
theorem rnext_num_no (s : ByteArray) (a : Int) (w : World) (n : Nat) (hs : s.size ≤ 1000000) (hst : startI s a = n) (hn : n < s.size) (hk0 : (s[n]'hn).toNat ≠ 40) (hk1 : (s[n]'hn).toNat ≠ 41) (hk2 : (s[n]'hn).toNat ≠ 124) (hk3 : (s[n]'hn).toNat ≠ 58) (dg : Bool) (HDIG : digitN (s[n]'hn).toNat = dg) (m : Nat) (hm : (signs ((byts s).drop n)).length = m) (hdg : dg = true) (hp : 0 < m) (hp1 : m ≤ 100) (hp2 : n + m ≤ s.size) (nu : Bool) (hnu : (((byts (s.extract n (n + m))).all fun c => digitN c.toNat) && (byts (s.extract n (n + m)) == [48] || headB (byts (s.extract n (n + m))) != 48)) = nu) (hnu2 : nu = false) :
    Calls Try.prog 39 #[.string s, .int .i64 a] w fun e w' => e = .returned (.tuple #[.agg #[.int .i8 0, .string ⟨#[]⟩, .int .i64 n, .int .i64 0], .bool false, .int .i64 20]) ∧ Below w.heap.size w w' := by
  have K := fun W => rskip_ok s a W hs
  rw [show fromI a s.size + sk false ((byts s).drop (fromI a s.size)) = startI s a from rfl, hst] at K
  have hB : ∀ c c2, Below w.heap.size w ((w.alloc (.cells c 62)).alloc (.cells c2 62)) := fun c c2 => ((Below.refl _ _).alloc (Nat.le_refl _) _).alloc (by simp) _
  have hc : ∀ c c2 i, ((w.alloc (.cells c 62)).alloc (.cells c2 62)).cell? ⟨w.heap.size, i, none⟩ = c[i]? := fun c c2 i => ((Blk.new w _ c).alloc _).cell i
  have HC := Lib.hid hc
  have HB := Lib.hid hB
  have d1 : decide ((s.size : Int) ≤ n) = false := decide_eq_false (by omega)
  have hnz : (n : Int) < s.size := by omega
  have t1 : (0 : Int) ≤ n := by omega
  obtain ⟨x, hx⟩ : ∃ x : UInt8, s[n]'hn = x := ⟨_, rfl⟩
  rw [hx] at hk0 hk1 hk2 hk3 HDIG
  have b0 : ((x.toNat : Int) == 40) = false := beq_eq_false_iff_ne.2 (by omega)
  have b1 : ((x.toNat : Int) == 41) = false := beq_eq_false_iff_ne.2 (by omega)
  have b2 : ((x.toNat : Int) == 124) = false := beq_eq_false_iff_ne.2 (by omega)
  have b3 : ((x.toNat : Int) == 58) = false := beq_eq_false_iff_ne.2 (by omega)
  have KR : ∀ W, Calls Try.prog 63 #[.string s, .int .i64 (n : Int)] W fun e w' => e = .returned (.int .i64 ((n : Int) + m)) ∧ W = w' := fun W => by
    have h := rrun_ok s n W hs (by omega)
    rw [hm] at h
    exact h
  have b4 : (((n : Int) + m) == (n : Int)) = false := beq_eq_false_iff_ne.2 (by omega)
  have d9 : decide ((100 : Int) < (n : Int) + m - n) = false := decide_eq_false (by omega)
  have t5 : (n : Int) ≤ (n : Int) + m := by omega
  have t6 : (n : Int) + m ≤ s.size := by omega
  have KD : ∀ W, Calls Try.prog 65 #[.int .u8 (x.toNat : Nat)] W fun e w' => e = .returned (.bool dg) ∧ W = w' := fun W => by
    have h := rdigit_ok (w := W) x.toNat
    rw [HDIG] at h
    exact h
  have hus : (s.extract n (n + m)).size = m := by rw [ByteArray.size_extract]; omega
  have KN := fun W => rnumeral_ok (s.extract n (n + m)) W (by omega) (by omega)
  rw [hnu] at KN
  subst hdg hnu2

  clear hst hc hB hk0 hk1 hk2 hk3 hm HDIG hus hnu
  go_enter Try.func39, Try.ntmps39
  go_wp2_with (first
    | (go_at_call 24; refine (K _).mono ?_; rintro e w1 ⟨rfl, rfl⟩)
    | (go_at_call 65; with_reducible refine (KD _).mono ?_; rintro e w1 ⟨rfl, rfl⟩)
    | (go_at_call 66; refine (KN _).mono ?_; rintro e w1 ⟨rfl, rfl⟩)
    | (go_at_call 63; with_reducible refine (KR _).mono ?_; rintro e w1 ⟨rfl, rfl⟩))
  refine bodyPost_ret (v := .tuple #[.agg #[.int .i8 0, .string ⟨#[]⟩, .int .i64 n, .int .i64 0], .bool false, .int .i64 20]) (by simp [results, Try.results39, go_sem, HC.out]) rfl ⟨rfl, HB.out _ _⟩

set_option maxRecDepth 100000 in
theorem rnext_num (s : ByteArray) (a : Int) (w : World) (n : Nat) (hs : s.size ≤ 1000000) (hst : startI s a = n) (hn : n < s.size) (hk0 : (s[n]'hn).toNat ≠ 40) (hk1 : (s[n]'hn).toNat ≠ 41) (hk2 : (s[n]'hn).toNat ≠ 124) (hk3 : (s[n]'hn).toNat ≠ 58) (dg : Bool) (HDIG : digitN (s[n]'hn).toNat = dg) (m : Nat) (hm : (signs ((byts s).drop n)).length = m) (hdg : dg = true) (hp : 0 < m) (hp1 : m ≤ 100) (hp2 : n + m ≤ s.size) (nu : Bool) (hnu : (((byts (s.extract n (n + m))).all fun c => digitN c.toNat) && (byts (s.extract n (n + m)) == [48] || headB (byts (s.extract n (n + m))) != 48)) = nu) (hnu2 : nu = true) :
    Calls Try.prog 39 #[.string s, .int .i64 a] w fun e w' => e = .returned (.tuple #[.agg #[.int .i8 3, .string (s.extract n (n + m)), .int .i64 n, .int .i64 ((n : Int) + m)], .bool true, .int .i64 0]) ∧ Below w.heap.size w w' := by
  have K := fun W => rskip_ok s a W hs
  rw [show fromI a s.size + sk false ((byts s).drop (fromI a s.size)) = startI s a from rfl, hst] at K
  have hB : ∀ c c2, Below w.heap.size w ((w.alloc (.cells c 62)).alloc (.cells c2 62)) := fun c c2 => ((Below.refl _ _).alloc (Nat.le_refl _) _).alloc (by simp) _
  have hc : ∀ c c2 i, ((w.alloc (.cells c 62)).alloc (.cells c2 62)).cell? ⟨w.heap.size, i, none⟩ = c[i]? := fun c c2 i => ((Blk.new w _ c).alloc _).cell i
  have HC := Lib.hid hc
  have HB := Lib.hid hB
  have d1 : decide ((s.size : Int) ≤ n) = false := decide_eq_false (by omega)
  have hnz : (n : Int) < s.size := by omega
  have t1 : (0 : Int) ≤ n := by omega
  obtain ⟨x, hx⟩ : ∃ x : UInt8, s[n]'hn = x := ⟨_, rfl⟩
  rw [hx] at hk0 hk1 hk2 hk3 HDIG
  have b0 : ((x.toNat : Int) == 40) = false := beq_eq_false_iff_ne.2 (by omega)
  have b1 : ((x.toNat : Int) == 41) = false := beq_eq_false_iff_ne.2 (by omega)
  have b2 : ((x.toNat : Int) == 124) = false := beq_eq_false_iff_ne.2 (by omega)
  have b3 : ((x.toNat : Int) == 58) = false := beq_eq_false_iff_ne.2 (by omega)
  have KR : ∀ W, Calls Try.prog 63 #[.string s, .int .i64 (n : Int)] W fun e w' => e = .returned (.int .i64 ((n : Int) + m)) ∧ W = w' := fun W => by
    have h := rrun_ok s n W hs (by omega)
    rw [hm] at h
    exact h
  have b4 : (((n : Int) + m) == (n : Int)) = false := beq_eq_false_iff_ne.2 (by omega)
  have d9 : decide ((100 : Int) < (n : Int) + m - n) = false := decide_eq_false (by omega)
  have t5 : (n : Int) ≤ (n : Int) + m := by omega
  have t6 : (n : Int) + m ≤ s.size := by omega
  have KD : ∀ W, Calls Try.prog 65 #[.int .u8 (x.toNat : Nat)] W fun e w' => e = .returned (.bool dg) ∧ W = w' := fun W => by
    have h := rdigit_ok (w := W) x.toNat
    rw [HDIG] at h
    exact h
  have hus : (s.extract n (n + m)).size = m := by rw [ByteArray.size_extract]; omega
  have KN := fun W => rnumeral_ok (s.extract n (n + m)) W (by omega) (by omega)
  rw [hnu] at KN
  subst hdg hnu2

  clear hst hc hB hk0 hk1 hk2 hk3 hm HDIG hus hnu
  go_enter Try.func39, Try.ntmps39
  go_wp2_with (first
    | (go_at_call 24; refine (K _).mono ?_; rintro e w1 ⟨rfl, rfl⟩)
    | (go_at_call 65; with_reducible refine (KD _).mono ?_; rintro e w1 ⟨rfl, rfl⟩)
    | (go_at_call 66; refine (KN _).mono ?_; rintro e w1 ⟨rfl, rfl⟩)
    | (go_at_call 63; with_reducible refine (KR _).mono ?_; rintro e w1 ⟨rfl, rfl⟩))
  refine bodyPost_ret (v := .tuple #[.agg #[.int .i8 3, .string (s.extract n (n + m)), .int .i64 n, .int .i64 ((n : Int) + m)], .bool true, .int .i64 0]) (by simp [results, Try.results39, go_sem, HC.out]) rfl ⟨rfl, HB.out _ _⟩
end Go.Proofs.Ytephhendkmhggaa

/- The reference's Next, whole. -/
namespace Go.Proofs.Ytephhendkmhggaa
open Go.RowKit

theorem byts_ext (s : ByteArray) (i k : Nat) : byts (s.extract i (i + k)) = ((byts s).drop i).take k := by
  rw [byts, Lib.extract_data, Nat.add_sub_cancel_left]
theorem qat_le : ∀ {r : List UInt8} {q : Nat}, qat r = some q → q ≤ r.length
  | [], q, h => by simp [qat] at h
  | c :: r, q, h => by
    unfold qat at h
    split at h
    · injection h with h; subst h; exact Nat.zero_le _
    · split at h
      · obtain ⟨q', h1, rfl⟩ := Option.map_eq_some_iff.1 h
        have := qat_le h1
        rw [List.length_cons]
        omega
      · cases h
theorem rnext_ok (s : ByteArray) (a : Int) (w : World) (hs : s.size ≤ 1000000) :
    Calls Try.prog 39 #[.string s, .int .i64 a] w fun e w' => NextIs (byts s) (startI s a) e ∧ Below w.heap.size w w' := by
  have hle := startI_le s a
  by_cases hn0 : startI s a = s.size
  · exact (rnext_end s a w hs hn0).mono fun e w' h => ⟨.inl ⟨byts_end (by omega), h.1⟩, h.2⟩
  obtain ⟨n, hst⟩ : ∃ n, startI s a = n := ⟨_, rfl⟩
  rw [hst] at hn0 hle ⊢
  have hn : n < s.size := by omega
  have hd := byts_drop hn
  have hne : (byts s).drop n ≠ [] := by rw [hd]; simp
  have ht : tok ((byts s).drop n) = match byN (s[n]'hn).toNat with
    | 0 => raw 0 [] 1
    | 1 => raw 1 [] 1
    | 2 => tokBar ((byts s).drop (n + 1))
    | 3 => tokKey ((byts s).drop (n + 1))
    | 4 => tokNum ((byts s).drop n)
    | 5 => tokName ((byts s).drop n)
    | _ => none := by rw [hd]; rfl
  have no : ∀ {e : Ending} {w' : World}, tok ((byts s).drop n) = none → (e = .returned (.tuple #[.agg #[.int .i8 0, .string ⟨#[]⟩, .int .i64 n, .int .i64 0], .bool false, .int .i64 20]) ∧ Below w.heap.size w w') → NextIs (byts s) n e ∧ Below w.heap.size w w' := fun h1 h2 => ⟨.inr (.inl ⟨hne, h1, h2.1⟩), h2.2⟩
  have yes : ∀ {e : Ending} {w' : World} (r : Raw) (t : ByteArray), tok ((byts s).drop n) = some r → byts t = r.t → (e = .returned (.tuple #[.agg #[.int .i8 r.k, .string t, .int .i64 n, .int .i64 (n + r.n)], .bool true, .int .i64 0]) ∧ Below w.heap.size w w') → NextIs (byts s) n e ∧ Below w.heap.size w w' := fun r t h1 h2 h3 => ⟨.inr (.inr ⟨r, t, h1, h2, h3.1⟩), h3.2⟩
  have hlen : ((byts s).drop n).length = s.size - n := by rw [List.length_drop, byts_len]
  have hlen1 : ((byts s).drop (n + 1)).length = s.size - (n + 1) := by rw [List.length_drop, byts_len]
  by_cases h40 : (s[n]'hn).toNat = 40
  · rw [h40] at ht
    exact (rnext_open s a w n hs hst hn h40).mono fun e w' h => yes ⟨0, [], 1⟩ ⟨#[]⟩ ht rfl h
  by_cases h41 : (s[n]'hn).toNat = 41
  · rw [h41] at ht
    exact (rnext_close s a w n hs hst hn h41).mono fun e w' h => yes ⟨1, [], 1⟩ ⟨#[]⟩ ht rfl h
  by_cases h124 : (s[n]'hn).toNat = 124
  · rw [h124] at ht
    have ht2 : tok ((byts s).drop n) = tokBar ((byts s).drop (n + 1)) := ht
    rw [tokBar_qat] at ht2
    cases hq : qat ((byts s).drop (n + 1)) with
    | none =>
      rw [hq] at ht2
      exact (rnext_bar_no s a w n hs hst hn h124 hq).mono fun e w' h => no ht2 h
    | some q =>
      rw [hq] at ht2
      dsimp only at ht2
      have hql : q ≤ ((byts s).drop (n + 1)).length := by
        have h := tokBar_qat ((byts s).drop (n + 1))
        exact qat_le hq
      unfold raw at ht2
      rw [List.length_take, Nat.min_eq_left hql] at ht2
      by_cases h100 : q ≤ 100
      · rw [if_pos h100] at ht2
        exact (rnext_bar s a w n hs hst hn h124 q hq h100).mono fun e w' h => yes ⟨2, ((byts s).drop (n + 1)).take q, q + 2⟩ (s.extract (n + 1) (n + 1 + q)) ht2 (byts_ext s (n + 1) q) ⟨h.1.trans (by rw [show ((n + 1 + q + 1 : Nat) : Int) = (n : Int) + ((q + 2 : Nat) : Int) by omega]; rfl), h.2⟩
      · rw [if_neg h100] at ht2
        exact (rnext_bar_long s a w n hs hst hn h124 q hq (by omega)).mono fun e w' h => no ht2 h
  by_cases h58 : (s[n]'hn).toNat = 58
  · rw [h58] at ht
    have ht2 : tok ((byts s).drop n) = tokKey ((byts s).drop (n + 1)) := ht
    have hsl := signs_le ((byts s).drop (n + 1))
    obtain ⟨p, hp⟩ : ∃ p, (signs ((byts s).drop (n + 1))).length = p := ⟨_, rfl⟩
    unfold tokKey at ht2
    by_cases hp0 : p = 0
    · rw [if_pos (List.eq_nil_of_length_eq_zero (by omega))] at ht2
      exact (rnext_key_no s a w n hs hst hn h58 p hp hp0).mono fun e w' h => no ht2 h
    · rw [if_neg (fun e => hp0 (by rw [← hp, e]; rfl))] at ht2
      unfold raw at ht2
      rw [hp] at ht2
      by_cases h100 : p ≤ 100
      · rw [if_pos h100] at ht2
        exact (rnext_key s a w n hs hst hn h58 p hp (by omega) h100 (by omega)).mono fun e w' h => yes ⟨4, signs ((byts s).drop (n + 1)), p + 1⟩ (s.extract (n + 1) (n + 1 + p)) ht2 (by rw [byts_ext, ← hp]; exact take_signs _) ⟨h.1.trans (by rw [show (n : Int) + 1 + p = (n : Int) + ((p + 1 : Nat) : Int) by omega]; rfl), h.2⟩
      · rw [if_neg h100] at ht2
        exact (rnext_key_long s a w n hs hst hn h58 p hp (by omega) (by omega)).mono fun e w' h => no ht2 h
  obtain ⟨m, hm⟩ : ∃ m, (signs ((byts s).drop n)).length = m := ⟨_, rfl⟩
  have hsl := signs_le ((byts s).drop n)
  have hby : byN (s[n]'hn).toNat = if digitN (s[n]'hn).toNat then 4 else if signN (s[n]'hn).toNat then 5 else 6 := by
    unfold byN
    rw [if_neg h40, if_neg h41, if_neg h124, if_neg h58]
  have hx8 := (s[n]'hn).toNat_lt
  have hds : digitN (s[n]'hn).toNat = true → signN (s[n]'hn).toNat = true := fun h => digit_sign ⟨(s[n]'hn).toNat, hx8⟩ (by show byN (s[n]'hn).toNat = 4; rw [hby, if_pos h])
  have hsd := signs_drop hn
  cases hsg : signN (s[n]'hn).toNat with
  | false =>
    have hdg : digitN (s[n]'hn).toNat = false := by
      cases h : digitN (s[n]'hn).toNat with
      | false => rfl
      | true => rw [hds h] at hsg; cases hsg
    rw [hby, hdg, hsg] at ht
    rw [hsg] at hsd
    have hm0 : m = 0 := by rw [← hm, hsd]; rfl
    exact (rnext_none s a w n hs hst hn h40 h41 h124 h58 _ rfl m hm hm0).mono fun e w' h => no ht h
  | true =>
    rw [hsg] at hsd
    have hm0 : 0 < m := by rw [← hm, hsd]; simp
    have hex : byts (s.extract n (n + m)) = signs ((byts s).drop n) := by rw [byts_ext, ← hm]; exact take_signs _
    by_cases h100 : m ≤ 100
    · cases hdg : digitN (s[n]'hn).toNat with
      | false =>
        rw [hby, hdg, hsg] at ht
        have ht2 : tok ((byts s).drop n) = tokName ((byts s).drop n) := ht
        unfold tokName raw at ht2
        dsimp only at ht2
        rw [hm, if_pos h100] at ht2
        exact (rnext_name s a w n hs hst hn h40 h41 h124 h58 _ rfl m hm hdg hm0 h100 (by omega)).mono fun e w' h => yes ⟨2, signs ((byts s).drop n), m⟩ (s.extract n (n + m)) ht2 hex h
      | true =>
        rw [hby, hdg] at ht
        have ht2 : tok ((byts s).drop n) = tokNum ((byts s).drop n) := ht
        unfold tokNum raw at ht2
        dsimp only at ht2
        rw [hm, if_pos h100, ← hex] at ht2
        obtain ⟨nu, hnu⟩ : ∃ nu, (((byts (s.extract n (n + m))).all fun c => digitN c.toNat) && (byts (s.extract n (n + m)) == [48] || headB (byts (s.extract n (n + m))) != 48)) = nu := ⟨_, rfl⟩
        rw [hnu] at ht2
        cases hnn : nu with
        | false =>
          rw [hnn] at ht2
          exact (rnext_num_no s a w n hs hst hn h40 h41 h124 h58 _ rfl m hm hdg hm0 h100 (by omega) nu hnu hnn).mono fun e w' h => no ht2 h
        | true =>
          rw [hnn] at ht2
          exact (rnext_num s a w n hs hst hn h40 h41 h124 h58 _ rfl m hm hdg hm0 h100 (by omega) nu hnu hnn).mono fun e w' h => yes ⟨3, byts (s.extract n (n + m)), m⟩ (s.extract n (n + m)) ht2 rfl h
    · have hno : tok ((byts s).drop n) = none := by
        rw [ht, hby]
        cases hdg : digitN (s[n]'hn).toNat with
        | false =>
          rw [if_neg (by decide), hsg, if_pos rfl]
          show tokName ((byts s).drop n) = none
          unfold tokName raw
          dsimp only
          rw [hm, if_neg h100]
        | true =>
          rw [if_pos rfl]
          show tokNum ((byts s).drop n) = none
          unfold tokNum raw
          dsimp only
          rw [hm, if_neg h100]
          split <;> rfl
      exact (rnext_long s a w n hs hst hn h40 h41 h124 h58 _ rfl m hm (by omega) (by omega)).mono fun e w' h => no hno h
end Go.Proofs.Ytephhendkmhggaa

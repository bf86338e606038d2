/- The reference's Next: the cases. Printed by gen_E.py. -/
import Derived.Test.YtiklliiamljogaaGreatDoorRefE
namespace Go.Proofs.YtiklliiamljogaaGreatDoor
open Go.RowKit

set_option maxRecDepth 100000 in
theorem rnext_close (s : ByteArray) (a : Int) (w : World) (n : Nat) (hs : s.size ≤ 1000000) (hst : startI s a = n) (hn : n < s.size) (hk : (s[n]'hn).toNat = 41) :
    Calls Tryz.prog 93 #[.string s, .int .i64 a] w fun e w' => e = .returned (.tuple #[.agg #[.int .i8 1, .string ⟨#[]⟩, .int .i64 n, .int .i64 (n + 1)], .bool true, .int .i64 0]) ∧ Below w.heap.size w w' := by
  have K := fun W => rskip_ok s a W hs
  rw [show fromI a s.size + sk false ((byts s).drop (fromI a s.size)) = startI s a from rfl, hst] at K
  have KR := fun W => rrun_ok s n W hs (by omega)
  have hB : ∀ c c2, Below w.heap.size w ((w.alloc (.cells c 118)).alloc (.cells c2 118)) := fun c c2 => ((Below.refl _ _).alloc (Nat.le_refl _) _).alloc (by simp) _
  have hc : ∀ c c2 i, ((w.alloc (.cells c 118)).alloc (.cells c2 118)).cell? ⟨w.heap.size, i, none⟩ = c[i]? := fun c c2 i => ((Blk.new w _ c).alloc _).cell i
  have HC := Lib.hid hc
  have HB := Lib.hid hB
  have d1 : decide ((s.size : Int) ≤ n) = false := decide_eq_false (by omega)
  have hnz : (n : Int) < s.size := by omega
  have t1 : (0 : Int) ≤ n := by omega
  obtain ⟨x, hx⟩ : ∃ x : UInt8, s[n]'hn = x := ⟨_, rfl⟩
  rw [hx] at hk
  have b0 : ((x.toNat : Int) == 40) = false := by rw [hk]; rfl
  have b1 : ((x.toNat : Int) == 41) = true := by rw [hk]; rfl
  generalize (signs ((byts s).drop n)).length = m at KR

  clear hst hc hB hk
  go_enter Tryz.func93, Tryz.ntmps93
  go_wp2_with (first
    | (go_at_call 64; refine (K _).mono ?_; rintro e w1 ⟨rfl, rfl⟩)

    | (go_at_call 110; with_reducible refine (KR _).mono ?_; rintro e w1 ⟨rfl, rfl⟩))
  refine bodyPost_ret (v := .tuple #[.agg #[.int .i8 1, .string ⟨#[]⟩, .int .i64 n, .int .i64 (n + 1)], .bool true, .int .i64 0]) (by simp [results, Tryz.results93, go_sem, HC.out]) rfl ⟨rfl, HB.out _ _⟩

set_option maxRecDepth 100000 in
theorem rnext_bar_no (s : ByteArray) (a : Int) (w : World) (n : Nat) (hs : s.size ≤ 1000000) (hst : startI s a = n) (hn : n < s.size) (hk : (s[n]'hn).toNat = 124) (hq : qat ((byts s).drop (n + 1)) = none) :
    Calls Tryz.prog 93 #[.string s, .int .i64 a] w fun e w' => e = .returned (.tuple #[.agg #[.int .i8 0, .string ⟨#[]⟩, .int .i64 n, .int .i64 0], .bool false, .int .i64 20]) ∧ Below w.heap.size w w' := by
  have K := fun W => rskip_ok s a W hs
  rw [show fromI a s.size + sk false ((byts s).drop (fromI a s.size)) = startI s a from rfl, hst] at K
  have KR := fun W => rrun_ok s n W hs (by omega)
  have hB : ∀ c c2, Below w.heap.size w ((w.alloc (.cells c 118)).alloc (.cells c2 118)) := fun c c2 => ((Below.refl _ _).alloc (Nat.le_refl _) _).alloc (by simp) _
  have hc : ∀ c c2 i, ((w.alloc (.cells c 118)).alloc (.cells c2 118)).cell? ⟨w.heap.size, i, none⟩ = c[i]? := fun c c2 i => ((Blk.new w _ c).alloc _).cell i
  have HC := Lib.hid hc
  have HB := Lib.hid hB
  have d1 : decide ((s.size : Int) ≤ n) = false := decide_eq_false (by omega)
  have hnz : (n : Int) < s.size := by omega
  have t1 : (0 : Int) ≤ n := by omega
  obtain ⟨x, hx⟩ : ∃ x : UInt8, s[n]'hn = x := ⟨_, rfl⟩
  rw [hx] at hk
  have b0 : ((x.toNat : Int) == 40) = false := by rw [hk]; rfl
  have b1 : ((x.toNat : Int) == 41) = false := by rw [hk]; rfl
  have b2 : ((x.toNat : Int) == 124) = true := by rw [hk]; rfl
  have KQ := fun W => rquoted_ok s n W hs hn
  unfold QuotedIs at KQ
  rw [hq] at KQ
  dsimp only at KQ
  generalize (signs ((byts s).drop n)).length = m at KR

  clear hst hc hB hk hq
  go_enter Tryz.func93, Tryz.ntmps93
  go_wp2_with (first
    | (go_at_call 64; refine (K _).mono ?_; rintro e w1 ⟨rfl, rfl⟩)
    | (go_at_call 111; refine (KQ _).mono ?_; rintro e w1 ⟨rfl, rfl⟩)
    | (go_at_call 110; with_reducible refine (KR _).mono ?_; rintro e w1 ⟨rfl, rfl⟩))
  refine bodyPost_ret (v := .tuple #[.agg #[.int .i8 0, .string ⟨#[]⟩, .int .i64 n, .int .i64 0], .bool false, .int .i64 20]) (by simp [results, Tryz.results93, go_sem, HC.out]) rfl ⟨rfl, HB.out _ _⟩

set_option maxRecDepth 100000 in
theorem rnext_bar_long (s : ByteArray) (a : Int) (w : World) (n : Nat) (hs : s.size ≤ 1000000) (hst : startI s a = n) (hn : n < s.size) (hk : (s[n]'hn).toNat = 124) (q : Nat) (hq : qat ((byts s).drop (n + 1)) = some q) (hq1 : 100 < q) :
    Calls Tryz.prog 93 #[.string s, .int .i64 a] w fun e w' => e = .returned (.tuple #[.agg #[.int .i8 0, .string ⟨#[]⟩, .int .i64 n, .int .i64 0], .bool false, .int .i64 20]) ∧ Below w.heap.size w w' := by
  have K := fun W => rskip_ok s a W hs
  rw [show fromI a s.size + sk false ((byts s).drop (fromI a s.size)) = startI s a from rfl, hst] at K
  have KR := fun W => rrun_ok s n W hs (by omega)
  have hB : ∀ c c2, Below w.heap.size w ((w.alloc (.cells c 118)).alloc (.cells c2 118)) := fun c c2 => ((Below.refl _ _).alloc (Nat.le_refl _) _).alloc (by simp) _
  have hc : ∀ c c2 i, ((w.alloc (.cells c 118)).alloc (.cells c2 118)).cell? ⟨w.heap.size, i, none⟩ = c[i]? := fun c c2 i => ((Blk.new w _ c).alloc _).cell i
  have HC := Lib.hid hc
  have HB := Lib.hid hB
  have d1 : decide ((s.size : Int) ≤ n) = false := decide_eq_false (by omega)
  have hnz : (n : Int) < s.size := by omega
  have t1 : (0 : Int) ≤ n := by omega
  obtain ⟨x, hx⟩ : ∃ x : UInt8, s[n]'hn = x := ⟨_, rfl⟩
  rw [hx] at hk
  have b0 : ((x.toNat : Int) == 40) = false := by rw [hk]; rfl
  have b1 : ((x.toNat : Int) == 41) = false := by rw [hk]; rfl
  have b2 : ((x.toNat : Int) == 124) = true := by rw [hk]; rfl
  have KQ := fun W => rquoted_ok s n W hs hn
  unfold QuotedIs at KQ
  rw [hq] at KQ
  dsimp only at KQ
  generalize (signs ((byts s).drop n)).length = m at KR
  have d9 : decide (q ≤ 100) = false := decide_eq_false (by omega)
  rw [d9] at KQ

  clear hst hc hB hk hq
  go_enter Tryz.func93, Tryz.ntmps93
  go_wp2_with (first
    | (go_at_call 64; refine (K _).mono ?_; rintro e w1 ⟨rfl, rfl⟩)
    | (go_at_call 111; refine (KQ _).mono ?_; rintro e w1 ⟨⟨_, rfl⟩, rfl⟩)
    | (go_at_call 110; with_reducible refine (KR _).mono ?_; rintro e w1 ⟨rfl, rfl⟩))
  refine bodyPost_ret (v := .tuple #[.agg #[.int .i8 0, .string ⟨#[]⟩, .int .i64 n, .int .i64 0], .bool false, .int .i64 20]) (by simp [results, Tryz.results93, go_sem, HC.out]) rfl ⟨rfl, HB.out _ _⟩

set_option maxRecDepth 100000 in
theorem rnext_bar (s : ByteArray) (a : Int) (w : World) (n : Nat) (hs : s.size ≤ 1000000) (hst : startI s a = n) (hn : n < s.size) (hk : (s[n]'hn).toNat = 124) (q : Nat) (hq : qat ((byts s).drop (n + 1)) = some q) (hq1 : q ≤ 100) :
    Calls Tryz.prog 93 #[.string s, .int .i64 a] w fun e w' => e = .returned (.tuple #[.agg #[.int .i8 2, .string (s.extract (n + 1) (n + 1 + q)), .int .i64 n, .int .i64 (n + 1 + q + 1 : Nat)], .bool true, .int .i64 0]) ∧ Below w.heap.size w w' := by
  have K := fun W => rskip_ok s a W hs
  rw [show fromI a s.size + sk false ((byts s).drop (fromI a s.size)) = startI s a from rfl, hst] at K
  have KR := fun W => rrun_ok s n W hs (by omega)
  have hB : ∀ c c2, Below w.heap.size w ((w.alloc (.cells c 118)).alloc (.cells c2 118)) := fun c c2 => ((Below.refl _ _).alloc (Nat.le_refl _) _).alloc (by simp) _
  have hc : ∀ c c2 i, ((w.alloc (.cells c 118)).alloc (.cells c2 118)).cell? ⟨w.heap.size, i, none⟩ = c[i]? := fun c c2 i => ((Blk.new w _ c).alloc _).cell i
  have HC := Lib.hid hc
  have HB := Lib.hid hB
  have d1 : decide ((s.size : Int) ≤ n) = false := decide_eq_false (by omega)
  have hnz : (n : Int) < s.size := by omega
  have t1 : (0 : Int) ≤ n := by omega
  obtain ⟨x, hx⟩ : ∃ x : UInt8, s[n]'hn = x := ⟨_, rfl⟩
  rw [hx] at hk
  have b0 : ((x.toNat : Int) == 40) = false := by rw [hk]; rfl
  have b1 : ((x.toNat : Int) == 41) = false := by rw [hk]; rfl
  have b2 : ((x.toNat : Int) == 124) = true := by rw [hk]; rfl
  have KQ := fun W => rquoted_ok s n W hs hn
  unfold QuotedIs at KQ
  rw [hq] at KQ
  dsimp only at KQ
  generalize (signs ((byts s).drop n)).length = m at KR
  have d9 : decide (q ≤ 100) = true := decide_eq_true hq1
  rw [d9] at KQ

  clear hst hc hB hk hq
  go_enter Tryz.func93, Tryz.ntmps93
  go_wp2_with (first
    | (go_at_call 64; refine (K _).mono ?_; rintro e w1 ⟨rfl, rfl⟩)
    | (go_at_call 111; refine (KQ _).mono ?_; rintro e w1 ⟨⟨_, rfl⟩, rfl⟩)
    | (go_at_call 110; with_reducible refine (KR _).mono ?_; rintro e w1 ⟨rfl, rfl⟩))
  refine bodyPost_ret (v := .tuple #[.agg #[.int .i8 2, .string (s.extract (n + 1) (n + 1 + q)), .int .i64 n, .int .i64 (n + 1 + q + 1 : Nat)], .bool true, .int .i64 0]) (by simp [results, Tryz.results93, go_sem, HC.out]) rfl ⟨rfl, HB.out _ _⟩

set_option maxRecDepth 100000 in
theorem rnext_key_no (s : ByteArray) (a : Int) (w : World) (n : Nat) (hs : s.size ≤ 1000000) (hst : startI s a = n) (hn : n < s.size) (hk : (s[n]'hn).toNat = 58) (p : Nat) (hm : (signs ((byts s).drop (n + 1))).length = p) (hp : p = 0) :
    Calls Tryz.prog 93 #[.string s, .int .i64 a] w fun e w' => e = .returned (.tuple #[.agg #[.int .i8 0, .string ⟨#[]⟩, .int .i64 n, .int .i64 0], .bool false, .int .i64 20]) ∧ Below w.heap.size w w' := by
  have K := fun W => rskip_ok s a W hs
  rw [show fromI a s.size + sk false ((byts s).drop (fromI a s.size)) = startI s a from rfl, hst] at K
  have KR := fun W => rrun_ok s n W hs (by omega)
  have hB : ∀ c c2, Below w.heap.size w ((w.alloc (.cells c 118)).alloc (.cells c2 118)) := fun c c2 => ((Below.refl _ _).alloc (Nat.le_refl _) _).alloc (by simp) _
  have hc : ∀ c c2 i, ((w.alloc (.cells c 118)).alloc (.cells c2 118)).cell? ⟨w.heap.size, i, none⟩ = c[i]? := fun c c2 i => ((Blk.new w _ c).alloc _).cell i
  have HC := Lib.hid hc
  have HB := Lib.hid hB
  have d1 : decide ((s.size : Int) ≤ n) = false := decide_eq_false (by omega)
  have hnz : (n : Int) < s.size := by omega
  have t1 : (0 : Int) ≤ n := by omega
  obtain ⟨x, hx⟩ : ∃ x : UInt8, s[n]'hn = x := ⟨_, rfl⟩
  rw [hx] at hk
  have b0 : ((x.toNat : Int) == 40) = false := by rw [hk]; rfl
  have b1 : ((x.toNat : Int) == 41) = false := by rw [hk]; rfl
  have b2 : ((x.toNat : Int) == 124) = false := by rw [hk]; rfl
  have b3 : ((x.toNat : Int) == 58) = true := by rw [hk]; rfl
  have KS : ∀ W, Calls Tryz.prog 110 #[.string s, .int .i64 ((n : Int) + 1)] W fun e w' => e = .returned (.int .i64 ((n : Int) + 1 + p)) ∧ W = w' := fun W => by
    have h := rrun_ok s (n + 1) W hs (by omega)
    rw [hm] at h
    exact h
  generalize (signs ((byts s).drop n)).length = m at KR
  subst hp

  clear hst hc hB hk hm
  go_enter Tryz.func93, Tryz.ntmps93
  go_wp2_with (first
    | (go_at_call 64; refine (K _).mono ?_; rintro e w1 ⟨rfl, rfl⟩)
    | (go_at_call 110; with_reducible refine (KS _).mono ?_; rintro e w1 ⟨rfl, rfl⟩)
    | (go_at_call 110; with_reducible refine (KR _).mono ?_; rintro e w1 ⟨rfl, rfl⟩))
  refine bodyPost_ret (v := .tuple #[.agg #[.int .i8 0, .string ⟨#[]⟩, .int .i64 n, .int .i64 0], .bool false, .int .i64 20]) (by simp [results, Tryz.results93, go_sem, HC.out]) rfl ⟨rfl, HB.out _ _⟩

set_option maxRecDepth 100000 in
theorem rnext_key_long (s : ByteArray) (a : Int) (w : World) (n : Nat) (hs : s.size ≤ 1000000) (hst : startI s a = n) (hn : n < s.size) (hk : (s[n]'hn).toNat = 58) (p : Nat) (hm : (signs ((byts s).drop (n + 1))).length = p) (hp : 100 < p) (hp2 : p ≤ 1000000) :
    Calls Tryz.prog 93 #[.string s, .int .i64 a] w fun e w' => e = .returned (.tuple #[.agg #[.int .i8 0, .string ⟨#[]⟩, .int .i64 n, .int .i64 0], .bool false, .int .i64 20]) ∧ Below w.heap.size w w' := by
  have K := fun W => rskip_ok s a W hs
  rw [show fromI a s.size + sk false ((byts s).drop (fromI a s.size)) = startI s a from rfl, hst] at K
  have KR := fun W => rrun_ok s n W hs (by omega)
  have hB : ∀ c c2, Below w.heap.size w ((w.alloc (.cells c 118)).alloc (.cells c2 118)) := fun c c2 => ((Below.refl _ _).alloc (Nat.le_refl _) _).alloc (by simp) _
  have hc : ∀ c c2 i, ((w.alloc (.cells c 118)).alloc (.cells c2 118)).cell? ⟨w.heap.size, i, none⟩ = c[i]? := fun c c2 i => ((Blk.new w _ c).alloc _).cell i
  have HC := Lib.hid hc
  have HB := Lib.hid hB
  have d1 : decide ((s.size : Int) ≤ n) = false := decide_eq_false (by omega)
  have hnz : (n : Int) < s.size := by omega
  have t1 : (0 : Int) ≤ n := by omega
  obtain ⟨x, hx⟩ : ∃ x : UInt8, s[n]'hn = x := ⟨_, rfl⟩
  rw [hx] at hk
  have b0 : ((x.toNat : Int) == 40) = false := by rw [hk]; rfl
  have b1 : ((x.toNat : Int) == 41) = false := by rw [hk]; rfl
  have b2 : ((x.toNat : Int) == 124) = false := by rw [hk]; rfl
  have b3 : ((x.toNat : Int) == 58) = true := by rw [hk]; rfl
  have KS : ∀ W, Calls Tryz.prog 110 #[.string s, .int .i64 ((n : Int) + 1)] W fun e w' => e = .returned (.int .i64 ((n : Int) + 1 + p)) ∧ W = w' := fun W => by
    have h := rrun_ok s (n + 1) W hs (by omega)
    rw [hm] at h
    exact h
  generalize (signs ((byts s).drop n)).length = m at KR
  have b4 : (((n : Int) + 1 + p) == (n : Int) + 1) = false := beq_eq_false_iff_ne.2 (by omega)
  have d9 : decide ((101 : Int) < (n : Int) + 1 + p - n) = true := decide_eq_true (by omega)

  clear hst hc hB hk hm
  go_enter Tryz.func93, Tryz.ntmps93
  go_wp2_with (first
    | (go_at_call 64; refine (K _).mono ?_; rintro e w1 ⟨rfl, rfl⟩)
    | (go_at_call 110; with_reducible refine (KS _).mono ?_; rintro e w1 ⟨rfl, rfl⟩)
    | (go_at_call 110; with_reducible refine (KR _).mono ?_; rintro e w1 ⟨rfl, rfl⟩))
  refine bodyPost_ret (v := .tuple #[.agg #[.int .i8 0, .string ⟨#[]⟩, .int .i64 n, .int .i64 0], .bool false, .int .i64 20]) (by simp [results, Tryz.results93, go_sem, HC.out]) rfl ⟨rfl, HB.out _ _⟩

set_option maxRecDepth 100000 in
theorem rnext_key (s : ByteArray) (a : Int) (w : World) (n : Nat) (hs : s.size ≤ 1000000) (hst : startI s a = n) (hn : n < s.size) (hk : (s[n]'hn).toNat = 58) (p : Nat) (hm : (signs ((byts s).drop (n + 1))).length = p) (hp : 0 < p) (hp1 : p ≤ 100) (hp2 : n + 1 + p ≤ s.size) :
    Calls Tryz.prog 93 #[.string s, .int .i64 a] w fun e w' => e = .returned (.tuple #[.agg #[.int .i8 4, .string (s.extract (n + 1) (n + 1 + p)), .int .i64 n, .int .i64 ((n : Int) + 1 + p)], .bool true, .int .i64 0]) ∧ Below w.heap.size w w' := by
  have K := fun W => rskip_ok s a W hs
  rw [show fromI a s.size + sk false ((byts s).drop (fromI a s.size)) = startI s a from rfl, hst] at K
  have KR := fun W => rrun_ok s n W hs (by omega)
  have hB : ∀ c c2, Below w.heap.size w ((w.alloc (.cells c 118)).alloc (.cells c2 118)) := fun c c2 => ((Below.refl _ _).alloc (Nat.le_refl _) _).alloc (by simp) _
  have hc : ∀ c c2 i, ((w.alloc (.cells c 118)).alloc (.cells c2 118)).cell? ⟨w.heap.size, i, none⟩ = c[i]? := fun c c2 i => ((Blk.new w _ c).alloc _).cell i
  have HC := Lib.hid hc
  have HB := Lib.hid hB
  have d1 : decide ((s.size : Int) ≤ n) = false := decide_eq_false (by omega)
  have hnz : (n : Int) < s.size := by omega
  have t1 : (0 : Int) ≤ n := by omega
  obtain ⟨x, hx⟩ : ∃ x : UInt8, s[n]'hn = x := ⟨_, rfl⟩
  rw [hx] at hk
  have b0 : ((x.toNat : Int) == 40) = false := by rw [hk]; rfl
  have b1 : ((x.toNat : Int) == 41) = false := by rw [hk]; rfl
  have b2 : ((x.toNat : Int) == 124) = false := by rw [hk]; rfl
  have b3 : ((x.toNat : Int) == 58) = true := by rw [hk]; rfl
  have KS : ∀ W, Calls Tryz.prog 110 #[.string s, .int .i64 ((n : Int) + 1)] W fun e w' => e = .returned (.int .i64 ((n : Int) + 1 + p)) ∧ W = w' := fun W => by
    have h := rrun_ok s (n + 1) W hs (by omega)
    rw [hm] at h
    exact h
  generalize (signs ((byts s).drop n)).length = m at KR
  have b4 : (((n : Int) + 1 + p) == (n : Int) + 1) = false := beq_eq_false_iff_ne.2 (by omega)
  have d9 : decide ((101 : Int) < (n : Int) + 1 + p - n) = false := decide_eq_false (by omega)
  have t5 : (n : Int) + 1 ≤ (n : Int) + 1 + p := by omega
  have t6 : (n : Int) + 1 + p ≤ s.size := by omega

  clear hst hc hB hk hm
  go_enter Tryz.func93, Tryz.ntmps93
  go_wp2_with (first
    | (go_at_call 64; refine (K _).mono ?_; rintro e w1 ⟨rfl, rfl⟩)
    | (go_at_call 110; with_reducible refine (KS _).mono ?_; rintro e w1 ⟨rfl, rfl⟩)
    | (go_at_call 110; with_reducible refine (KR _).mono ?_; rintro e w1 ⟨rfl, rfl⟩))
  refine bodyPost_ret (v := .tuple #[.agg #[.int .i8 4, .string (s.extract (n + 1) (n + 1 + p)), .int .i64 n, .int .i64 ((n : Int) + 1 + p)], .bool true, .int .i64 0]) (by simp [results, Tryz.results93, go_sem, HC.out]) rfl ⟨rfl, HB.out _ _⟩
end Go.Proofs.YtiklliiamljogaaGreatDoor

/- The reference's Next: the cases of names and numerals. Printed by gen_E.py 2. -/
namespace Go.Proofs.YtiklliiamljogaaGreatDoor
open Go.RowKit

set_option maxRecDepth 100000 in
theorem rnext_none (s : ByteArray) (a : Int) (w : World) (n : Nat) (hs : s.size ≤ 1000000) (hst : startI s a = n) (hn : n < s.size) (hk0 : (s[n]'hn).toNat ≠ 40) (hk1 : (s[n]'hn).toNat ≠ 41) (hk2 : (s[n]'hn).toNat ≠ 124) (hk3 : (s[n]'hn).toNat ≠ 58) (dg : Bool) (HDIG : digitN (s[n]'hn).toNat = dg) (m : Nat) (hm : (signs ((byts s).drop n)).length = m) (hp : m = 0) :
    Calls Tryz.prog 93 #[.string s, .int .i64 a] w fun e w' => e = .returned (.tuple #[.agg #[.int .i8 0, .string ⟨#[]⟩, .int .i64 n, .int .i64 0], .bool false, .int .i64 20]) ∧ Below w.heap.size w w' := by
  have HDIG0 := HDIG
  clear HDIG0
  have K := fun W => rskip_ok s a W hs
  rw [show fromI a s.size + sk false ((byts s).drop (fromI a s.size)) = startI s a from rfl, hst] at K
  have hB : ∀ c c2, Below w.heap.size w ((w.alloc (.cells c 118)).alloc (.cells c2 118)) := fun c c2 => ((Below.refl _ _).alloc (Nat.le_refl _) _).alloc (by simp) _
  have hc : ∀ c c2 i, ((w.alloc (.cells c 118)).alloc (.cells c2 118)).cell? ⟨w.heap.size, i, none⟩ = c[i]? := fun c c2 i => ((Blk.new w _ c).alloc _).cell i
  have HC := Lib.hid hc
  have HB := Lib.hid hB
  have d1 : decide ((s.size : Int) ≤ n) = false := decide_eq_false (by omega)
  have hnz : (n : Int) < s.size := by omega
  have t1 : (0 : Int) ≤ n := by omega
  obtain ⟨x, hx⟩ : ∃ x : UInt8, s[n]'hn = x := ⟨_, rfl⟩
  rw [hx] at hk0 hk1 hk2 hk3 HDIG
  have b0 : ((x.toNat : Int) == 40) = false := beq_eq_false_iff_ne.2 (by omega)
  have b1 : ((x.toNat : Int) == 41) = false := beq_eq_false_iff_ne.2 (by omega)
  have b2 : ((x.toNat : Int) == 124) = false := beq_eq_false_iff_ne.2 (by omega)
  have b3 : ((x.toNat : Int) == 58) = false := beq_eq_false_iff_ne.2 (by omega)
  have KR : ∀ W, Calls Tryz.prog 110 #[.string s, .int .i64 (n : Int)] W fun e w' => e = .returned (.int .i64 ((n : Int) + m)) ∧ W = w' := fun W => by
    have h := rrun_ok s n W hs (by omega)
    rw [hm] at h
    exact h
  subst hp

  clear hst hc hB hk0 hk1 hk2 hk3 hm HDIG
  go_enter Tryz.func93, Tryz.ntmps93
  go_wp2_with (first
    | (go_at_call 64; refine (K _).mono ?_; rintro e w1 ⟨rfl, rfl⟩)

    | (go_at_call 110; with_reducible refine (KR _).mono ?_; rintro e w1 ⟨rfl, rfl⟩))
  refine bodyPost_ret (v := .tuple #[.agg #[.int .i8 0, .string ⟨#[]⟩, .int .i64 n, .int .i64 0], .bool false, .int .i64 20]) (by simp [results, Tryz.results93, go_sem, HC.out]) rfl ⟨rfl, HB.out _ _⟩

set_option maxRecDepth 100000 in
theorem rnext_long (s : ByteArray) (a : Int) (w : World) (n : Nat) (hs : s.size ≤ 1000000) (hst : startI s a = n) (hn : n < s.size) (hk0 : (s[n]'hn).toNat ≠ 40) (hk1 : (s[n]'hn).toNat ≠ 41) (hk2 : (s[n]'hn).toNat ≠ 124) (hk3 : (s[n]'hn).toNat ≠ 58) (dg : Bool) (HDIG : digitN (s[n]'hn).toNat = dg) (m : Nat) (hm : (signs ((byts s).drop n)).length = m) (hp : 100 < m) (hp2 : m ≤ 1000000) :
    Calls Tryz.prog 93 #[.string s, .int .i64 a] w fun e w' => e = .returned (.tuple #[.agg #[.int .i8 0, .string ⟨#[]⟩, .int .i64 n, .int .i64 0], .bool false, .int .i64 20]) ∧ Below w.heap.size w w' := by
  have HDIG0 := HDIG
  clear HDIG0
  have K := fun W => rskip_ok s a W hs
  rw [show fromI a s.size + sk false ((byts s).drop (fromI a s.size)) = startI s a from rfl, hst] at K
  have hB : ∀ c c2, Below w.heap.size w ((w.alloc (.cells c 118)).alloc (.cells c2 118)) := fun c c2 => ((Below.refl _ _).alloc (Nat.le_refl _) _).alloc (by simp) _
  have hc : ∀ c c2 i, ((w.alloc (.cells c 118)).alloc (.cells c2 118)).cell? ⟨w.heap.size, i, none⟩ = c[i]? := fun c c2 i => ((Blk.new w _ c).alloc _).cell i
  have HC := Lib.hid hc
  have HB := Lib.hid hB
  have d1 : decide ((s.size : Int) ≤ n) = false := decide_eq_false (by omega)
  have hnz : (n : Int) < s.size := by omega
  have t1 : (0 : Int) ≤ n := by omega
  obtain ⟨x, hx⟩ : ∃ x : UInt8, s[n]'hn = x := ⟨_, rfl⟩
  rw [hx] at hk0 hk1 hk2 hk3 HDIG
  have b0 : ((x.toNat : Int) == 40) = false := beq_eq_false_iff_ne.2 (by omega)
  have b1 : ((x.toNat : Int) == 41) = false := beq_eq_false_iff_ne.2 (by omega)
  have b2 : ((x.toNat : Int) == 124) = false := beq_eq_false_iff_ne.2 (by omega)
  have b3 : ((x.toNat : Int) == 58) = false := beq_eq_false_iff_ne.2 (by omega)
  have KR : ∀ W, Calls Tryz.prog 110 #[.string s, .int .i64 (n : Int)] W fun e w' => e = .returned (.int .i64 ((n : Int) + m)) ∧ W = w' := fun W => by
    have h := rrun_ok s n W hs (by omega)
    rw [hm] at h
    exact h
  have b4 : (((n : Int) + m) == (n : Int)) = false := beq_eq_false_iff_ne.2 (by omega)
  have d9 : decide ((100 : Int) < (n : Int) + m - n) = true := decide_eq_true (by omega)

  clear hst hc hB hk0 hk1 hk2 hk3 hm HDIG
  go_enter Tryz.func93, Tryz.ntmps93
  go_wp2_with (first
    | (go_at_call 64; refine (K _).mono ?_; rintro e w1 ⟨rfl, rfl⟩)

    | (go_at_call 110; with_reducible refine (KR _).mono ?_; rintro e w1 ⟨rfl, rfl⟩))
  refine bodyPost_ret (v := .tuple #[.agg #[.int .i8 0, .string ⟨#[]⟩, .int .i64 n, .int .i64 0], .bool false, .int .i64 20]) (by simp [results, Tryz.results93, go_sem, HC.out]) rfl ⟨rfl, HB.out _ _⟩

set_option maxRecDepth 100000 in
theorem rnext_name (s : ByteArray) (a : Int) (w : World) (n : Nat) (hs : s.size ≤ 1000000) (hst : startI s a = n) (hn : n < s.size) (hk0 : (s[n]'hn).toNat ≠ 40) (hk1 : (s[n]'hn).toNat ≠ 41) (hk2 : (s[n]'hn).toNat ≠ 124) (hk3 : (s[n]'hn).toNat ≠ 58) (dg : Bool) (HDIG : digitN (s[n]'hn).toNat = dg) (m : Nat) (hm : (signs ((byts s).drop n)).length = m) (hdg : dg = false) (hp : 0 < m) (hp1 : m ≤ 100) (hp2 : n + m ≤ s.size) :
    Calls Tryz.prog 93 #[.string s, .int .i64 a] w fun e w' => e = .returned (.tuple #[.agg #[.int .i8 2, .string (s.extract n (n + m)), .int .i64 n, .int .i64 ((n : Int) + m)], .bool true, .int .i64 0]) ∧ Below w.heap.size w w' := by
  have K := fun W => rskip_ok s a W hs
  rw [show fromI a s.size + sk false ((byts s).drop (fromI a s.size)) = startI s a from rfl, hst] at K
  have hB : ∀ c c2, Below w.heap.size w ((w.alloc (.cells c 118)).alloc (.cells c2 118)) := fun c c2 => ((Below.refl _ _).alloc (Nat.le_refl _) _).alloc (by simp) _
  have hc : ∀ c c2 i, ((w.alloc (.cells c 118)).alloc (.cells c2 118)).cell? ⟨w.heap.size, i, none⟩ = c[i]? := fun c c2 i => ((Blk.new w _ c).alloc _).cell i
  have HC := Lib.hid hc
  have HB := Lib.hid hB
  have d1 : decide ((s.size : Int) ≤ n) = false := decide_eq_false (by omega)
  have hnz : (n : Int) < s.size := by omega
  have t1 : (0 : Int) ≤ n := by omega
  obtain ⟨x, hx⟩ : ∃ x : UInt8, s[n]'hn = x := ⟨_, rfl⟩
  rw [hx] at hk0 hk1 hk2 hk3 HDIG
  have b0 : ((x.toNat : Int) == 40) = false := beq_eq_false_iff_ne.2 (by omega)
  have b1 : ((x.toNat : Int) == 41) = false := beq_eq_false_iff_ne.2 (by omega)
  have b2 : ((x.toNat : Int) == 124) = false := beq_eq_false_iff_ne.2 (by omega)
  have b3 : ((x.toNat : Int) == 58) = false := beq_eq_false_iff_ne.2 (by omega)
  have KR : ∀ W, Calls Tryz.prog 110 #[.string s, .int .i64 (n : Int)] W fun e w' => e = .returned (.int .i64 ((n : Int) + m)) ∧ W = w' := fun W => by
    have h := rrun_ok s n W hs (by omega)
    rw [hm] at h
    exact h
  have b4 : (((n : Int) + m) == (n : Int)) = false := beq_eq_false_iff_ne.2 (by omega)
  have d9 : decide ((100 : Int) < (n : Int) + m - n) = false := decide_eq_false (by omega)
  have t5 : (n : Int) ≤ (n : Int) + m := by omega
  have t6 : (n : Int) + m ≤ s.size := by omega
  have KD : ∀ W, Calls Tryz.prog 112 #[.int .u8 (x.toNat : Nat)] W fun e w' => e = .returned (.bool dg) ∧ W = w' := fun W => by
    have h := rdigit_ok (w := W) x.toNat
    rw [HDIG] at h
    exact h
  subst hdg

  clear hst hc hB hk0 hk1 hk2 hk3 hm HDIG
  go_enter Tryz.func93, Tryz.ntmps93
  go_wp2_with (first
    | (go_at_call 64; refine (K _).mono ?_; rintro e w1 ⟨rfl, rfl⟩)
    | (go_at_call 112; with_reducible refine (KD _).mono ?_; rintro e w1 ⟨rfl, rfl⟩)
    | (go_at_call 110; with_reducible refine (KR _).mono ?_; rintro e w1 ⟨rfl, rfl⟩))
  refine bodyPost_ret (v := .tuple #[.agg #[.int .i8 2, .string (s.extract n (n + m)), .int .i64 n, .int .i64 ((n : Int) + m)], .bool true, .int .i64 0]) (by simp [results, Tryz.results93, go_sem, HC.out]) rfl ⟨rfl, HB.out _ _⟩

set_option maxRecDepth 100000 in
theorem rnext_num_no (s : ByteArray) (a : Int) (w : World) (n : Nat) (hs : s.size ≤ 1000000) (hst : startI s a = n) (hn : n < s.size) (hk0 : (s[n]'hn).toNat ≠ 40) (hk1 : (s[n]'hn).toNat ≠ 41) (hk2 : (s[n]'hn).toNat ≠ 124) (hk3 : (s[n]'hn).toNat ≠ 58) (dg : Bool) (HDIG : digitN (s[n]'hn).toNat = dg) (m : Nat) (hm : (signs ((byts s).drop n)).length = m) (hdg : dg = true) (hp : 0 < m) (hp1 : m ≤ 100) (hp2 : n + m ≤ s.size) (nu : Bool) (hnu : (((byts (s.extract n (n + m))).all fun c => digitN c.toNat) && (byts (s.extract n (n + m)) == [48] || headB (byts (s.extract n (n + m))) != 48)) = nu) (hnu2 : nu = false) :
    Calls Tryz.prog 93 #[.string s, .int .i64 a] w fun e w' => e = .returned (.tuple #[.agg #[.int .i8 0, .string ⟨#[]⟩, .int .i64 n, .int .i64 0], .bool false, .int .i64 20]) ∧ Below w.heap.size w w' := by
  have K := fun W => rskip_ok s a W hs
  rw [show fromI a s.size + sk false ((byts s).drop (fromI a s.size)) = startI s a from rfl, hst] at K
  have hB : ∀ c c2, Below w.heap.size w ((w.alloc (.cells c 118)).alloc (.cells c2 118)) := fun c c2 => ((Below.refl _ _).alloc (Nat.le_refl _) _).alloc (by simp) _
  have hc : ∀ c c2 i, ((w.alloc (.cells c 118)).alloc (.cells c2 118)).cell? ⟨w.heap.size, i, none⟩ = c[i]? := fun c c2 i => ((Blk.new w _ c).alloc _).cell i
  have HC := Lib.hid hc
  have HB := Lib.hid hB
  have d1 : decide ((s.size : Int) ≤ n) = false := decide_eq_false (by omega)
  have hnz : (n : Int) < s.size := by omega
  have t1 : (0 : Int) ≤ n := by omega
  obtain ⟨x, hx⟩ : ∃ x : UInt8, s[n]'hn = x := ⟨_, rfl⟩
  rw [hx] at hk0 hk1 hk2 hk3 HDIG
  have b0 : ((x.toNat : Int) == 40) = false := beq_eq_false_iff_ne.2 (by omega)
  have b1 : ((x.toNat : Int) == 41) = false := beq_eq_false_iff_ne.2 (by omega)
  have b2 : ((x.toNat : Int) == 124) = false := beq_eq_false_iff_ne.2 (by omega)
  have b3 : ((x.toNat : Int) == 58) = false := beq_eq_false_iff_ne.2 (by omega)
  have KR : ∀ W, Calls Tryz.prog 110 #[.string s, .int .i64 (n : Int)] W fun e w' => e = .returned (.int .i64 ((n : Int) + m)) ∧ W = w' := fun W => by
    have h := rrun_ok s n W hs (by omega)
    rw [hm] at h
    exact h
  have b4 : (((n : Int) + m) == (n : Int)) = false := beq_eq_false_iff_ne.2 (by omega)
  have d9 : decide ((100 : Int) < (n : Int) + m - n) = false := decide_eq_false (by omega)
  have t5 : (n : Int) ≤ (n : Int) + m := by omega
  have t6 : (n : Int) + m ≤ s.size := by omega
  have KD : ∀ W, Calls Tryz.prog 112 #[.int .u8 (x.toNat : Nat)] W fun e w' => e = .returned (.bool dg) ∧ W = w' := fun W => by
    have h := rdigit_ok (w := W) x.toNat
    rw [HDIG] at h
    exact h
  have hus : (s.extract n (n + m)).size = m := by rw [ByteArray.size_extract]; omega
  have KN := fun W => rnumeral_ok (s.extract n (n + m)) W (by omega) (by omega)
  rw [hnu] at KN
  subst hdg hnu2

  clear hst hc hB hk0 hk1 hk2 hk3 hm HDIG hus hnu
  go_enter Tryz.func93, Tryz.ntmps93
  go_wp2_with (first
    | (go_at_call 64; refine (K _).mono ?_; rintro e w1 ⟨rfl, rfl⟩)
    | (go_at_call 112; with_reducible refine (KD _).mono ?_; rintro e w1 ⟨rfl, rfl⟩)
    | (go_at_call 113; refine (KN _).mono ?_; rintro e w1 ⟨rfl, rfl⟩)
    | (go_at_call 110; with_reducible refine (KR _).mono ?_; rintro e w1 ⟨rfl, rfl⟩))
  refine bodyPost_ret (v := .tuple #[.agg #[.int .i8 0, .string ⟨#[]⟩, .int .i64 n, .int .i64 0], .bool false, .int .i64 20]) (by simp [results, Tryz.results93, go_sem, HC.out]) rfl ⟨rfl, HB.out _ _⟩

set_option maxRecDepth 100000 in
theorem rnext_num (s : ByteArray) (a : Int) (w : World) (n : Nat) (hs : s.size ≤ 1000000) (hst : startI s a = n) (hn : n < s.size) (hk0 : (s[n]'hn).toNat ≠ 40) (hk1 : (s[n]'hn).toNat ≠ 41) (hk2 : (s[n]'hn).toNat ≠ 124) (hk3 : (s[n]'hn).toNat ≠ 58) (dg : Bool) (HDIG : digitN (s[n]'hn).toNat = dg) (m : Nat) (hm : (signs ((byts s).drop n)).length = m) (hdg : dg = true) (hp : 0 < m) (hp1 : m ≤ 100) (hp2 : n + m ≤ s.size) (nu : Bool) (hnu : (((byts (s.extract n (n + m))).all fun c => digitN c.toNat) && (byts (s.extract n (n + m)) == [48] || headB (byts (s.extract n (n + m))) != 48)) = nu) (hnu2 : nu = true) :
    Calls Tryz.prog 93 #[.string s, .int .i64 a] w fun e w' => e = .returned (.tuple #[.agg #[.int .i8 3, .string (s.extract n (n + m)), .int .i64 n, .int .i64 ((n : Int) + m)], .bool true, .int .i64 0]) ∧ Below w.heap.size w w' := by
  have K := fun W => rskip_ok s a W hs
  rw [show fromI a s.size + sk false ((byts s).drop (fromI a s.size)) = startI s a from rfl, hst] at K
  have hB : ∀ c c2, Below w.heap.size w ((w.alloc (.cells c 118)).alloc (.cells c2 118)) := fun c c2 => ((Below.refl _ _).alloc (Nat.le_refl _) _).alloc (by simp) _
  have hc : ∀ c c2 i, ((w.alloc (.cells c 118)).alloc (.cells c2 118)).cell? ⟨w.heap.size, i, none⟩ = c[i]? := fun c c2 i => ((Blk.new w _ c).alloc _).cell i
  have HC := Lib.hid hc
  have HB := Lib.hid hB
  have d1 : decide ((s.size : Int) ≤ n) = false := decide_eq_false (by omega)
  have hnz : (n : Int) < s.size := by omega
  have t1 : (0 : Int) ≤ n := by omega
  obtain ⟨x, hx⟩ : ∃ x : UInt8, s[n]'hn = x := ⟨_, rfl⟩
  rw [hx] at hk0 hk1 hk2 hk3 HDIG
  have b0 : ((x.toNat : Int) == 40) = false := beq_eq_false_iff_ne.2 (by omega)
  have b1 : ((x.toNat : Int) == 41) = false := beq_eq_false_iff_ne.2 (by omega)
  have b2 : ((x.toNat : Int) == 124) = false := beq_eq_false_iff_ne.2 (by omega)
  have b3 : ((x.toNat : Int) == 58) = false := beq_eq_false_iff_ne.2 (by omega)
  have KR : ∀ W, Calls Tryz.prog 110 #[.string s, .int .i64 (n : Int)] W fun e w' => e = .returned (.int .i64 ((n : Int) + m)) ∧ W = w' := fun W => by
    have h := rrun_ok s n W hs (by omega)
    rw [hm] at h
    exact h
  have b4 : (((n : Int) + m) == (n : Int)) = false := beq_eq_false_iff_ne.2 (by omega)
  have d9 : decide ((100 : Int) < (n : Int) + m - n) = false := decide_eq_false (by omega)
  have t5 : (n : Int) ≤ (n : Int) + m := by omega
  have t6 : (n : Int) + m ≤ s.size := by omega
  have KD : ∀ W, Calls Tryz.prog 112 #[.int .u8 (x.toNat : Nat)] W fun e w' => e = .returned (.bool dg) ∧ W = w' := fun W => by
    have h := rdigit_ok (w := W) x.toNat
    rw [HDIG] at h
    exact h
  have hus : (s.extract n (n + m)).size = m := by rw [ByteArray.size_extract]; omega
  have KN := fun W => rnumeral_ok (s.extract n (n + m)) W (by omega) (by omega)
  rw [hnu] at KN
  subst hdg hnu2

  clear hst hc hB hk0 hk1 hk2 hk3 hm HDIG hus hnu
  go_enter Tryz.func93, Tryz.ntmps93
  go_wp2_with (first
    | (go_at_call 64; refine (K _).mono ?_; rintro e w1 ⟨rfl, rfl⟩)
    | (go_at_call 112; with_reducible refine (KD _).mono ?_; rintro e w1 ⟨rfl, rfl⟩)
    | (go_at_call 113; refine (KN _).mono ?_; rintro e w1 ⟨rfl, rfl⟩)
    | (go_at_call 110; with_reducible refine (KR _).mono ?_; rintro e w1 ⟨rfl, rfl⟩))
  refine bodyPost_ret (v := .tuple #[.agg #[.int .i8 3, .string (s.extract n (n + m)), .int .i64 n, .int .i64 ((n : Int) + m)], .bool true, .int .i64 0]) (by simp [results, Tryz.results93, go_sem, HC.out]) rfl ⟨rfl, HB.out _ _⟩
end Go.Proofs.YtiklliiamljogaaGreatDoor

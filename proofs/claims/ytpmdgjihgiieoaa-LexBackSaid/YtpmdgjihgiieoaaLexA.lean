/- The tests of bytes. -/
import Derived.Test.YtpmdgjihgiieoaaProg
import Derived.Test.YtpmdgjihgiieoaaBase
namespace Go.Proofs.Ytpmdgjihgiieoaa
open Go.RowKit

def whiteN (n : Nat) : Bool := n == 32 || n == 9 || n == 10 || n == 13
def digitN (n : Nat) : Bool := decide (48 ≤ n ∧ n < 58)
def insideN (n : Nat) : Bool := n != 124 && n != 92 && (decide (32 ≤ n ∧ n ≤ 126) || whiteN n)
def signN (n : Nat) : Bool :=
  if n < 64 then 17582031444648132608 / 2 ^ n % 2 == 1 else if n < 128 then 5188146765496319999 / 2 ^ (n - 64) % 2 == 1 else false

theorem white_ok {w : World} (n : Nat) :
    Calls Try.prog 16 #[.int .u8 n] w fun e w' => e = .returned (.bool (whiteN n)) ∧ w = w' := by
  by_cases h1 : n = 32
  · subst h1
    go_enter Try.func16, Try.ntmps16
    go_wp2
    go_ret
    exact ⟨rfl, rfl⟩
  by_cases h2 : n = 9
  · subst h2
    go_enter Try.func16, Try.ntmps16
    go_wp2
    go_ret
    exact ⟨rfl, rfl⟩
  by_cases h3 : n = 10
  · subst h3
    go_enter Try.func16, Try.ntmps16
    go_wp2
    go_ret
    exact ⟨rfl, rfl⟩
  have b1 : ((n : Int) == 32) = false := beq_eq_false_iff_ne.2 (by omega)
  have b2 : ((n : Int) == 9) = false := beq_eq_false_iff_ne.2 (by omega)
  have b3 : ((n : Int) == 10) = false := beq_eq_false_iff_ne.2 (by omega)
  have e : whiteN n = ((n : Int) == 13) := by
    unfold whiteN
    rw [beq_eq_false_iff_ne.2 h1, beq_eq_false_iff_ne.2 h2, beq_eq_false_iff_ne.2 h3]
    by_cases h : n = 13
    · subst h; rfl
    · rw [beq_eq_false_iff_ne.2 h]
      exact (beq_eq_false_iff_ne.2 (by omega)).symm
  clear h1 h2 h3
  rw [e]
  clear e
  go_enter Try.func16, Try.ntmps16
  go_wp2
  go_ret
  exact ⟨rfl, rfl⟩

theorem digit_ok {w : World} (n : Nat) (hn : n < 256) :
    Calls Try.prog 34 #[.int .u8 n] w fun e w' => e = .returned (.bool (digitN n)) ∧ w = w' := by
  have e : digitN n = decide (((n : Int) - 48) % 256 < 10) := by
    unfold digitN
    exact decide_eq_decide.2 (by omega)
  rw [e]
  clear e
  go_enter Try.func34, Try.ntmps34
  go_wp2
  go_ret
  exact ⟨rfl, rfl⟩

theorem sign_low : ∀ n : Fin 64, (bits BinOp.and IntKind.u64 ((17582031444648132608 : Int) / 2 ^ n.val) 1 == 1) = signN n.val := by decide +kernel
theorem sign_high : ∀ n : Fin 64, (bits BinOp.and IntKind.u64 ((5188146765496319999 : Int) / 2 ^ n.val) 1 == 1) = signN (n.val + 64) := by decide +kernel

set_option maxRecDepth 100000 in
theorem sign_ok {w : World} (n : Nat) (hn : n < 256) :
    Calls Try.prog 35 #[.int .u8 n] w fun e w' => e = .returned (.bool (signN n)) ∧ w = w' := by
  by_cases h1 : n < 64
  · have d1 : decide ((n : Int) < 64) = true := by simp; omega
    rw [← sign_low ⟨n, h1⟩]
    clear hn
    go_enter Try.func35, Try.ntmps35
    go_wp2
    go_ret
    exact ⟨rfl, rfl⟩
  have d1 : decide ((n : Int) < 64) = false := by simp; omega
  by_cases h2 : n < 128
  · obtain ⟨m, rfl⟩ : ∃ m, n = m + 64 := ⟨n - 64, by omega⟩
    have hm : m < 64 := by omega
    have d2 : decide (((m + 64 : Nat) : Int) < 128) = true := by simp; omega
    rw [← sign_high ⟨m, hm⟩]
    have e1 : (((m + 64 : Nat) : Int) - 64) % 256 = m := by omega
    generalize ((m + 64 : Nat) : Int) = q at *
    clear hn h1 h2
    go_enter Try.func35, Try.ntmps35
    go_wp2
    go_ret
    exact ⟨rfl, rfl⟩
  have d2 : decide ((n : Int) < 128) = false := by simp; omega
  have e : signN n = false := by unfold signN; rw [if_neg h1, if_neg h2]
  rw [e]
  clear e hn
  go_enter Try.func35, Try.ntmps35
  go_wp2
  go_ret
  exact ⟨rfl, rfl⟩

theorem inside_ok {w : World} (n : Nat) (hn : n < 256) :
    Calls Try.prog 32 #[.int .u8 n] w fun e w' => e = .returned (.bool (insideN n)) ∧ w = w' := by
  by_cases h1 : n = 124
  · subst h1
    go_enter Try.func32, Try.ntmps32
    go_wp2
    go_ret
    exact ⟨rfl, rfl⟩
  by_cases h2 : n = 92
  · subst h2
    go_enter Try.func32, Try.ntmps32
    go_wp2
    go_ret
    exact ⟨rfl, rfl⟩
  have b1 : ((n : Int) != 124) = true := bne_iff_ne.2 (by omega)
  have b2 : ((n : Int) != 92) = true := bne_iff_ne.2 (by omega)
  have e : insideN n = (decide (32 ≤ n ∧ n ≤ 126) || whiteN n) := by
    unfold insideN
    rw [bne_iff_ne.2 h1, bne_iff_ne.2 h2]
    rfl
  rw [e]
  clear e h1 h2
  by_cases h3 : 32 ≤ n
  · have d3 : decide ((32 : Int) ≤ n) = true := by simp; omega
    by_cases h4 : n ≤ 126
    · have d4 : decide ((n : Int) ≤ 126) = true := by simp; omega
      have e : decide (32 ≤ n ∧ n ≤ 126) = true := decide_eq_true ⟨h3, h4⟩
      rw [e]
      clear e hn
      go_enter Try.func32, Try.ntmps32
      go_wp2
      go_ret
      exact ⟨rfl, rfl⟩
    · have d4 : decide ((n : Int) ≤ 126) = false := by simp; omega
      have e : decide (32 ≤ n ∧ n ≤ 126) = false := decide_eq_false (by omega)
      rw [e]
      clear e hn
      go_enter Try.func32, Try.ntmps32
      go_wp2_with (go_at_call 16; refine (white_ok n).mono ?_; rintro e w1 ⟨rfl, rfl⟩)
      go_ret
      exact ⟨rfl, rfl⟩
  · have d3 : decide ((32 : Int) ≤ n) = false := by simp; omega
    have e : decide (32 ≤ n ∧ n ≤ 126) = false := decide_eq_false (by omega)
    rw [e]
    clear e hn
    go_enter Try.func32, Try.ntmps32
    go_wp2_with (go_at_call 16; refine (white_ok n).mono ?_; rintro e w1 ⟨rfl, rfl⟩)
    go_ret
    exact ⟨rfl, rfl⟩

/-- By which reader a token is read that begins with a byte. -/
def byN (n : Nat) : Nat :=
  if n = 40 then 0 else if n = 41 then 1 else if n = 124 then 2 else if n = 58 then 3 else if digitN n then 4 else if signN n then 5 else 6

theorem by_ok {w : World} (n : Nat) (hn : n < 256) :
    Calls Try.prog 24 #[.int .u8 n] w fun e w' => e = .returned (.int .i64 (byN n)) ∧ w = w' := by
  by_cases h1 : n = 40
  · subst h1
    go_enter Try.func24, Try.ntmps24
    go_wp2
    go_ret
    exact ⟨rfl, rfl⟩
  by_cases h2 : n = 41
  · subst h2
    go_enter Try.func24, Try.ntmps24
    go_wp2
    go_ret
    exact ⟨rfl, rfl⟩
  by_cases h3 : n = 124
  · subst h3
    go_enter Try.func24, Try.ntmps24
    go_wp2
    go_ret
    exact ⟨rfl, rfl⟩
  by_cases h4 : n = 58
  · subst h4
    go_enter Try.func24, Try.ntmps24
    go_wp2
    go_ret
    exact ⟨rfl, rfl⟩
  have b1 : ((n : Int) == 40) = false := beq_eq_false_iff_ne.2 (by omega)
  have b2 : ((n : Int) == 41) = false := beq_eq_false_iff_ne.2 (by omega)
  have b3 : ((n : Int) == 124) = false := beq_eq_false_iff_ne.2 (by omega)
  have b4 : ((n : Int) == 58) = false := beq_eq_false_iff_ne.2 (by omega)
  have e : byN n = if digitN n then 4 else if signN n then 5 else 6 := by
    unfold byN
    rw [if_neg h1, if_neg h2, if_neg h3, if_neg h4]
  rw [e]
  have Hn := Lib.hid hn
  clear e hn h1 h2 h3 h4
  generalize hd : digitN n = bd
  generalize hs : signN n = bs
  have Hd := Lib.hid hd
  have Hs := Lib.hid hs
  clear hd hs
  cases bd with
  | true =>
    go_enter Try.func24, Try.ntmps24
    go_wp2_with (go_at_call 34; refine (digit_ok n Hn.out).mono ?_; rintro e w1 ⟨rfl, rfl⟩; rw [Hd.out])
    go_ret
    exact ⟨rfl, rfl⟩
  | false =>
    cases bs with
    | true =>
      go_enter Try.func24, Try.ntmps24
      go_wp2_with (first | (go_at_call 34; refine (digit_ok n Hn.out).mono ?_; rintro e w1 ⟨rfl, rfl⟩; rw [Hd.out]) | (go_at_call 35; refine (sign_ok n Hn.out).mono ?_; rintro e w1 ⟨rfl, rfl⟩; rw [Hs.out]))
      go_ret
      exact ⟨rfl, rfl⟩
    | false =>
      go_enter Try.func24, Try.ntmps24
      go_wp2_with (first | (go_at_call 34; refine (digit_ok n Hn.out).mono ?_; rintro e w1 ⟨rfl, rfl⟩; rw [Hd.out]) | (go_at_call 35; refine (sign_ok n Hn.out).mono ?_; rintro e w1 ⟨rfl, rfl⟩; rw [Hs.out]))
      go_ret
      exact ⟨rfl, rfl⟩
end Go.Proofs.Ytpmdgjihgiieoaa

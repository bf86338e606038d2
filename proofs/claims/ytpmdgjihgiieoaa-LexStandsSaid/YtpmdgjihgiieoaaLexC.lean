/- Reserved, May, Plain, Quote. -/
import Derived.Test.YtpmdgjihgiieoaaLexB
namespace Go.Proofs.Ytpmdgjihgiieoaa
open Go.RowKit

def reservedL (l : List UInt8) : Bool :=
  l == [95] || l == [33] || l == [97, 115] || l == [108, 101, 116] || l == [101, 120, 105, 115, 116, 115] || l == [102, 111, 114, 97, 108, 108] || l == [109, 97, 116, 99, 104] || l == [112, 97, 114]

theorem reserved_ok (s : ByteArray) (w : World) :
    Calls Try.prog 27 #[.string s] w fun e w' => e = .returned (.bool (reservedL (byts s))) ∧ w = w' := by
  rw [show byts s = s.toList from (Lib.toList_data s).symm]
  go_enter Try.func27, Try.ntmps27
  go_wp2
  all_goals (go_ret; refine ⟨?_, rfl⟩; simp_all [reservedL])

theorem rreserved_ok (s : ByteArray) (w : World) :
    Calls Try.prog 12 #[.string s] w fun e w' => e = .returned (.bool (reservedL (byts s))) ∧ w = w' := by
  rw [show byts s = s.toList from (Lib.toList_data s).symm]
  go_enter Try.func12, Try.ntmps12
  go_wp2
  all_goals (go_ret; refine ⟨?_, rfl⟩; simp_all [reservedL])

def headB (l : List UInt8) : Nat := match l with | [] => 0 | c :: _ => c.toNat
def plainL (l : List UInt8) : Bool := !l.isEmpty && (decide (l.length ≤ 100) && ((l.all fun c => signN c.toNat) && (!digitN (headB l) && !reservedL l)))

theorem plain_ok (s : ByteArray) (w : World) (hs : s.size ≤ 9223372036854775807) :
    Calls Try.prog 26 #[.string s] w fun e w' => e = .returned (.bool (plainL (byts s))) ∧ w = w' := by
  by_cases h1 : s.size = 0
  · have e0 : byts s = [] := List.eq_nil_of_length_eq_zero (by rw [byts_len]; exact h1)
    have d1 : s.toList.isEmpty = true := by rw [Lib.toList_data]; exact List.isEmpty_iff.2 e0
    rw [e0]
    clear e0 h1
    go_enter Try.func26, Try.ntmps26
    go_wp2
    go_ret
    exact ⟨rfl, rfl⟩
  have e1 : plainL (byts s) = (decide (s.size ≤ 100) && (((byts s).all fun c => signN c.toNat) && (!digitN (headB (byts s)) && !reservedL (byts s)))) := by
    unfold plainL
    rw [byts_len, show (byts s).isEmpty = false by rw [List.isEmpty_eq_false_iff]; intro h; have := byts_len s; rw [h] at this; exact h1 this.symm]
    rfl
  have d1 : s.toList.isEmpty = false := by
    rw [Lib.toList_data, List.isEmpty_eq_false_iff]
    intro h
    have := byts_len s
    rw [byts, h] at this
    exact h1 this.symm
  rw [e1]
  clear e1
  by_cases h2 : s.size ≤ 100
  · have d2 : decide ((s.size : Int) ≤ 100) = true := by simp; omega
    rw [decide_eq_true h2, Bool.true_and]
    cases ha : (byts s).all fun c => signN c.toNat with
    | false =>
      rw [Bool.false_and]
      have Ha := Lib.hid ha
      clear ha h1 h2
      go_enter Try.func26, Try.ntmps26
      go_wp2_with (go_at_call 31; refine (all_sign s _ hs).mono ?_; rintro e w1 ⟨rfl, rfl⟩; rw [Ha.out])
      go_ret
      exact ⟨rfl, rfl⟩
    | true =>
      rw [Bool.true_and]
      have hz : 0 < s.size := by omega
      obtain ⟨x, hx⟩ : ∃ x : UInt8, s[0]'(by omega) = x := ⟨_, rfl⟩
      have hx8 := x.toNat_lt
      have hh : headB (byts s) = x.toNat := by
        have h3 := byts_drop hz
        rw [List.drop_zero, hx] at h3
        rw [h3]
        rfl
      rw [hh]
      have Ha := Lib.hid ha
      clear ha h1 h2 hh
      have hiz : (0 : Int) < s.size := by omega
      cases hd : digitN x.toNat with
      | true =>
        have Hd := Lib.hid hd
        clear hd
        go_enter Try.func26, Try.ntmps26
        go_wp2_with (first | (go_at_call 31; refine (all_sign s _ hs).mono ?_; rintro e w1 ⟨rfl, rfl⟩; rw [Ha.out]) | (go_at_call 34; refine (digit_ok x.toNat hx8).mono ?_; rintro e w1 ⟨rfl, rfl⟩; rw [Hd.out]))
        go_ret
        exact ⟨rfl, rfl⟩
      | false =>
        have Hd := Lib.hid hd
        clear hd
        generalize hr : reservedL (byts s) = br
        have Hr := Lib.hid hr
        clear hr
        go_enter Try.func26, Try.ntmps26
        go_wp2_with (first | (go_at_call 31; refine (all_sign s _ hs).mono ?_; rintro e w1 ⟨rfl, rfl⟩; rw [Ha.out]) | (go_at_call 34; refine (digit_ok x.toNat hx8).mono ?_; rintro e w1 ⟨rfl, rfl⟩; rw [Hd.out]) | (go_at_call 27; refine (reserved_ok s _).mono ?_; rintro e w1 ⟨rfl, rfl⟩; rw [Hr.out]))
        go_ret
        exact ⟨rfl, rfl⟩
  · have d2 : decide ((s.size : Int) ≤ 100) = false := by simp; omega
    rw [decide_eq_false h2, Bool.false_and]
    clear h1 h2
    go_enter Try.func26, Try.ntmps26
    go_wp2
    go_ret
    exact ⟨rfl, rfl⟩

def quoteL (l : List UInt8) : List UInt8 := if plainL l || reservedL l then l else 124 :: (l ++ [124])

theorem quote_ok (s : ByteArray) (w : World) (hs : s.size ≤ 1000) :
    Calls Try.prog 13 #[.string s] w fun e w' => (∃ q, e = .returned (.string q) ∧ byts q = quoteL (byts s)) ∧ w = w' := by
  unfold quoteL
  generalize hp : plainL (byts s) = bp
  generalize hr : reservedL (byts s) = br
  have Hp := Lib.hid hp
  have Hr := Lib.hid hr
  clear hp hr
  cases bp with
  | true =>
    go_enter Try.func13, Try.ntmps13
    go_wp2_with (go_at_call 26; refine (plain_ok s _ (by omega)).mono ?_; rintro e w1 ⟨rfl, rfl⟩; rw [Hp.out])
    go_ret
    exact ⟨⟨s, rfl, rfl⟩, rfl⟩
  | false =>
    cases br with
    | true =>
      go_enter Try.func13, Try.ntmps13
      go_wp2_with (first | (go_at_call 26; refine (plain_ok s _ (by omega)).mono ?_; rintro e w1 ⟨rfl, rfl⟩; rw [Hp.out]) | (go_at_call 27; refine (reserved_ok s _).mono ?_; rintro e w1 ⟨rfl, rfl⟩; rw [Hr.out]))
      go_ret
      exact ⟨⟨s, rfl, rfl⟩, rfl⟩
    | false =>
      go_enter Try.func13, Try.ntmps13
      go_wp2_with (first | (go_at_call 26; refine (plain_ok s _ (by omega)).mono ?_; rintro e w1 ⟨rfl, rfl⟩; rw [Hp.out]) | (go_at_call 27; refine (reserved_ok s _).mono ?_; rintro e w1 ⟨rfl, rfl⟩; rw [Hr.out]))
      go_ret
      exact ⟨⟨_, rfl, by simp [byts]⟩, rfl⟩

theorem rwhite_ok {w : World} (n : Nat) :
    Calls Try.prog 36 #[.int .u8 n] w fun e w' => e = .returned (.bool (whiteN n)) ∧ w = w' := by
  by_cases h1 : n = 32
  · subst h1
    go_enter Try.func36, Try.ntmps36
    go_wp2
    go_ret
    exact ⟨rfl, rfl⟩
  by_cases h2 : n = 9
  · subst h2
    go_enter Try.func36, Try.ntmps36
    go_wp2
    go_ret
    exact ⟨rfl, rfl⟩
  by_cases h3 : n = 10
  · subst h3
    go_enter Try.func36, Try.ntmps36
    go_wp2
    go_ret
    exact ⟨rfl, rfl⟩
  have b1 : ((n : Int) == 32) = false := beq_eq_false_iff_ne.2 (by omega)
  have b2 : ((n : Int) == 9) = false := beq_eq_false_iff_ne.2 (by omega)
  have b3 : ((n : Int) == 10) = false := beq_eq_false_iff_ne.2 (by omega)
  have e : whiteN n = ((n : Int) == 13) := by
    unfold whiteN
    rw [beq_eq_false_iff_ne.2 h1, beq_eq_false_iff_ne.2 h2, beq_eq_false_iff_ne.2 h3]
    by_cases h : n = 13
    · subst h; rfl
    · rw [beq_eq_false_iff_ne.2 h]
      exact (beq_eq_false_iff_ne.2 (by omega)).symm
  clear h1 h2 h3
  rw [e]
  clear e
  go_enter Try.func36, Try.ntmps36
  go_wp2
  go_ret
  exact ⟨rfl, rfl⟩
end Go.Proofs.Ytpmdgjihgiieoaa

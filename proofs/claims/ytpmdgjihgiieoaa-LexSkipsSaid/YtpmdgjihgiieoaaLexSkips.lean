/- LexSkips: skipping twice is skipping once; what is skipped has no token. -/
import Derived.Test.YtpmdgjihgiieoaaLexN
namespace Go.Proofs.Ytpmdgjihgiieoaa
open Go.RowKit

theorem sk_idem : ∀ (b : Bool) (l : List UInt8), sk false (l.drop (sk b l)) = 0
  | b, [] => by cases b <;> rfl
  | false, c :: r => by
    rw [sk_f]
    split
    · rw [Nat.add_comm, List.drop_succ_cons]; exact sk_idem true r
    · split
      · rw [Nat.add_comm, List.drop_succ_cons]; exact sk_idem false r
      · rename_i h1 h2
        rw [List.drop_zero, sk_f, if_neg h1, if_neg h2]
  | true, c :: r => by
    rw [sk_c]
    split
    · rw [Nat.add_comm, List.drop_succ_cons]; exact sk_idem false r
    · rw [Nat.add_comm, List.drop_succ_cons]; exact sk_idem true r
theorem sk_take : ∀ (b : Bool) (l : List UInt8), sk b (l.take (sk b l)) = sk b l
  | b, [] => by cases b <;> rfl
  | false, c :: r => by
    rw [sk_f]
    split
    · rename_i h1
      rw [Nat.add_comm, List.take_succ_cons, sk_f, if_pos h1, sk_take true r, Nat.add_comm]
    · rename_i h1
      split
      · rename_i h2
        rw [Nat.add_comm, List.take_succ_cons, sk_f, if_neg h1, if_pos h2, sk_take false r, Nat.add_comm]
      · rfl
  | true, c :: r => by
    rw [sk_c]
    split
    · rename_i h1
      rw [Nat.add_comm, List.take_succ_cons, sk_c, if_pos h1, sk_take false r, Nat.add_comm]
    · rename_i h1
      rw [Nat.add_comm, List.take_succ_cons, sk_c, if_neg h1, sk_take true r, Nat.add_comm]

set_option maxHeartbeats 1000000 in
theorem LexSkips_true (w : World) (s : ByteArray) (a : Int) :
    Calls Try.prog 5 #[.string s, .int .i64 a] w fun e w' => e = .returned (.bool true) ∧ Below w.heap.size w w' := by
  by_cases hs : 2000 < s.size
  · have d1 : decide ((2000 : Int) < s.size) = true := by simp; omega
    go_enter Try.func5, Try.ntmps5
    go_wp2_with (go_at_call 7; refine (wakes_ok _).mono ?_; rintro e w1 ⟨rfl, hb1⟩; have HB := Lib.hid hb1; clear hb1)
    go_ret
    exact ⟨rfl, HB.out⟩
  have d1 : decide ((2000 : Int) < s.size) = false := by simp; omega
  have hs6 : s.size ≤ 1000000 := by omega
  obtain ⟨b, hb⟩ : ∃ b : Nat, max 0 (min a (s.size : Int)) = (b : Int) := ⟨fromI a s.size, by unfold fromI; omega⟩
  have hfrom : fromI a s.size = b := by unfold fromI; omega
  have hbs : b ≤ s.size := by omega
  obtain ⟨k, hk⟩ : ∃ k, sk false ((byts s).drop b) = k := ⟨_, rfl⟩
  have hkl := sk_le false ((byts s).drop b)
  rw [hk, List.length_drop, byts_len] at hkl
  obtain ⟨n, hn⟩ : ∃ n, b + k = n := ⟨_, rfl⟩
  have hns : n ≤ s.size := by omega
  have hskip : Hid (fromI a s.size + sk false ((byts s).drop (fromI a s.size)) = n) := Lib.hid (by rw [hfrom, hk, hn])
  have hskip2 : Hid (fromI n s.size + sk false ((byts s).drop (fromI n s.size)) = n) := Lib.hid (by
    have : fromI (n : Int) s.size = n := by unfold fromI; omega
    rw [this]
    have h2 := sk_idem false ((byts s).drop b)
    rw [hk, List.drop_drop, hn] at h2
    rw [h2]; rfl)
  have hsub : Hid (byts (s.extract b n) = ((byts s).drop b).take k) := Lib.hid (by rw [byts, Lib.extract_data, ← hn, Nat.add_sub_cancel_left])
  have hsz : (s.extract b n).size = k := by
    rw [← byts_len, hsub.out, List.length_take, List.length_drop, byts_len]; omega
  have hlex : Hid (Lexes (byts (s.extract b n)) 0 [] none) := Lib.hid (.done (by
    have h1 : startL (byts (s.extract b n)) 0 = k := by
      unfold startL
      rw [List.drop_zero, Nat.zero_add, hsub.out]
      have := sk_take false ((byts s).drop b)
      rwa [hk] at this
    rw [h1]
    exact byts_end (by omega)))
  have t1 : decide ((n : Int) < b) = false := by simp; omega
  have t2 : decide ((s.size : Int) < n) = false := by simp; omega
  have t3 : ((n : Int) != n) = false := bne_self_eq_false _
  have t4 : (n : Int) - b = k := by omega
  have t5 : ((k : Int) == k) = true := beq_self_eq_true _
  have t6 : (0 : Int) ≤ b := by omega
  have t7 : (b : Int) ≤ n := by omega
  have t8 : (n : Int) ≤ s.size := by omega
  clear hk hn hkl hfrom hs
  go_enter Try.func5, Try.ntmps5
  go_upto_region 4 with (go_at_call 9; refine (skip_ok s a _ hs6).mono ?_; rintro e w1 ⟨rfl, rfl⟩; rw [hskip.out])
  go_upto_region 7 with (go_at_call 9; refine (skip_ok s n _ hs6).mono ?_; rintro e w1 ⟨rfl, rfl⟩; rw [hskip2.out])
  go_upto_region 8 with (go_at_call 8; refine (all_is (s.extract b n) _ (by omega) [] none (fun ts' err' h' => lexes_one h' hlex.out)).mono ?_; rintro e w1 ⟨v, rfl, hown, hb1⟩; obtain ⟨A, cap, rfl⟩ := own_slice hown; simp only [Option.getD_none, Option.isSome_none, List.length_nil, hsz]; have HB1 := Lib.hid hb1; clear hown hb1)
  go_wp2_with (go_at_call 7; refine (wakes_ok _).mono ?_; rintro e w2 ⟨rfl, hb2⟩; have HB := Lib.hid (HB1.out.trans (hb2.mono HB1.out.size)); clear hb2)
  go_ret
  exact ⟨rfl, HB.out⟩

theorem lexSkips_walk (s : ByteArray) (a : Int) (W : World) (_ : s.size ≤ maxLen) (_ : (Lit.int .i64 a).wf = true) :
    Calls Try.prog 5 #[.string s, .int .i64 a] W fun e w' => e = .returned (.bool true) ∧ Below W.heap.size W w' := LexSkips_true W s a
end Go.Proofs.Ytpmdgjihgiieoaa

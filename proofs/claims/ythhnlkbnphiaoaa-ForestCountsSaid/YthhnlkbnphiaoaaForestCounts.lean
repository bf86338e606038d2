/- ForestCounts' walk. -/
import Derived.Test.YthhnlkbnphiaoaaCounts
import Derived.Test.YthhnlkbnphiaoaaLawC
namespace Go.Proofs.Ythhnlkbnphiaoaa
open Go.RowKit

theorem repCount_le (n : Int) (J : List Jn) (k : Nat) : repCount n J k ≤ k := by
  unfold repCount
  have := List.countP_le_length (p := fun (i : Nat) => @decide (RepR n J (i : Int) (i : Int)) (Classical.propDecidable _)) (l := List.range k)
  rw [List.length_range] at this
  exact this

set_option maxRecDepth 100000 in
set_option maxHeartbeats 2000000 in
theorem forestCounts_walk (n : Int) (A1 : Option Addr) (l1 c1 : Nat) (f1 : Nat → Act4) (w : World) (_w0 : (Lit.int .i64 n).wf = true) (w1 : IsActs w A1 l1 c1 f1) :
    Calls Try.prog 6 #[.int .i64 n, .slice A1 l1 c1] w fun e w' => e = .returned (.bool true) ∧ Below w.heap.size w w' := by
  have hl1 : l1 ≤ maxLen := by
    rcases w1 with ⟨_, rfl⟩ | ⟨_, _, h1, h2, _⟩
    · omega
    · omega
  unfold maxLen at hl1
  by_cases hout : 100 < l1 ∨ n < 1 ∨ 40 < n
  · clear w1
    by_cases p1 : 100 < l1
    · have d1 : decide ((100 : Int) < (l1 : Int)) = true := by simp; omega
      clear hout
      go_enter Try.func6, Try.ntmps6
      go_wp2_with (go_at_call 7; refine (wakes_ok _).mono ?_; rintro e w2 ⟨rfl, b2⟩)
      go_ret
      exact ⟨rfl, b2⟩
    have d1 : decide ((100 : Int) < (l1 : Int)) = false := by simp; omega
    by_cases p3 : n < 1
    · have d3 : decide (n < 1) = true := decide_eq_true p3
      clear hout
      go_enter Try.func6, Try.ntmps6
      go_wp2_with (go_at_call 7; refine (wakes_ok _).mono ?_; rintro e w2 ⟨rfl, b2⟩)
      go_ret
      exact ⟨rfl, b2⟩
    have d3 : decide (n < 1) = false := decide_eq_false p3
    have d4 : decide (40 < n) = true := decide_eq_true (by omega)
    clear hout
    go_enter Try.func6, Try.ntmps6
    go_wp2_with (go_at_call 7; refine (wakes_ok _).mono ?_; rintro e w2 ⟨rfl, b2⟩)
    go_ret
    exact ⟨rfl, b2⟩
  have d1 : decide ((100 : Int) < (l1 : Int)) = false := by simp; omega
  have d3 : decide (n < 1) = false := decide_eq_false (by omega)
  have d4 : decide (40 < n) = false := decide_eq_false (by omega)
  have hn : 1 ≤ n ∧ n ≤ 40 := by omega
  have hl : l1 ≤ 100 := by omega
  have W1 := Lib.hid w1
  clear w1 hout
  go_enter Try.func6, Try.ntmps6
  go_wp2_with fail
  refine (behind_ok n hn.1 hn.2 A1 l1 c1 f1 w W1.out hl).mono ?_
  rintro e w5 ⟨bf, bn, bp, lj, N, rfl, hF, hB⟩
  have hJl := behindF_len n f1 l1
  generalize behindF n f1 l1 = J at *
  have HF := Lib.hid hF
  have HB := Lib.hid hB
  have HC := Lib.hid (rep_count J hF.fine)
  obtain ⟨q, rfl⟩ := Int.eq_ofNat_of_zero_le (show 0 ≤ n by omega)
  clear hF hB W1
  go_wp2_with fail
  go_loopw [6, 7] (fun cl i wr => ∃ k : Nat, k ≤ q ∧ i = .int .i64 k ∧ cl = .int .i64 (repCount q J k) ∧ FR wr w.heap.size bf bn bp lj N q J 30000 ∧ Below w.heap.size w wr) (fun _ i _ => q - (intOf i).toNat)
  case atStart => exact ⟨0, Nat.zero_le _, rfl, by simp [repCount], HF.out, HB.out⟩
  case round =>
    obtain ⟨k, hk, rfl, rfl, hF9, hB9⟩ := hrel
    have HF9 := Lib.hid hF9
    have HB9 := Lib.hid hB9
    clear hF9 hB9 HF HB
    by_cases hlt : k < q
    · have hle := repCount_le q J k
      have dk : decide ((k : Int) < (q : Int)) = true := decide_eq_true (by omega)
      go_wp2_with fail
      refine (rep_ok HF9.out k (by omega)).mono ?_
      rintro e w6 ⟨r, rfl, hr, hb⟩
      have hs := repCount_succ q J k hr
      have HFa := Lib.hid (HF9.out.below hb)
      have HBa := Lib.hid (below_then HB9.out (Nat.le_refl _) hb)
      have Hs := Lib.hid hs
      clear hs hr hb
      generalize repCount q J k = cnt at *
      by_cases hrk : r = k
      · have dr : (r == (k : Int)) = true := by simpa using hrk
        have Hrk := Lib.hid hrk
        clear hrk
        go_wp2
        refine ⟨⟨k + 1, by omega, by go_num, ?_, HFa.out, HBa.out⟩, by simp [intOf]; omega⟩
        rw [Hs.out, if_pos Hrk.out]
        rfl
      · have dr : (r == (k : Int)) = false := by simpa using hrk
        have Hrk := Lib.hid hrk
        clear hrk
        go_wp2
        refine ⟨⟨k + 1, by omega, by go_num, ?_, HFa.out, HBa.out⟩, by simp [intOf]; omega⟩
        rw [Hs.out, if_neg Hrk.out]
        rfl
    · obtain rfl : k = q := by omega
      have hc := HC.out
      rw [Int.toNat_natCast] at hc
      have hle := repCount_le k J k
      generalize repCount k J k = cnt at *
      have dk : decide ((k : Int) < (k : Int)) = false := decide_eq_false (by omega)
      have hcc : ((cnt : Int) == (k : Int) - (J.length : Int)) = true := by
        rw [beq_iff_eq]
        omega
      go_wp2_with fail
      refine (joins_ok HF9.out).mono ?_
      rintro e w9 ⟨rfl, rfl⟩
      go_wp2_with fail
      refine (wakes_ok _).mono ?_
      rintro e w9 ⟨rfl, hb9⟩
      have HBb := Lib.hid (below_then HB9.out (Nat.le_refl _) hb9)
      clear hb9
      go_wp2
      go_ret
      exact ⟨rfl, HBb.out⟩
end Go.Proofs.Ythhnlkbnphiaoaa

/- alike: trails of the same model are alike. -/
import Derived.Test.YtfdfblokbojcfaaPair
import Derived.BigQuiet
namespace Go.Proofs.Ytfdfblokbojcfaa
open Go.RowKit

theorem olen {B : Nat} {w : World} {v : Value} {m : Option Tr} (h : TP w B v m) : (oall m).length ≤ 65536 ∧ (∀ x, (obehind m x).length ≤ 65536) ∧ (ovals m).length ≤ 65536 := by
  cases m with
  | none => exact ⟨by simp [oall], by simp [obehind], by simp [ovals]⟩
  | some M =>
    obtain ⟨b1, b2, rfl, ht⟩ := h
    have h1 := ht.ok.len
    have h2 := ht.ok.n
    refine ⟨by simp [oall]; omega, fun x => by simp [obehind]; omega, by simp [ovals, valsOf]; omega⟩

set_option maxHeartbeats 1000000 in
theorem alike_P {w : World} {B : Nat} {v u : Value} {m : Option Tr} (h : PP w B v u m m) (x y : Int) :
    Calls Try.prog 23 #[v, u, .int .i64 x, .int .i64 y] w fun e w' => e = .returned (.bool true) ∧ Below w.heap.size w w' := by
  obtain ⟨l1, l2, l3⟩ := olen h.t
  have l2 := l2 y
  have b0 := Below.refl w.heap.size w
  go_enter Try.func23, Try.ntmps23
  go_wp2_with fail
  refine (val_P h.t _).mono ?_
  rintro e w1 ⟨rfl, b⟩
  have h1 := h.below b
  have b1 := below_then b0 (Nat.le_refl _) b
  clear h b b0
  go_wp2_with fail
  refine (uval_P h1.u _).mono ?_
  rintro e w2 ⟨rfl, b⟩
  have h2 := h1.below b
  have b2 := below_then b1 (Nat.le_refl _) b
  clear h1 b b1
  go_wp2_with fail
  refine (level_P h2.t _).mono ?_
  rintro e w1 ⟨rfl, b⟩
  have h1 := h2.below b
  have b1 := below_then b2 (Nat.le_refl _) b
  clear h2 b b2
  go_wp2_with fail
  refine (ulevel_P h1.u _).mono ?_
  rintro e w2 ⟨rfl, b⟩
  have h2 := h1.below b
  have b2 := below_then b1 (Nat.le_refl _) b
  clear h1 b b1
  go_wp2_with fail
  refine (reason_P h2.t _).mono ?_
  rintro e w1 ⟨rfl, b⟩
  have h1 := h2.below b
  have b1 := below_then b2 (Nat.le_refl _) b
  clear h2 b b2
  go_wp2_with fail
  refine (ureason_P h1.u _).mono ?_
  rintro e w2 ⟨rfl, b⟩
  have h2 := h1.below b
  have b2 := below_then b1 (Nat.le_refl _) b
  clear h1 b b1
  go_wp2_with fail
  refine (levels_P h2.t).mono ?_
  rintro e w1 ⟨rfl, b⟩
  have h1 := h2.below b
  have b1 := below_then b2 (Nat.le_refl _) b
  clear h2 b b2
  go_wp2_with fail
  refine (ubegun_P h1.u).mono ?_
  rintro e w2 ⟨rfl, b⟩
  have h2 := h1.below b
  have b2 := below_then b1 (Nat.le_refl _) b
  clear h1 b b1
  go_wp2_with fail
  refine (all_P h2.t).mono ?_
  rintro e w1 ⟨g1, rfl, o1, b⟩
  have h1 := h2.below b
  have b1 := below_then b2 (Nat.le_refl _) b
  clear h2 b b2
  go_wp2_with fail
  refine (uall_P h1.u).mono ?_
  rintro e w2 ⟨g2, rfl, o2, b⟩
  have o1' := o1.below b
  have h2 := h1.below b
  have b2 := below_then b1 (Nat.le_refl _) b
  clear h1 b b1 o1
  obtain ⟨A1, k1, rfl, i1⟩ := o1'.form
  obtain ⟨A2, k2, rfl, i2⟩ := o2.form
  clear o1' o2
  go_wp2_with fail
  refine (ints_same i1 i2 (by omega)).mono ?_
  rintro e w1 ⟨rfl, n1, rfl⟩
  have h1 := h2.drewN n1
  have b1 := below_drewN b2 n1
  clear h2 b2 i1 i2
  go_wp2_with fail
  refine (behind_P h1.t _).mono ?_
  rintro e w2 ⟨g1, rfl, o1, b⟩
  have h2 := h1.below b
  have b2 := below_then b1 (Nat.le_refl _) b
  clear h1 b b1
  go_wp2_with fail
  refine (ubehind_P h2.u _).mono ?_
  rintro e w1 ⟨g2, rfl, o2, b⟩
  have o1' := o1.below b
  have h1 := h2.below b
  have b1 := below_then b2 (Nat.le_refl _) b
  clear h2 b b2 o1
  obtain ⟨A1, k1, rfl, i1⟩ := o1'.form
  obtain ⟨A2, k2, rfl, i2⟩ := o2.form
  clear o1' o2
  go_wp2_with fail
  refine (ints_same i1 i2 (by omega)).mono ?_
  rintro e w2 ⟨rfl, n1, rfl⟩
  have h2 := h1.drewN n1
  have b2 := below_drewN b1 n1
  clear h1 b1 i1 i2
  go_wp2_with fail
  refine (values_P h2.t).mono ?_
  rintro e w1 ⟨g1, rfl, o1, b⟩
  have h1 := h2.below b
  have b1 := below_then b2 (Nat.le_refl _) b
  clear h2 b b2
  go_wp2_with fail
  refine (uvalues_P h1.u).mono ?_
  rintro e w2 ⟨g2, rfl, o2, b⟩
  have o1' := o1.below b
  have b2 := below_then b1 (Nat.le_refl _) b
  clear h1 b b1 o1
  obtain ⟨A1, rfl, i1⟩ := o1'
  obtain ⟨A2, rfl, i2⟩ := o2
  generalize ovals m = l at *
  have I1 := Lib.hid i1
  have I2 := Lib.hid i2
  clear i1 i2 l1 l2
  go_wp2_with fail
  go_loopw [73] (fun i wr => ∃ (k d : Nat), k ≤ l.length ∧ i = .int .i64 k ∧ wr = w2.drewN d) (fun i _ => l.length - (intOf i).toNat)
  case atStart => exact ⟨0, 0, Nat.zero_le _, rfl, rfl⟩
  case round =>
    obtain ⟨k, d, hk, rfl, rfl⟩ := hrel
    by_cases hlt : k < l.length
    · obtain ⟨ga, rfl, _, _, ca⟩ := I1.out k hlt
      obtain ⟨gb, rfl, _, _, cb⟩ := I2.out k hlt
      generalize l[k] = z at *
      clear I1 I2
      generalize l.length = n at *
      go_wp2_with fail
      go_quiet (fail)
      go_wp2_with fail
      exact ⟨⟨k + 1, _, by omega, by go_num, rfl⟩, by simp [intOf]; omega⟩
    · obtain rfl : k = l.length := by omega
      go_wp2_with fail
      go_ret
      exact ⟨rfl, below_drewN b2 _⟩
end Go.Proofs.Ytfdfblokbojcfaa

/- Sums and differences that may be: the reference's, the program's. -/
import Derived.Test.YtlipnnibagidiaaShQ
namespace Go.Proofs.Ytlipnnibagidiaa
open Go.RowKit

theorem numB_may (x : Int) : numB x = mayI x := rfl
theorem may_wrap_add {a b : Int} (ha : mayI a = true) (hb : mayI b = true) : mayI (wrap64 (a + b)) = mayI (a + b) := by
  rw [mayI_iff] at ha hb
  rw [Bool.eq_iff_iff, mayI_iff, mayI_iff]
  unfold wrap64
  omega
theorem may_wrap_sub {a b : Int} (ha : mayI a = true) (hb : mayI b = true) : mayI (wrap64 (a - b)) = mayI (a - b) := by
  rw [mayI_iff] at ha hb
  rw [Bool.eq_iff_iff, mayI_iff, mayI_iff]
  unfold wrap64
  omega
theorem may_id {x : Int} (h : mayI x = true) : wrap64 x = x := by
  rw [mayI_iff] at h
  unfold wrap64
  omega
theorem addN_cases (a b : Int) : (mayI a = true ∧ mayI b = true ∧ mayI (a + b) = true ∧ addN a b = (a + b, 0)) ∨ ((mayI a && mayI b && mayI (a + b)) = false ∧ addN a b = (0, 10)) := by
  unfold addN
  cases h : (mayI a && mayI b && mayI (a + b)) with
  | true =>
    rw [Bool.and_eq_true, Bool.and_eq_true] at h
    exact .inl ⟨h.1.1, h.1.2, h.2, rfl⟩
  | false => exact .inr ⟨rfl, rfl⟩
theorem subN_cases (a b : Int) : (mayI a = true ∧ mayI b = true ∧ mayI (a - b) = true ∧ subN a b = (a - b, 0)) ∨ ((mayI a && mayI b && mayI (a - b)) = false ∧ subN a b = (0, 10)) := by
  unfold subN
  cases h : (mayI a && mayI b && mayI (a - b)) with
  | true =>
    rw [Bool.and_eq_true, Bool.and_eq_true] at h
    exact .inl ⟨h.1.1, h.1.2, h.2, rfl⟩
  | false => exact .inr ⟨rfl, rfl⟩
theorem may5_ok (n : Int) (w : World) : Calls Try.prog 67 #[.int .i64 n] w fun e w' => e = .returned (.bool (mayI n)) ∧ w = w' := by
  have := num5_ok n w
  rwa [numB_may] at this
theorem may_ok1 (n : Int) (w : World) : Calls Try.prog 53 #[.int .i64 n] w fun e w' => e = .returned (.bool (mayI n)) ∧ w = w' := by
  have := num_ok n w
  rwa [numB_may] at this
theorem radd_ok (a b : Int) (w : World) : Calls Try.prog 59 #[.int .i64 a, .int .i64 b] w fun e w' => e = .returned (.tuple #[.int .i64 (addN a b).1, .int .i64 (addN a b).2]) ∧ w = w' := by
  obtain ⟨ra, hra⟩ : ∃ r, mayI a = r := ⟨_, rfl⟩
  obtain ⟨rb, hrb⟩ : ∃ r, mayI b = r := ⟨_, rfl⟩
  obtain ⟨rs, hrs⟩ : ∃ r, mayI (a + b) = r := ⟨_, rfl⟩
  have K1 : Hid (∀ W, Calls Try.prog 67 #[.int .i64 a] W fun e w' => e = .returned (.bool ra) ∧ W = w') := Lib.hid fun W => hra ▸ may5_ok a W
  have K2 : Hid (∀ W, Calls Try.prog 67 #[.int .i64 b] W fun e w' => e = .returned (.bool rb) ∧ W = w') := Lib.hid fun W => hrb ▸ may5_ok b W
  have hcs := addN_cases a b
  rw [hra, hrb, hrs] at hcs
  have HW := Lib.hid (fun (h : mayI a = true) (k : mayI b = true) => may_wrap_add h k)
  have HI := Lib.hid (fun (h : mayI (a + b) = true) => may_id h)
  obtain ⟨q, hq⟩ : ∃ q, addN a b = q := ⟨_, rfl⟩
  rw [hq] at hcs ⊢
  have HCS := Lib.hid hcs
  have HRA := Lib.hid hra
  have HRB := Lib.hid hrb
  have HRS := Lib.hid hrs
  clear hcs hra hrb hrs hq
  cases ra with
  | false =>
    obtain rfl : q = (0, 10) := by rcases HCS.out with ⟨h, _⟩ | ⟨_, h⟩; cases h; exact h
    go_enter Try.func59, Try.ntmps59
    go_wp2_with fail
    refine (K1.out _).mono ?_
    rintro e w1 ⟨rfl, rfl⟩
    go_wp2_with fail
    go_ret2
    exact ⟨rfl, rfl⟩
  | true =>
    cases rb with
    | false =>
      obtain rfl : q = (0, 10) := by rcases HCS.out with ⟨_, h, _⟩ | ⟨_, h⟩; cases h; exact h
      go_enter Try.func59, Try.ntmps59
      go_wp2_with fail
      refine (K1.out _).mono ?_
      rintro e w1 ⟨rfl, rfl⟩
      go_wp2_with fail
      refine (K2.out _).mono ?_
      rintro e w1 ⟨rfl, rfl⟩
      go_wp2_with fail
      go_ret2
      exact ⟨rfl, rfl⟩
    | true =>
      have K3 : Hid (∀ W, Calls Try.prog 67 #[.int .i64 (wrap64 (a + b))] W fun e w' => e = .returned (.bool rs) ∧ W = w') := Lib.hid fun W => by
        have := may5_ok (wrap64 (a + b)) W
        rwa [HW.out HRA.out HRB.out, HRS.out] at this
      cases rs with
      | false =>
        obtain rfl : q = (0, 10) := by rcases HCS.out with ⟨_, _, h, _⟩ | ⟨_, h⟩; cases h; exact h
        go_enter Try.func59, Try.ntmps59
        go_wp2_with fail
        refine (K1.out _).mono ?_
        rintro e w1 ⟨rfl, rfl⟩
        go_wp2_with fail
        refine (K2.out _).mono ?_
        rintro e w1 ⟨rfl, rfl⟩
        go_wp2_with fail
        refine (K3.out _).mono ?_
        rintro e w1 ⟨rfl, rfl⟩
        go_wp2_with fail
        go_ret2
        exact ⟨rfl, rfl⟩
      | true =>
        obtain rfl : q = (a + b, 0) := by rcases HCS.out with ⟨_, _, _, h⟩ | ⟨h, _⟩; exact h; cases h
        have hid := HI.out HRS.out
        go_enter Try.func59, Try.ntmps59
        go_wp2_with fail
        refine (K1.out _).mono ?_
        rintro e w1 ⟨rfl, rfl⟩
        go_wp2_with fail
        refine (K2.out _).mono ?_
        rintro e w1 ⟨rfl, rfl⟩
        rw [hid] at K3
        go_wp2_with fail
        refine (K3.out _).mono ?_
        rintro e w1 ⟨rfl, rfl⟩
        go_wp2_with fail
        go_ret2
        refine ⟨?_, rfl⟩
        show Ending.returned (.tuple #[.int .i64 (wrap64 (a + b)), .int .i64 0]) = Ending.returned (.tuple #[.int .i64 (a + b), .int .i64 0])
        rw [hid] 
theorem rsub_ok (a b : Int) (w : World) : Calls Try.prog 58 #[.int .i64 a, .int .i64 b] w fun e w' => e = .returned (.tuple #[.int .i64 (subN a b).1, .int .i64 (subN a b).2]) ∧ w = w' := by
  obtain ⟨ra, hra⟩ : ∃ r, mayI a = r := ⟨_, rfl⟩
  obtain ⟨rb, hrb⟩ : ∃ r, mayI b = r := ⟨_, rfl⟩
  obtain ⟨rs, hrs⟩ : ∃ r, mayI (a - b) = r := ⟨_, rfl⟩
  have K1 : Hid (∀ W, Calls Try.prog 67 #[.int .i64 a] W fun e w' => e = .returned (.bool ra) ∧ W = w') := Lib.hid fun W => hra ▸ may5_ok a W
  have K2 : Hid (∀ W, Calls Try.prog 67 #[.int .i64 b] W fun e w' => e = .returned (.bool rb) ∧ W = w') := Lib.hid fun W => hrb ▸ may5_ok b W
  have hcs := subN_cases a b
  rw [hra, hrb, hrs] at hcs
  have HW := Lib.hid (fun (h : mayI a = true) (k : mayI b = true) => may_wrap_sub h k)
  have HI := Lib.hid (fun (h : mayI (a - b) = true) => may_id h)
  obtain ⟨q, hq⟩ : ∃ q, subN a b = q := ⟨_, rfl⟩
  rw [hq] at hcs ⊢
  have HCS := Lib.hid hcs
  have HRA := Lib.hid hra
  have HRB := Lib.hid hrb
  have HRS := Lib.hid hrs
  clear hcs hra hrb hrs hq
  cases ra with
  | false =>
    obtain rfl : q = (0, 10) := by rcases HCS.out with ⟨h, _⟩ | ⟨_, h⟩; cases h; exact h
    go_enter Try.func58, Try.ntmps58
    go_wp2_with fail
    refine (K1.out _).mono ?_
    rintro e w1 ⟨rfl, rfl⟩
    go_wp2_with fail
    go_ret2
    exact ⟨rfl, rfl⟩
  | true =>
    cases rb with
    | false =>
      obtain rfl : q = (0, 10) := by rcases HCS.out with ⟨_, h, _⟩ | ⟨_, h⟩; cases h; exact h
      go_enter Try.func58, Try.ntmps58
      go_wp2_with fail
      refine (K1.out _).mono ?_
      rintro e w1 ⟨rfl, rfl⟩
      go_wp2_with fail
      refine (K2.out _).mono ?_
      rintro e w1 ⟨rfl, rfl⟩
      go_wp2_with fail
      go_ret2
      exact ⟨rfl, rfl⟩
    | true =>
      have K3 : Hid (∀ W, Calls Try.prog 67 #[.int .i64 (wrap64 (a - b))] W fun e w' => e = .returned (.bool rs) ∧ W = w') := Lib.hid fun W => by
        have := may5_ok (wrap64 (a - b)) W
        rwa [HW.out HRA.out HRB.out, HRS.out] at this
      cases rs with
      | false =>
        obtain rfl : q = (0, 10) := by rcases HCS.out with ⟨_, _, h, _⟩ | ⟨_, h⟩; cases h; exact h
        go_enter Try.func58, Try.ntmps58
        go_wp2_with fail
        refine (K1.out _).mono ?_
        rintro e w1 ⟨rfl, rfl⟩
        go_wp2_with fail
        refine (K2.out _).mono ?_
        rintro e w1 ⟨rfl, rfl⟩
        go_wp2_with fail
        refine (K3.out _).mono ?_
        rintro e w1 ⟨rfl, rfl⟩
        go_wp2_with fail
        go_ret2
        exact ⟨rfl, rfl⟩
      | true =>
        obtain rfl : q = (a - b, 0) := by rcases HCS.out with ⟨_, _, _, h⟩ | ⟨h, _⟩; exact h; cases h
        have hid := HI.out HRS.out
        go_enter Try.func58, Try.ntmps58
        go_wp2_with fail
        refine (K1.out _).mono ?_
        rintro e w1 ⟨rfl, rfl⟩
        go_wp2_with fail
        refine (K2.out _).mono ?_
        rintro e w1 ⟨rfl, rfl⟩
        rw [hid] at K3
        go_wp2_with fail
        refine (K3.out _).mono ?_
        rintro e w1 ⟨rfl, rfl⟩
        go_wp2_with fail
        go_ret2
        refine ⟨?_, rfl⟩
        show Ending.returned (.tuple #[.int .i64 (wrap64 (a - b)), .int .i64 0]) = Ending.returned (.tuple #[.int .i64 (a - b), .int .i64 0])
        rw [hid] 
end Go.Proofs.Ytlipnnibagidiaa

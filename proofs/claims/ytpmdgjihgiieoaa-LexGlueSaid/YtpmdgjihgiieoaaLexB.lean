/- The tests of strings: all, May, Reserved, Plain. -/
import Derived.Test.YtpmdgjihgiieoaaLexA
import Derived.Lib.Strings
import Derived.Lib.IndexBytes
import Derived.Deep.LoopGhost
import Derived.WalkSpells
namespace Go.Proofs.Ytpmdgjihgiieoaa
open Go.RowKit

/-- A string's bytes. -/
abbrev byts (s : ByteArray) : List UInt8 := s.data.toList
theorem byts_len (s : ByteArray) : (byts s).length = s.size := (Lib.size_eq s).symm
theorem byts_at {s : ByteArray} {i : Nat} (h : i < s.size) : (byts s)[i]? = some s[i] := Lib.data_getElem? s i h
theorem byts_drop {s : ByteArray} {i : Nat} (h : i < s.size) : (byts s).drop i = s[i] :: (byts s).drop (i + 1) := by
  have h1 : i < (byts s).length := by rw [byts_len]; exact h
  rw [List.drop_eq_getElem_cons h1]
  have h2 := byts_at h
  rw [List.getElem?_eq_getElem h1] at h2
  injection h2 with h2
  rw [h2]
theorem byts_end {s : ByteArray} {i : Nat} (h : s.size ≤ i) : (byts s).drop i = [] := List.drop_eq_nil_of_le (by rw [byts_len]; exact h)

theorem all_inside (s : ByteArray) (w : World) (hs : s.size ≤ 9223372036854775807) :
    Calls Try.prog 31 #[.string s, .func (.func 32) #[] #[]] w fun e w' => e = .returned (.bool ((byts s).all fun c => insideN c.toNat)) ∧ w = w' := by
  go_enter Try.func31, Try.ntmps31
  go_wp2
  go_loopg [8] s.size (fun g v wx => w = wx ∧ ∃ i : Nat, i + g = s.size ∧ v = .int .i64 i ∧ ((byts s).drop i).all (fun c => insideN c.toNat) = (byts s).all fun c => insideN c.toNat)
  case atStart => exact ⟨rfl, 0, by omega, rfl, rfl⟩
  case round =>
    obtain ⟨rfl, i, hig, rfl, hinv⟩ := hrel
    have HI := Lib.hid hinv
    clear hinv
    cases gk with
    | zero =>
      have d1 : decide ((i : Int) < s.size) = false := by simp; omega
      go_wp2
      go_ret
      rw [← HI.out, byts_end (by omega)]
      exact ⟨rfl, rfl⟩
    | succ g =>
      have hiz : (i : Int) < (s.size : Int) := by omega
      have hin : i < s.size := by omega
      have d1 : decide ((i : Int) < s.size) = true := decide_eq_true hiz
      obtain ⟨x, hx⟩ : ∃ x : UInt8, s[i]'(by omega) = x := ⟨_, rfl⟩
      have hx8 := x.toNat_lt
      have HX := Lib.hid hx
      cases hp : insideN x.toNat with
      | true =>
        have Hp := Lib.hid hp
        clear hp
        go_wp2_with (go_at_call 32; refine (inside_ok x.toNat hx8).mono ?_; rintro e w1 ⟨rfl, rfl⟩; rw [Hp.out])
        go_roundg g
        case measure => omega
        case rel => exact ⟨rfl, i + 1, by omega, by go_num, by rw [← HI.out, byts_drop hin, HX.out, List.all_cons, Hp.out, Bool.true_and]⟩
      | false =>
        have Hp := Lib.hid hp
        clear hp
        go_wp2_with (go_at_call 32; refine (inside_ok x.toNat hx8).mono ?_; rintro e w1 ⟨rfl, rfl⟩; rw [Hp.out])
        go_ret
        rw [← HI.out, byts_drop hin, HX.out, List.all_cons, Hp.out, Bool.false_and]
        exact ⟨rfl, rfl⟩

theorem all_sign (s : ByteArray) (w : World) (hs : s.size ≤ 9223372036854775807) :
    Calls Try.prog 31 #[.string s, .func (.func 35) #[] #[]] w fun e w' => e = .returned (.bool ((byts s).all fun c => signN c.toNat)) ∧ w = w' := by
  go_enter Try.func31, Try.ntmps31
  go_wp2
  go_loopg [8] s.size (fun g v wx => w = wx ∧ ∃ i : Nat, i + g = s.size ∧ v = .int .i64 i ∧ ((byts s).drop i).all (fun c => signN c.toNat) = (byts s).all fun c => signN c.toNat)
  case atStart => exact ⟨rfl, 0, by omega, rfl, rfl⟩
  case round =>
    obtain ⟨rfl, i, hig, rfl, hinv⟩ := hrel
    have HI := Lib.hid hinv
    clear hinv
    cases gk with
    | zero =>
      have d1 : decide ((i : Int) < s.size) = false := by simp; omega
      go_wp2
      go_ret
      rw [← HI.out, byts_end (by omega)]
      exact ⟨rfl, rfl⟩
    | succ g =>
      have hiz : (i : Int) < (s.size : Int) := by omega
      have hin : i < s.size := by omega
      have d1 : decide ((i : Int) < s.size) = true := decide_eq_true hiz
      obtain ⟨x, hx⟩ : ∃ x : UInt8, s[i]'(by omega) = x := ⟨_, rfl⟩
      have hx8 := x.toNat_lt
      have HX := Lib.hid hx
      cases hp : signN x.toNat with
      | true =>
        have Hp := Lib.hid hp
        clear hp
        go_wp2_with (go_at_call 35; refine (sign_ok x.toNat hx8).mono ?_; rintro e w1 ⟨rfl, rfl⟩; rw [Hp.out])
        go_roundg g
        case measure => omega
        case rel => exact ⟨rfl, i + 1, by omega, by go_num, by rw [← HI.out, byts_drop hin, HX.out, List.all_cons, Hp.out, Bool.true_and]⟩
      | false =>
        have Hp := Lib.hid hp
        clear hp
        go_wp2_with (go_at_call 35; refine (sign_ok x.toNat hx8).mono ?_; rintro e w1 ⟨rfl, rfl⟩; rw [Hp.out])
        go_ret
        rw [← HI.out, byts_drop hin, HX.out, List.all_cons, Hp.out, Bool.false_and]
        exact ⟨rfl, rfl⟩

theorem all_digit (s : ByteArray) (w : World) (hs : s.size ≤ 9223372036854775807) :
    Calls Try.prog 31 #[.string s, .func (.func 34) #[] #[]] w fun e w' => e = .returned (.bool ((byts s).all fun c => digitN c.toNat)) ∧ w = w' := by
  go_enter Try.func31, Try.ntmps31
  go_wp2
  go_loopg [8] s.size (fun g v wx => w = wx ∧ ∃ i : Nat, i + g = s.size ∧ v = .int .i64 i ∧ ((byts s).drop i).all (fun c => digitN c.toNat) = (byts s).all fun c => digitN c.toNat)
  case atStart => exact ⟨rfl, 0, by omega, rfl, rfl⟩
  case round =>
    obtain ⟨rfl, i, hig, rfl, hinv⟩ := hrel
    have HI := Lib.hid hinv
    clear hinv
    cases gk with
    | zero =>
      have d1 : decide ((i : Int) < s.size) = false := by simp; omega
      go_wp2
      go_ret
      rw [← HI.out, byts_end (by omega)]
      exact ⟨rfl, rfl⟩
    | succ g =>
      have hiz : (i : Int) < (s.size : Int) := by omega
      have hin : i < s.size := by omega
      have d1 : decide ((i : Int) < s.size) = true := decide_eq_true hiz
      obtain ⟨x, hx⟩ : ∃ x : UInt8, s[i]'(by omega) = x := ⟨_, rfl⟩
      have hx8 := x.toNat_lt
      have HX := Lib.hid hx
      cases hp : digitN x.toNat with
      | true =>
        have Hp := Lib.hid hp
        clear hp
        go_wp2_with (go_at_call 34; refine (digit_ok x.toNat hx8).mono ?_; rintro e w1 ⟨rfl, rfl⟩; rw [Hp.out])
        go_roundg g
        case measure => omega
        case rel => exact ⟨rfl, i + 1, by omega, by go_num, by rw [← HI.out, byts_drop hin, HX.out, List.all_cons, Hp.out, Bool.true_and]⟩
      | false =>
        have Hp := Lib.hid hp
        clear hp
        go_wp2_with (go_at_call 34; refine (digit_ok x.toNat hx8).mono ?_; rintro e w1 ⟨rfl, rfl⟩; rw [Hp.out])
        go_ret
        rw [← HI.out, byts_drop hin, HX.out, List.all_cons, Hp.out, Bool.false_and]
        exact ⟨rfl, rfl⟩

end Go.Proofs.Ytpmdgjihgiieoaa

/- The tests of bytes. -/
import Derived.Test.YtephhendkmhggaaProg
import Derived.Test.YtephhendkmhggaaOpen
import Derived.Lib.Strings
import Derived.Lib.IndexBytes
import Derived.Deep.LoopGhost
import Derived.WalkSpells
import Derived.Lib.Bytealg
import Derived.Lib.IndexLaws
namespace Go.Proofs.Ytephhendkmhggaa
open Go.RowKit

def whiteN (n : Nat) : Bool := n == 32 || n == 9 || n == 10 || n == 13
def digitN (n : Nat) : Bool := decide (48 ≤ n ∧ n < 58)
def insideN (n : Nat) : Bool := n != 124 && n != 92 && (decide (32 ≤ n ∧ n ≤ 126) || whiteN n)
def signN (n : Nat) : Bool :=
  if n < 64 then 17582031444648132608 / 2 ^ n % 2 == 1 else if n < 128 then 5188146765496319999 / 2 ^ (n - 64) % 2 == 1 else false

theorem white_ok {w : World} (n : Nat) :
    Calls Try.prog 42 #[.int .u8 n] w fun e w' => e = .returned (.bool (whiteN n)) ∧ w = w' := by
  by_cases h1 : n = 32
  · subst h1
    go_enter Try.func42, Try.ntmps42
    go_wp2
    go_ret
    exact ⟨rfl, rfl⟩
  by_cases h2 : n = 9
  · subst h2
    go_enter Try.func42, Try.ntmps42
    go_wp2
    go_ret
    exact ⟨rfl, rfl⟩
  by_cases h3 : n = 10
  · subst h3
    go_enter Try.func42, Try.ntmps42
    go_wp2
    go_ret
    exact ⟨rfl, rfl⟩
  have b1 : ((n : Int) == 32) = false := beq_eq_false_iff_ne.2 (by omega)
  have b2 : ((n : Int) == 9) = false := beq_eq_false_iff_ne.2 (by omega)
  have b3 : ((n : Int) == 10) = false := beq_eq_false_iff_ne.2 (by omega)
  have e : whiteN n = ((n : Int) == 13) := by
    unfold whiteN
    rw [beq_eq_false_iff_ne.2 h1, beq_eq_false_iff_ne.2 h2, beq_eq_false_iff_ne.2 h3]
    by_cases h : n = 13
    · subst h; rfl
    · rw [beq_eq_false_iff_ne.2 h]
      exact (beq_eq_false_iff_ne.2 (by omega)).symm
  clear h1 h2 h3
  rw [e]
  clear e
  go_enter Try.func42, Try.ntmps42
  go_wp2
  go_ret
  exact ⟨rfl, rfl⟩

theorem digit_ok {w : World} (n : Nat) (hn : n < 256) :
    Calls Try.prog 86 #[.int .u8 n] w fun e w' => e = .returned (.bool (digitN n)) ∧ w = w' := by
  have e : digitN n = decide (((n : Int) - 48) % 256 < 10) := by
    unfold digitN
    exact decide_eq_decide.2 (by omega)
  rw [e]
  clear e
  go_enter Try.func86, Try.ntmps86
  go_wp2
  go_ret
  exact ⟨rfl, rfl⟩

theorem sign_low : ∀ n : Fin 64, (bits BinOp.and IntKind.u64 ((17582031444648132608 : Int) / 2 ^ n.val) 1 == 1) = signN n.val := by decide +kernel
theorem sign_high : ∀ n : Fin 64, (bits BinOp.and IntKind.u64 ((5188146765496319999 : Int) / 2 ^ n.val) 1 == 1) = signN (n.val + 64) := by decide +kernel

set_option maxRecDepth 100000 in
theorem sign_ok {w : World} (n : Nat) (hn : n < 256) :
    Calls Try.prog 77 #[.int .u8 n] w fun e w' => e = .returned (.bool (signN n)) ∧ w = w' := by
  by_cases h1 : n < 64
  · have d1 : decide ((n : Int) < 64) = true := by simp; omega
    rw [← sign_low ⟨n, h1⟩]
    clear hn
    go_enter Try.func77, Try.ntmps77
    go_wp2
    go_ret
    exact ⟨rfl, rfl⟩
  have d1 : decide ((n : Int) < 64) = false := by simp; omega
  by_cases h2 : n < 128
  · obtain ⟨m, rfl⟩ : ∃ m, n = m + 64 := ⟨n - 64, by omega⟩
    have hm : m < 64 := by omega
    have d2 : decide (((m + 64 : Nat) : Int) < 128) = true := by simp; omega
    rw [← sign_high ⟨m, hm⟩]
    have e1 : (((m + 64 : Nat) : Int) - 64) % 256 = m := by omega
    generalize ((m + 64 : Nat) : Int) = q at *
    clear hn h1 h2
    go_enter Try.func77, Try.ntmps77
    go_wp2
    go_ret
    exact ⟨rfl, rfl⟩
  have d2 : decide ((n : Int) < 128) = false := by simp; omega
  have e : signN n = false := by unfold signN; rw [if_neg h1, if_neg h2]
  rw [e]
  clear e hn
  go_enter Try.func77, Try.ntmps77
  go_wp2
  go_ret
  exact ⟨rfl, rfl⟩

theorem inside_ok {w : World} (n : Nat) (hn : n < 256) :
    Calls Try.prog 84 #[.int .u8 n] w fun e w' => e = .returned (.bool (insideN n)) ∧ w = w' := by
  by_cases h1 : n = 124
  · subst h1
    go_enter Try.func84, Try.ntmps84
    go_wp2
    go_ret
    exact ⟨rfl, rfl⟩
  by_cases h2 : n = 92
  · subst h2
    go_enter Try.func84, Try.ntmps84
    go_wp2
    go_ret
    exact ⟨rfl, rfl⟩
  have b1 : ((n : Int) != 124) = true := bne_iff_ne.2 (by omega)
  have b2 : ((n : Int) != 92) = true := bne_iff_ne.2 (by omega)
  have e : insideN n = (decide (32 ≤ n ∧ n ≤ 126) || whiteN n) := by
    unfold insideN
    rw [bne_iff_ne.2 h1, bne_iff_ne.2 h2]
    rfl
  rw [e]
  clear e h1 h2
  by_cases h3 : 32 ≤ n
  · have d3 : decide ((32 : Int) ≤ n) = true := by simp; omega
    by_cases h4 : n ≤ 126
    · have d4 : decide ((n : Int) ≤ 126) = true := by simp; omega
      have e : decide (32 ≤ n ∧ n ≤ 126) = true := decide_eq_true ⟨h3, h4⟩
      rw [e]
      clear e hn
      go_enter Try.func84, Try.ntmps84
      go_wp2
      go_ret
      exact ⟨rfl, rfl⟩
    · have d4 : decide ((n : Int) ≤ 126) = false := by simp; omega
      have e : decide (32 ≤ n ∧ n ≤ 126) = false := decide_eq_false (by omega)
      rw [e]
      clear e hn
      go_enter Try.func84, Try.ntmps84
      go_wp2_with (go_at_call 42; refine (white_ok n).mono ?_; rintro e w1 ⟨rfl, rfl⟩)
      go_ret
      exact ⟨rfl, rfl⟩
  · have d3 : decide ((32 : Int) ≤ n) = false := by simp; omega
    have e : decide (32 ≤ n ∧ n ≤ 126) = false := decide_eq_false (by omega)
    rw [e]
    clear e hn
    go_enter Try.func84, Try.ntmps84
    go_wp2_with (go_at_call 42; refine (white_ok n).mono ?_; rintro e w1 ⟨rfl, rfl⟩)
    go_ret
    exact ⟨rfl, rfl⟩

/-- By which reader a token is read that begins with a byte. -/
def byN (n : Nat) : Nat :=
  if n = 40 then 0 else if n = 41 then 1 else if n = 124 then 2 else if n = 58 then 3 else if digitN n then 4 else if signN n then 5 else 6

theorem by_ok {w : World} (n : Nat) (hn : n < 256) :
    Calls Try.prog 62 #[.int .u8 n] w fun e w' => e = .returned (.int .i64 (byN n)) ∧ w = w' := by
  by_cases h1 : n = 40
  · subst h1
    go_enter Try.func62, Try.ntmps62
    go_wp2
    go_ret
    exact ⟨rfl, rfl⟩
  by_cases h2 : n = 41
  · subst h2
    go_enter Try.func62, Try.ntmps62
    go_wp2
    go_ret
    exact ⟨rfl, rfl⟩
  by_cases h3 : n = 124
  · subst h3
    go_enter Try.func62, Try.ntmps62
    go_wp2
    go_ret
    exact ⟨rfl, rfl⟩
  by_cases h4 : n = 58
  · subst h4
    go_enter Try.func62, Try.ntmps62
    go_wp2
    go_ret
    exact ⟨rfl, rfl⟩
  have b1 : ((n : Int) == 40) = false := beq_eq_false_iff_ne.2 (by omega)
  have b2 : ((n : Int) == 41) = false := beq_eq_false_iff_ne.2 (by omega)
  have b3 : ((n : Int) == 124) = false := beq_eq_false_iff_ne.2 (by omega)
  have b4 : ((n : Int) == 58) = false := beq_eq_false_iff_ne.2 (by omega)
  have e : byN n = if digitN n then 4 else if signN n then 5 else 6 := by
    unfold byN
    rw [if_neg h1, if_neg h2, if_neg h3, if_neg h4]
  rw [e]
  have Hn := Lib.hid hn
  clear e hn h1 h2 h3 h4
  generalize hd : digitN n = bd
  generalize hs : signN n = bs
  have Hd := Lib.hid hd
  have Hs := Lib.hid hs
  clear hd hs
  cases bd with
  | true =>
    go_enter Try.func62, Try.ntmps62
    go_wp2_with (go_at_call 86; refine (digit_ok n Hn.out).mono ?_; rintro e w1 ⟨rfl, rfl⟩; rw [Hd.out])
    go_ret
    exact ⟨rfl, rfl⟩
  | false =>
    cases bs with
    | true =>
      go_enter Try.func62, Try.ntmps62
      go_wp2_with (first | (go_at_call 86; refine (digit_ok n Hn.out).mono ?_; rintro e w1 ⟨rfl, rfl⟩; rw [Hd.out]) | (go_at_call 77; refine (sign_ok n Hn.out).mono ?_; rintro e w1 ⟨rfl, rfl⟩; rw [Hs.out]))
      go_ret
      exact ⟨rfl, rfl⟩
    | false =>
      go_enter Try.func62, Try.ntmps62
      go_wp2_with (first | (go_at_call 86; refine (digit_ok n Hn.out).mono ?_; rintro e w1 ⟨rfl, rfl⟩; rw [Hd.out]) | (go_at_call 77; refine (sign_ok n Hn.out).mono ?_; rintro e w1 ⟨rfl, rfl⟩; rw [Hs.out]))
      go_ret
      exact ⟨rfl, rfl⟩
end Go.Proofs.Ytephhendkmhggaa

/- The tests of strings: all, May, Reserved, Plain. -/
namespace Go.Proofs.Ytephhendkmhggaa
open Go.RowKit

/-- A string's bytes. -/
abbrev byts (s : ByteArray) : List UInt8 := s.data.toList
theorem byts_len (s : ByteArray) : (byts s).length = s.size := (Lib.size_eq s).symm
theorem byts_at {s : ByteArray} {i : Nat} (h : i < s.size) : (byts s)[i]? = some s[i] := Lib.data_getElem? s i h
theorem byts_drop {s : ByteArray} {i : Nat} (h : i < s.size) : (byts s).drop i = s[i] :: (byts s).drop (i + 1) := by
  have h1 : i < (byts s).length := by rw [byts_len]; exact h
  rw [List.drop_eq_getElem_cons h1]
  have h2 := byts_at h
  rw [List.getElem?_eq_getElem h1] at h2
  injection h2 with h2
  rw [h2]
theorem byts_end {s : ByteArray} {i : Nat} (h : s.size ≤ i) : (byts s).drop i = [] := List.drop_eq_nil_of_le (by rw [byts_len]; exact h)

theorem all_inside (s : ByteArray) (w : World) (hs : s.size ≤ 9223372036854775807) :
    Calls Try.prog 83 #[.string s, .func (.func 84) #[] #[]] w fun e w' => e = .returned (.bool ((byts s).all fun c => insideN c.toNat)) ∧ w = w' := by
  go_enter Try.func83, Try.ntmps83
  go_wp2
  go_loopg [8] s.size (fun g v wx => w = wx ∧ ∃ i : Nat, i + g = s.size ∧ v = .int .i64 i ∧ ((byts s).drop i).all (fun c => insideN c.toNat) = (byts s).all fun c => insideN c.toNat)
  case atStart => exact ⟨rfl, 0, by omega, rfl, rfl⟩
  case round =>
    obtain ⟨rfl, i, hig, rfl, hinv⟩ := hrel
    have HI := Lib.hid hinv
    clear hinv
    cases gk with
    | zero =>
      have d1 : decide ((i : Int) < s.size) = false := by simp; omega
      go_wp2
      go_ret
      rw [← HI.out, byts_end (by omega)]
      exact ⟨rfl, rfl⟩
    | succ g =>
      have hiz : (i : Int) < (s.size : Int) := by omega
      have hin : i < s.size := by omega
      have d1 : decide ((i : Int) < s.size) = true := decide_eq_true hiz
      obtain ⟨x, hx⟩ : ∃ x : UInt8, s[i]'(by omega) = x := ⟨_, rfl⟩
      have hx8 := x.toNat_lt
      have HX := Lib.hid hx
      cases hp : insideN x.toNat with
      | true =>
        have Hp := Lib.hid hp
        clear hp
        go_wp2_with (go_at_call 84; refine (inside_ok x.toNat hx8).mono ?_; rintro e w1 ⟨rfl, rfl⟩; rw [Hp.out])
        go_roundg g
        case measure => omega
        case rel => exact ⟨rfl, i + 1, by omega, by go_num, by rw [← HI.out, byts_drop hin, HX.out, List.all_cons, Hp.out, Bool.true_and]⟩
      | false =>
        have Hp := Lib.hid hp
        clear hp
        go_wp2_with (go_at_call 84; refine (inside_ok x.toNat hx8).mono ?_; rintro e w1 ⟨rfl, rfl⟩; rw [Hp.out])
        go_ret
        rw [← HI.out, byts_drop hin, HX.out, List.all_cons, Hp.out, Bool.false_and]
        exact ⟨rfl, rfl⟩

theorem all_sign (s : ByteArray) (w : World) (hs : s.size ≤ 9223372036854775807) :
    Calls Try.prog 83 #[.string s, .func (.func 77) #[] #[]] w fun e w' => e = .returned (.bool ((byts s).all fun c => signN c.toNat)) ∧ w = w' := by
  go_enter Try.func83, Try.ntmps83
  go_wp2
  go_loopg [8] s.size (fun g v wx => w = wx ∧ ∃ i : Nat, i + g = s.size ∧ v = .int .i64 i ∧ ((byts s).drop i).all (fun c => signN c.toNat) = (byts s).all fun c => signN c.toNat)
  case atStart => exact ⟨rfl, 0, by omega, rfl, rfl⟩
  case round =>
    obtain ⟨rfl, i, hig, rfl, hinv⟩ := hrel
    have HI := Lib.hid hinv
    clear hinv
    cases gk with
    | zero =>
      have d1 : decide ((i : Int) < s.size) = false := by simp; omega
      go_wp2
      go_ret
      rw [← HI.out, byts_end (by omega)]
      exact ⟨rfl, rfl⟩
    | succ g =>
      have hiz : (i : Int) < (s.size : Int) := by omega
      have hin : i < s.size := by omega
      have d1 : decide ((i : Int) < s.size) = true := decide_eq_true hiz
      obtain ⟨x, hx⟩ : ∃ x : UInt8, s[i]'(by omega) = x := ⟨_, rfl⟩
      have hx8 := x.toNat_lt
      have HX := Lib.hid hx
      cases hp : signN x.toNat with
      | true =>
        have Hp := Lib.hid hp
        clear hp
        go_wp2_with (go_at_call 77; refine (sign_ok x.toNat hx8).mono ?_; rintro e w1 ⟨rfl, rfl⟩; rw [Hp.out])
        go_roundg g
        case measure => omega
        case rel => exact ⟨rfl, i + 1, by omega, by go_num, by rw [← HI.out, byts_drop hin, HX.out, List.all_cons, Hp.out, Bool.true_and]⟩
      | false =>
        have Hp := Lib.hid hp
        clear hp
        go_wp2_with (go_at_call 77; refine (sign_ok x.toNat hx8).mono ?_; rintro e w1 ⟨rfl, rfl⟩; rw [Hp.out])
        go_ret
        rw [← HI.out, byts_drop hin, HX.out, List.all_cons, Hp.out, Bool.false_and]
        exact ⟨rfl, rfl⟩

theorem all_digit (s : ByteArray) (w : World) (hs : s.size ≤ 9223372036854775807) :
    Calls Try.prog 83 #[.string s, .func (.func 86) #[] #[]] w fun e w' => e = .returned (.bool ((byts s).all fun c => digitN c.toNat)) ∧ w = w' := by
  go_enter Try.func83, Try.ntmps83
  go_wp2
  go_loopg [8] s.size (fun g v wx => w = wx ∧ ∃ i : Nat, i + g = s.size ∧ v = .int .i64 i ∧ ((byts s).drop i).all (fun c => digitN c.toNat) = (byts s).all fun c => digitN c.toNat)
  case atStart => exact ⟨rfl, 0, by omega, rfl, rfl⟩
  case round =>
    obtain ⟨rfl, i, hig, rfl, hinv⟩ := hrel
    have HI := Lib.hid hinv
    clear hinv
    cases gk with
    | zero =>
      have d1 : decide ((i : Int) < s.size) = false := by simp; omega
      go_wp2
      go_ret
      rw [← HI.out, byts_end (by omega)]
      exact ⟨rfl, rfl⟩
    | succ g =>
      have hiz : (i : Int) < (s.size : Int) := by omega
      have hin : i < s.size := by omega
      have d1 : decide ((i : Int) < s.size) = true := decide_eq_true hiz
      obtain ⟨x, hx⟩ : ∃ x : UInt8, s[i]'(by omega) = x := ⟨_, rfl⟩
      have hx8 := x.toNat_lt
      have HX := Lib.hid hx
      cases hp : digitN x.toNat with
      | true =>
        have Hp := Lib.hid hp
        clear hp
        go_wp2_with (go_at_call 86; refine (digit_ok x.toNat hx8).mono ?_; rintro e w1 ⟨rfl, rfl⟩; rw [Hp.out])
        go_roundg g
        case measure => omega
        case rel => exact ⟨rfl, i + 1, by omega, by go_num, by rw [← HI.out, byts_drop hin, HX.out, List.all_cons, Hp.out, Bool.true_and]⟩
      | false =>
        have Hp := Lib.hid hp
        clear hp
        go_wp2_with (go_at_call 86; refine (digit_ok x.toNat hx8).mono ?_; rintro e w1 ⟨rfl, rfl⟩; rw [Hp.out])
        go_ret
        rw [← HI.out, byts_drop hin, HX.out, List.all_cons, Hp.out, Bool.false_and]
        exact ⟨rfl, rfl⟩

end Go.Proofs.Ytephhendkmhggaa

/- Reserved, May, Plain, Quote. -/
namespace Go.Proofs.Ytephhendkmhggaa
open Go.RowKit

def reservedL (l : List UInt8) : Bool :=
  l == [95] || l == [33] || l == [97, 115] || l == [108, 101, 116] || l == [101, 120, 105, 115, 116, 115] || l == [102, 111, 114, 97, 108, 108] || l == [109, 97, 116, 99, 104] || l == [112, 97, 114]

theorem reserved_ok (s : ByteArray) (w : World) :
    Calls Try.prog 90 #[.string s] w fun e w' => e = .returned (.bool (reservedL (byts s))) ∧ w = w' := by
  rw [show byts s = s.toList from (Lib.toList_data s).symm]
  go_enter Try.func90, Try.ntmps90
  go_wp2
  all_goals (go_ret; refine ⟨?_, rfl⟩; simp_all [reservedL])

theorem rreserved_ok (s : ByteArray) (w : World) :
    Calls Try.prog 72 #[.string s] w fun e w' => e = .returned (.bool (reservedL (byts s))) ∧ w = w' := by
  rw [show byts s = s.toList from (Lib.toList_data s).symm]
  go_enter Try.func72, Try.ntmps72
  go_wp2
  all_goals (go_ret; refine ⟨?_, rfl⟩; simp_all [reservedL])

def headB (l : List UInt8) : Nat := match l with | [] => 0 | c :: _ => c.toNat
def plainL (l : List UInt8) : Bool := !l.isEmpty && (decide (l.length ≤ 100) && ((l.all fun c => signN c.toNat) && (!digitN (headB l) && !reservedL l)))

theorem plain_ok (s : ByteArray) (w : World) (hs : s.size ≤ 9223372036854775807) :
    Calls Try.prog 89 #[.string s] w fun e w' => e = .returned (.bool (plainL (byts s))) ∧ w = w' := by
  by_cases h1 : s.size = 0
  · have e0 : byts s = [] := List.eq_nil_of_length_eq_zero (by rw [byts_len]; exact h1)
    have d1 : s.toList.isEmpty = true := by rw [Lib.toList_data]; exact List.isEmpty_iff.2 e0
    rw [e0]
    clear e0 h1
    go_enter Try.func89, Try.ntmps89
    go_wp2
    go_ret
    exact ⟨rfl, rfl⟩
  have e1 : plainL (byts s) = (decide (s.size ≤ 100) && (((byts s).all fun c => signN c.toNat) && (!digitN (headB (byts s)) && !reservedL (byts s)))) := by
    unfold plainL
    rw [byts_len, show (byts s).isEmpty = false by rw [List.isEmpty_eq_false_iff]; intro h; have := byts_len s; rw [h] at this; exact h1 this.symm]
    rfl
  have d1 : s.toList.isEmpty = false := by
    rw [Lib.toList_data, List.isEmpty_eq_false_iff]
    intro h
    have := byts_len s
    rw [byts, h] at this
    exact h1 this.symm
  rw [e1]
  clear e1
  by_cases h2 : s.size ≤ 100
  · have d2 : decide ((s.size : Int) ≤ 100) = true := by simp; omega
    rw [decide_eq_true h2, Bool.true_and]
    cases ha : (byts s).all fun c => signN c.toNat with
    | false =>
      rw [Bool.false_and]
      have Ha := Lib.hid ha
      clear ha h1 h2
      go_enter Try.func89, Try.ntmps89
      go_wp2_with (go_at_call 83; refine (all_sign s _ hs).mono ?_; rintro e w1 ⟨rfl, rfl⟩; rw [Ha.out])
      go_ret
      exact ⟨rfl, rfl⟩
    | true =>
      rw [Bool.true_and]
      have hz : 0 < s.size := by omega
      obtain ⟨x, hx⟩ : ∃ x : UInt8, s[0]'(by omega) = x := ⟨_, rfl⟩
      have hx8 := x.toNat_lt
      have hh : headB (byts s) = x.toNat := by
        have h3 := byts_drop hz
        rw [List.drop_zero, hx] at h3
        rw [h3]
        rfl
      rw [hh]
      have Ha := Lib.hid ha
      clear ha h1 h2 hh
      have hiz : (0 : Int) < s.size := by omega
      cases hd : digitN x.toNat with
      | true =>
        have Hd := Lib.hid hd
        clear hd
        go_enter Try.func89, Try.ntmps89
        go_wp2_with (first | (go_at_call 83; refine (all_sign s _ hs).mono ?_; rintro e w1 ⟨rfl, rfl⟩; rw [Ha.out]) | (go_at_call 86; refine (digit_ok x.toNat hx8).mono ?_; rintro e w1 ⟨rfl, rfl⟩; rw [Hd.out]))
        go_ret
        exact ⟨rfl, rfl⟩
      | false =>
        have Hd := Lib.hid hd
        clear hd
        generalize hr : reservedL (byts s) = br
        have Hr := Lib.hid hr
        clear hr
        go_enter Try.func89, Try.ntmps89
        go_wp2_with (first | (go_at_call 83; refine (all_sign s _ hs).mono ?_; rintro e w1 ⟨rfl, rfl⟩; rw [Ha.out]) | (go_at_call 86; refine (digit_ok x.toNat hx8).mono ?_; rintro e w1 ⟨rfl, rfl⟩; rw [Hd.out]) | (go_at_call 90; refine (reserved_ok s _).mono ?_; rintro e w1 ⟨rfl, rfl⟩; rw [Hr.out]))
        go_ret
        exact ⟨rfl, rfl⟩
  · have d2 : decide ((s.size : Int) ≤ 100) = false := by simp; omega
    rw [decide_eq_false h2, Bool.false_and]
    clear h1 h2
    go_enter Try.func89, Try.ntmps89
    go_wp2
    go_ret
    exact ⟨rfl, rfl⟩

def quoteL (l : List UInt8) : List UInt8 := if plainL l || reservedL l then l else 124 :: (l ++ [124])

theorem quote_ok (s : ByteArray) (w : World) (hs : s.size ≤ 1000) :
    Calls Try.prog 69 #[.string s] w fun e w' => (∃ q, e = .returned (.string q) ∧ byts q = quoteL (byts s)) ∧ w = w' := by
  unfold quoteL
  generalize hp : plainL (byts s) = bp
  generalize hr : reservedL (byts s) = br
  have Hp := Lib.hid hp
  have Hr := Lib.hid hr
  clear hp hr
  cases bp with
  | true =>
    go_enter Try.func69, Try.ntmps69
    go_wp2_with (go_at_call 89; refine (plain_ok s _ (by omega)).mono ?_; rintro e w1 ⟨rfl, rfl⟩; rw [Hp.out])
    go_ret
    exact ⟨⟨s, rfl, rfl⟩, rfl⟩
  | false =>
    cases br with
    | true =>
      go_enter Try.func69, Try.ntmps69
      go_wp2_with (first | (go_at_call 89; refine (plain_ok s _ (by omega)).mono ?_; rintro e w1 ⟨rfl, rfl⟩; rw [Hp.out]) | (go_at_call 90; refine (reserved_ok s _).mono ?_; rintro e w1 ⟨rfl, rfl⟩; rw [Hr.out]))
      go_ret
      exact ⟨⟨s, rfl, rfl⟩, rfl⟩
    | false =>
      go_enter Try.func69, Try.ntmps69
      go_wp2_with (first | (go_at_call 89; refine (plain_ok s _ (by omega)).mono ?_; rintro e w1 ⟨rfl, rfl⟩; rw [Hp.out]) | (go_at_call 90; refine (reserved_ok s _).mono ?_; rintro e w1 ⟨rfl, rfl⟩; rw [Hr.out]))
      go_ret
      exact ⟨⟨_, rfl, by simp [byts]⟩, rfl⟩

theorem rwhite_ok {w : World} (n : Nat) :
    Calls Try.prog 36 #[.int .u8 n] w fun e w' => e = .returned (.bool (whiteN n)) ∧ w = w' := by
  by_cases h1 : n = 32
  · subst h1
    go_enter Try.func36, Try.ntmps36
    go_wp2
    go_ret
    exact ⟨rfl, rfl⟩
  by_cases h2 : n = 9
  · subst h2
    go_enter Try.func36, Try.ntmps36
    go_wp2
    go_ret
    exact ⟨rfl, rfl⟩
  by_cases h3 : n = 10
  · subst h3
    go_enter Try.func36, Try.ntmps36
    go_wp2
    go_ret
    exact ⟨rfl, rfl⟩
  have b1 : ((n : Int) == 32) = false := beq_eq_false_iff_ne.2 (by omega)
  have b2 : ((n : Int) == 9) = false := beq_eq_false_iff_ne.2 (by omega)
  have b3 : ((n : Int) == 10) = false := beq_eq_false_iff_ne.2 (by omega)
  have e : whiteN n = ((n : Int) == 13) := by
    unfold whiteN
    rw [beq_eq_false_iff_ne.2 h1, beq_eq_false_iff_ne.2 h2, beq_eq_false_iff_ne.2 h3]
    by_cases h : n = 13
    · subst h; rfl
    · rw [beq_eq_false_iff_ne.2 h]
      exact (beq_eq_false_iff_ne.2 (by omega)).symm
  clear h1 h2 h3
  rw [e]
  clear e
  go_enter Try.func36, Try.ntmps36
  go_wp2
  go_ret
  exact ⟨rfl, rfl⟩
end Go.Proofs.Ytephhendkmhggaa

/- The tokens of a text, over lists of bytes. -/
namespace Go.Proofs.Ytephhendkmhggaa

/-- How many bytes are skipped: in a comment, or not. -/
def sk : Bool → List UInt8 → Nat
  | _, [] => 0
  | false, c :: r => if c.toNat = 59 then 1 + sk true r else if whiteN c.toNat then 1 + sk false r else 0
  | true, c :: r => if c.toNat = 10 then 1 + sk false r else 1 + sk true r

theorem sk_le : ∀ (b : Bool) (l : List UInt8), sk b l ≤ l.length
  | _, [] => by simp [sk]
  | false, c :: r => by
    have h1 := sk_le true r
    have h2 := sk_le false r
    unfold sk
    simp only [List.length_cons]
    split
    · omega
    · split <;> omega
  | true, c :: r => by
    have h1 := sk_le true r
    have h2 := sk_le false r
    unfold sk
    simp only [List.length_cons]
    split <;> omega

theorem sk_c (c : UInt8) (r : List UInt8) : sk true (c :: r) = if c.toNat = 10 then 1 + sk false r else 1 + sk true r := by rw [sk]
theorem sk_f (c : UInt8) (r : List UInt8) : sk false (c :: r) = if c.toNat = 59 then 1 + sk true r else if whiteN c.toNat then 1 + sk false r else 0 := by rw [sk]
theorem ub_eq {a b : UInt8} (h : (a == b) = true) : a = b := eq_of_beq h
theorem nat_ten {c : UInt8} : c.toNat = 10 ↔ c = 10 := ⟨fun h => UInt8.toNat_inj.1 h, fun h => by rw [h]; rfl⟩

theorem sk_none : ∀ (l : List UInt8), Lib.indexByte l 10 = -1 → sk true l = l.length
  | [], _ => rfl
  | c :: r, h => by
    unfold Lib.indexByte at h
    by_cases hc : c = 10
    · rw [hc] at h; simp at h
    · rw [if_neg (by simp [hc])] at h
      have hr : Lib.indexByte r 10 = -1 := by
        by_cases h2 : Lib.indexByte r 10 = -1
        · exact h2
        · rw [if_neg (by simp [h2])] at h
          have := Lib.indexByte_ge r 10
          omega
      rw [sk_c, if_neg (fun h => hc (nat_ten.1 h)), sk_none r hr, List.length_cons, Nat.add_comm]

theorem sk_some : ∀ (l : List UInt8) (o : Nat), Lib.indexByte l 10 = o → o < l.length ∧ sk true l = o + 1 + sk false (l.drop (o + 1))
  | [], o, h => by simp [Lib.indexByte] at h
  | c :: r, o, h => by
    unfold Lib.indexByte at h
    by_cases hc : c = 10
    · rw [if_pos (by simp [hc])] at h
      obtain rfl : o = 0 := by omega
      refine ⟨by simp, ?_⟩
      rw [sk_c, if_pos (nat_ten.2 hc)]
      simp
    · rw [if_neg (by simp [hc])] at h
      by_cases h2 : Lib.indexByte r 10 = -1
      · rw [if_pos (by simp [h2])] at h; omega
      · rw [if_neg (by simp [h2])] at h
        obtain ⟨p, rfl⟩ : ∃ p, o = p + 1 := ⟨o - 1, by have := Lib.indexByte_ge r 10; omega⟩
        obtain ⟨h3, h4⟩ := sk_some r p (by omega)
        refine ⟨by simp; omega, ?_⟩
        rw [sk_c, if_neg (fun h => hc (nat_ten.1 h)), h4, List.drop_succ_cons]
        omega

/-- Where a text is read from that is asked for at a number. -/
def fromI (at_ : Int) (n : Nat) : Nat := (max 0 (min at_ n)).toNat
theorem fromI_le (at_ : Int) (n : Nat) : fromI at_ n ≤ n := by unfold fromI; omega

/-- The signs at the front. -/
def signs (l : List UInt8) : List UInt8 := l.takeWhile fun c => signN c.toNat
theorem signs_le (l : List UInt8) : (signs l).length ≤ l.length := (List.takeWhile_sublist _).length_le

/-- A token as it is read: its kind, its text, how many bytes. -/
structure Raw where
  k : Nat
  t : List UInt8
  n : Nat
deriving DecidableEq

def raw (k : Nat) (t : List UInt8) (n : Nat) : Option Raw := if t.length ≤ 100 then some ⟨k, t, n⟩ else none

def tokBar (r : List UInt8) : Option Raw :=
  if (124 : UInt8) ∈ r then
    let t := r.takeWhile (fun c => c != 124)
    if t.all (fun c => insideN c.toNat) then raw 2 t (t.length + 2) else none
  else none
def tokKey (r : List UInt8) : Option Raw := let k := signs r; if k = [] then none else raw 4 k (k.length + 1)
def tokNum (l : List UInt8) : Option Raw :=
  let d := signs l
  if d.all (fun c => digitN c.toNat) && (d == [48] || headB d != 48) then raw 3 d d.length else none
def tokName (l : List UInt8) : Option Raw := let d := signs l; raw 2 d d.length

/-- The token at the front of a text of which nothing is skipped. -/
def tok : List UInt8 → Option Raw
  | [] => none
  | c :: r =>
    match byN c.toNat with
    | 0 => raw 0 [] 1
    | 1 => raw 1 [] 1
    | 2 => tokBar r
    | 3 => tokKey r
    | 4 => tokNum (c :: r)
    | 5 => tokName (c :: r)
    | _ => none
end Go.Proofs.Ytephhendkmhggaa

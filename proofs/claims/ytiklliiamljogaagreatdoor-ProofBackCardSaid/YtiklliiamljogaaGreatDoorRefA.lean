/- The tests of bytes. -/
import Derived.Test.YtiklliiamljogaaGreatDoorProg
import Derived.Test.YtiklliiamljogaaGreatDoorClA
import Derived.Lib.Strings
import Derived.Lib.IndexBytes
import Derived.Deep.LoopGhost
import Derived.WalkSpells
import Derived.Lib.Bytealg
import Derived.Lib.IndexLaws
import Derived.Lib.ItoaMem
import Derived.Test.YtiklliiamljogaaGreatDoorShelf
namespace Go.Proofs.YtiklliiamljogaaGreatDoor
open Go.RowKit

def whiteN (n : Nat) : Bool := n == 32 || n == 9 || n == 10 || n == 13
def digitN (n : Nat) : Bool := decide (48 ≤ n ∧ n < 58)
def insideN (n : Nat) : Bool := n != 124 && n != 92 && (decide (32 ≤ n ∧ n ≤ 126) || whiteN n)
def signN (n : Nat) : Bool :=
  if n < 64 then 17582031444648132608 / 2 ^ n % 2 == 1 else if n < 128 then 5188146765496319999 / 2 ^ (n - 64) % 2 == 1 else false

theorem white_ok {w : World} (n : Nat) :
    Calls Tryz.prog 77 #[.int .u8 n] w fun e w' => e = .returned (.bool (whiteN n)) ∧ w = w' := by
  by_cases h1 : n = 32
  · subst h1
    go_enter Tryz.func77, Tryz.ntmps77
    go_wp2
    go_ret
    exact ⟨rfl, rfl⟩
  by_cases h2 : n = 9
  · subst h2
    go_enter Tryz.func77, Tryz.ntmps77
    go_wp2
    go_ret
    exact ⟨rfl, rfl⟩
  by_cases h3 : n = 10
  · subst h3
    go_enter Tryz.func77, Tryz.ntmps77
    go_wp2
    go_ret
    exact ⟨rfl, rfl⟩
  have b1 : ((n : Int) == 32) = false := beq_eq_false_iff_ne.2 (by omega)
  have b2 : ((n : Int) == 9) = false := beq_eq_false_iff_ne.2 (by omega)
  have b3 : ((n : Int) == 10) = false := beq_eq_false_iff_ne.2 (by omega)
  have e : whiteN n = ((n : Int) == 13) := by
    unfold whiteN
    rw [beq_eq_false_iff_ne.2 h1, beq_eq_false_iff_ne.2 h2, beq_eq_false_iff_ne.2 h3]
    by_cases h : n = 13
    · subst h; rfl
    · rw [beq_eq_false_iff_ne.2 h]
      exact (beq_eq_false_iff_ne.2 (by omega)).symm
  clear h1 h2 h3
  rw [e]
  clear e
  go_enter Tryz.func77, Tryz.ntmps77
  go_wp2
  go_ret
  exact ⟨rfl, rfl⟩

theorem digit_ok {w : World} (n : Nat) (hn : n < 256) :
    Calls Tryz.prog 122 #[.int .u8 n] w fun e w' => e = .returned (.bool (digitN n)) ∧ w = w' := by
  have e : digitN n = decide (((n : Int) - 48) % 256 < 10) := by
    unfold digitN
    exact decide_eq_decide.2 (by omega)
  rw [e]
  clear e
  go_enter Tryz.func122, Tryz.ntmps122
  go_wp2
  go_ret
  exact ⟨rfl, rfl⟩

theorem sign_low : ∀ n : Fin 64, (bits BinOp.and IntKind.u64 ((17582031444648132608 : Int) / 2 ^ n.val) 1 == 1) = signN n.val := by decide +kernel
theorem sign_high : ∀ n : Fin 64, (bits BinOp.and IntKind.u64 ((5188146765496319999 : Int) / 2 ^ n.val) 1 == 1) = signN (n.val + 64) := by decide +kernel

set_option maxRecDepth 100000 in
theorem sign_ok {w : World} (n : Nat) (hn : n < 256) :
    Calls Tryz.prog 123 #[.int .u8 n] w fun e w' => e = .returned (.bool (signN n)) ∧ w = w' := by
  by_cases h1 : n < 64
  · have d1 : decide ((n : Int) < 64) = true := by simp; omega
    rw [← sign_low ⟨n, h1⟩]
    clear hn
    go_enter Tryz.func123, Tryz.ntmps123
    go_wp2
    go_ret
    exact ⟨rfl, rfl⟩
  have d1 : decide ((n : Int) < 64) = false := by simp; omega
  by_cases h2 : n < 128
  · obtain ⟨m, rfl⟩ : ∃ m, n = m + 64 := ⟨n - 64, by omega⟩
    have hm : m < 64 := by omega
    have d2 : decide (((m + 64 : Nat) : Int) < 128) = true := by simp; omega
    rw [← sign_high ⟨m, hm⟩]
    have e1 : (((m + 64 : Nat) : Int) - 64) % 256 = m := by omega
    generalize ((m + 64 : Nat) : Int) = q at *
    clear hn h1 h2
    go_enter Tryz.func123, Tryz.ntmps123
    go_wp2
    go_ret
    exact ⟨rfl, rfl⟩
  have d2 : decide ((n : Int) < 128) = false := by simp; omega
  have e : signN n = false := by unfold signN; rw [if_neg h1, if_neg h2]
  rw [e]
  clear e hn
  go_enter Tryz.func123, Tryz.ntmps123
  go_wp2
  go_ret
  exact ⟨rfl, rfl⟩

theorem inside_ok {w : World} (n : Nat) (hn : n < 256) :
    Calls Tryz.prog 120 #[.int .u8 n] w fun e w' => e = .returned (.bool (insideN n)) ∧ w = w' := by
  by_cases h1 : n = 124
  · subst h1
    go_enter Tryz.func120, Tryz.ntmps120
    go_wp2
    go_ret
    exact ⟨rfl, rfl⟩
  by_cases h2 : n = 92
  · subst h2
    go_enter Tryz.func120, Tryz.ntmps120
    go_wp2
    go_ret
    exact ⟨rfl, rfl⟩
  have b1 : ((n : Int) != 124) = true := bne_iff_ne.2 (by omega)
  have b2 : ((n : Int) != 92) = true := bne_iff_ne.2 (by omega)
  have e : insideN n = (decide (32 ≤ n ∧ n ≤ 126) || whiteN n) := by
    unfold insideN
    rw [bne_iff_ne.2 h1, bne_iff_ne.2 h2]
    rfl
  rw [e]
  clear e h1 h2
  by_cases h3 : 32 ≤ n
  · have d3 : decide ((32 : Int) ≤ n) = true := by simp; omega
    by_cases h4 : n ≤ 126
    · have d4 : decide ((n : Int) ≤ 126) = true := by simp; omega
      have e : decide (32 ≤ n ∧ n ≤ 126) = true := decide_eq_true ⟨h3, h4⟩
      rw [e]
      clear e hn
      go_enter Tryz.func120, Tryz.ntmps120
      go_wp2
      go_ret
      exact ⟨rfl, rfl⟩
    · have d4 : decide ((n : Int) ≤ 126) = false := by simp; omega
      have e : decide (32 ≤ n ∧ n ≤ 126) = false := decide_eq_false (by omega)
      rw [e]
      clear e hn
      go_enter Tryz.func120, Tryz.ntmps120
      go_wp2_with (go_at_call 77; refine (white_ok n).mono ?_; rintro e w1 ⟨rfl, rfl⟩)
      go_ret
      exact ⟨rfl, rfl⟩
  · have d3 : decide ((32 : Int) ≤ n) = false := by simp; omega
    have e : decide (32 ≤ n ∧ n ≤ 126) = false := decide_eq_false (by omega)
    rw [e]
    clear e hn
    go_enter Tryz.func120, Tryz.ntmps120
    go_wp2_with (go_at_call 77; refine (white_ok n).mono ?_; rintro e w1 ⟨rfl, rfl⟩)
    go_ret
    exact ⟨rfl, rfl⟩

/-- By which reader a token is read that begins with a byte. -/
def byN (n : Nat) : Nat :=
  if n = 40 then 0 else if n = 41 then 1 else if n = 124 then 2 else if n = 58 then 3 else if digitN n then 4 else if signN n then 5 else 6

theorem by_ok {w : World} (n : Nat) (hn : n < 256) :
    Calls Tryz.prog 109 #[.int .u8 n] w fun e w' => e = .returned (.int .i64 (byN n)) ∧ w = w' := by
  by_cases h1 : n = 40
  · subst h1
    go_enter Tryz.func109, Tryz.ntmps109
    go_wp2
    go_ret
    exact ⟨rfl, rfl⟩
  by_cases h2 : n = 41
  · subst h2
    go_enter Tryz.func109, Tryz.ntmps109
    go_wp2
    go_ret
    exact ⟨rfl, rfl⟩
  by_cases h3 : n = 124
  · subst h3
    go_enter Tryz.func109, Tryz.ntmps109
    go_wp2
    go_ret
    exact ⟨rfl, rfl⟩
  by_cases h4 : n = 58
  · subst h4
    go_enter Tryz.func109, Tryz.ntmps109
    go_wp2
    go_ret
    exact ⟨rfl, rfl⟩
  have b1 : ((n : Int) == 40) = false := beq_eq_false_iff_ne.2 (by omega)
  have b2 : ((n : Int) == 41) = false := beq_eq_false_iff_ne.2 (by omega)
  have b3 : ((n : Int) == 124) = false := beq_eq_false_iff_ne.2 (by omega)
  have b4 : ((n : Int) == 58) = false := beq_eq_false_iff_ne.2 (by omega)
  have e : byN n = if digitN n then 4 else if signN n then 5 else 6 := by
    unfold byN
    rw [if_neg h1, if_neg h2, if_neg h3, if_neg h4]
  rw [e]
  have Hn := Lib.hid hn
  clear e hn h1 h2 h3 h4
  generalize hd : digitN n = bd
  generalize hs : signN n = bs
  have Hd := Lib.hid hd
  have Hs := Lib.hid hs
  clear hd hs
  cases bd with
  | true =>
    go_enter Tryz.func109, Tryz.ntmps109
    go_wp2_with (go_at_call 122; refine (digit_ok n Hn.out).mono ?_; rintro e w1 ⟨rfl, rfl⟩; rw [Hd.out])
    go_ret
    exact ⟨rfl, rfl⟩
  | false =>
    cases bs with
    | true =>
      go_enter Tryz.func109, Tryz.ntmps109
      go_wp2_with (first | (go_at_call 122; refine (digit_ok n Hn.out).mono ?_; rintro e w1 ⟨rfl, rfl⟩; rw [Hd.out]) | (go_at_call 123; refine (sign_ok n Hn.out).mono ?_; rintro e w1 ⟨rfl, rfl⟩; rw [Hs.out]))
      go_ret
      exact ⟨rfl, rfl⟩
    | false =>
      go_enter Tryz.func109, Tryz.ntmps109
      go_wp2_with (first | (go_at_call 122; refine (digit_ok n Hn.out).mono ?_; rintro e w1 ⟨rfl, rfl⟩; rw [Hd.out]) | (go_at_call 123; refine (sign_ok n Hn.out).mono ?_; rintro e w1 ⟨rfl, rfl⟩; rw [Hs.out]))
      go_ret
      exact ⟨rfl, rfl⟩
end Go.Proofs.YtiklliiamljogaaGreatDoor

/- The tests of strings: all, May, Reserved, Plain. -/
namespace Go.Proofs.YtiklliiamljogaaGreatDoor
open Go.RowKit

/-- A string's bytes. -/
abbrev byts (s : ByteArray) : List UInt8 := s.data.toList
theorem byts_len (s : ByteArray) : (byts s).length = s.size := (Lib.size_eq s).symm
theorem byts_at {s : ByteArray} {i : Nat} (h : i < s.size) : (byts s)[i]? = some s[i] := Lib.data_getElem? s i h
theorem byts_drop {s : ByteArray} {i : Nat} (h : i < s.size) : (byts s).drop i = s[i] :: (byts s).drop (i + 1) := by
  have h1 : i < (byts s).length := by rw [byts_len]; exact h
  rw [List.drop_eq_getElem_cons h1]
  have h2 := byts_at h
  rw [List.getElem?_eq_getElem h1] at h2
  injection h2 with h2
  rw [h2]
theorem byts_end {s : ByteArray} {i : Nat} (h : s.size ≤ i) : (byts s).drop i = [] := List.drop_eq_nil_of_le (by rw [byts_len]; exact h)

theorem all_inside (s : ByteArray) (w : World) (hs : s.size ≤ 9223372036854775807) :
    Calls Tryz.prog 119 #[.string s, .func (.func 120) #[] #[]] w fun e w' => e = .returned (.bool ((byts s).all fun c => insideN c.toNat)) ∧ w = w' := by
  go_enter Tryz.func119, Tryz.ntmps119
  go_wp2
  go_loopg [8] s.size (fun g v wx => w = wx ∧ ∃ i : Nat, i + g = s.size ∧ v = .int .i64 i ∧ ((byts s).drop i).all (fun c => insideN c.toNat) = (byts s).all fun c => insideN c.toNat)
  case atStart => exact ⟨rfl, 0, by omega, rfl, rfl⟩
  case round =>
    obtain ⟨rfl, i, hig, rfl, hinv⟩ := hrel
    have HI := Lib.hid hinv
    clear hinv
    cases gk with
    | zero =>
      have d1 : decide ((i : Int) < s.size) = false := by simp; omega
      go_wp2
      go_ret
      rw [← HI.out, byts_end (by omega)]
      exact ⟨rfl, rfl⟩
    | succ g =>
      have hiz : (i : Int) < (s.size : Int) := by omega
      have hin : i < s.size := by omega
      have d1 : decide ((i : Int) < s.size) = true := decide_eq_true hiz
      obtain ⟨x, hx⟩ : ∃ x : UInt8, s[i]'(by omega) = x := ⟨_, rfl⟩
      have hx8 := x.toNat_lt
      have HX := Lib.hid hx
      cases hp : insideN x.toNat with
      | true =>
        have Hp := Lib.hid hp
        clear hp
        go_wp2_with (go_at_call 120; refine (inside_ok x.toNat hx8).mono ?_; rintro e w1 ⟨rfl, rfl⟩; rw [Hp.out])
        go_roundg g
        case measure => omega
        case rel => exact ⟨rfl, i + 1, by omega, by go_num, by rw [← HI.out, byts_drop hin, HX.out, List.all_cons, Hp.out, Bool.true_and]⟩
      | false =>
        have Hp := Lib.hid hp
        clear hp
        go_wp2_with (go_at_call 120; refine (inside_ok x.toNat hx8).mono ?_; rintro e w1 ⟨rfl, rfl⟩; rw [Hp.out])
        go_ret
        rw [← HI.out, byts_drop hin, HX.out, List.all_cons, Hp.out, Bool.false_and]
        exact ⟨rfl, rfl⟩

theorem all_sign (s : ByteArray) (w : World) (hs : s.size ≤ 9223372036854775807) :
    Calls Tryz.prog 119 #[.string s, .func (.func 123) #[] #[]] w fun e w' => e = .returned (.bool ((byts s).all fun c => signN c.toNat)) ∧ w = w' := by
  go_enter Tryz.func119, Tryz.ntmps119
  go_wp2
  go_loopg [8] s.size (fun g v wx => w = wx ∧ ∃ i : Nat, i + g = s.size ∧ v = .int .i64 i ∧ ((byts s).drop i).all (fun c => signN c.toNat) = (byts s).all fun c => signN c.toNat)
  case atStart => exact ⟨rfl, 0, by omega, rfl, rfl⟩
  case round =>
    obtain ⟨rfl, i, hig, rfl, hinv⟩ := hrel
    have HI := Lib.hid hinv
    clear hinv
    cases gk with
    | zero =>
      have d1 : decide ((i : Int) < s.size) = false := by simp; omega
      go_wp2
      go_ret
      rw [← HI.out, byts_end (by omega)]
      exact ⟨rfl, rfl⟩
    | succ g =>
      have hiz : (i : Int) < (s.size : Int) := by omega
      have hin : i < s.size := by omega
      have d1 : decide ((i : Int) < s.size) = true := decide_eq_true hiz
      obtain ⟨x, hx⟩ : ∃ x : UInt8, s[i]'(by omega) = x := ⟨_, rfl⟩
      have hx8 := x.toNat_lt
      have HX := Lib.hid hx
      cases hp : signN x.toNat with
      | true =>
        have Hp := Lib.hid hp
        clear hp
        go_wp2_with (go_at_call 123; refine (sign_ok x.toNat hx8).mono ?_; rintro e w1 ⟨rfl, rfl⟩; rw [Hp.out])
        go_roundg g
        case measure => omega
        case rel => exact ⟨rfl, i + 1, by omega, by go_num, by rw [← HI.out, byts_drop hin, HX.out, List.all_cons, Hp.out, Bool.true_and]⟩
      | false =>
        have Hp := Lib.hid hp
        clear hp
        go_wp2_with (go_at_call 123; refine (sign_ok x.toNat hx8).mono ?_; rintro e w1 ⟨rfl, rfl⟩; rw [Hp.out])
        go_ret
        rw [← HI.out, byts_drop hin, HX.out, List.all_cons, Hp.out, Bool.false_and]
        exact ⟨rfl, rfl⟩

theorem all_digit (s : ByteArray) (w : World) (hs : s.size ≤ 9223372036854775807) :
    Calls Tryz.prog 119 #[.string s, .func (.func 122) #[] #[]] w fun e w' => e = .returned (.bool ((byts s).all fun c => digitN c.toNat)) ∧ w = w' := by
  go_enter Tryz.func119, Tryz.ntmps119
  go_wp2
  go_loopg [8] s.size (fun g v wx => w = wx ∧ ∃ i : Nat, i + g = s.size ∧ v = .int .i64 i ∧ ((byts s).drop i).all (fun c => digitN c.toNat) = (byts s).all fun c => digitN c.toNat)
  case atStart => exact ⟨rfl, 0, by omega, rfl, rfl⟩
  case round =>
    obtain ⟨rfl, i, hig, rfl, hinv⟩ := hrel
    have HI := Lib.hid hinv
    clear hinv
    cases gk with
    | zero =>
      have d1 : decide ((i : Int) < s.size) = false := by simp; omega
      go_wp2
      go_ret
      rw [← HI.out, byts_end (by omega)]
      exact ⟨rfl, rfl⟩
    | succ g =>
      have hiz : (i : Int) < (s.size : Int) := by omega
      have hin : i < s.size := by omega
      have d1 : decide ((i : Int) < s.size) = true := decide_eq_true hiz
      obtain ⟨x, hx⟩ : ∃ x : UInt8, s[i]'(by omega) = x := ⟨_, rfl⟩
      have hx8 := x.toNat_lt
      have HX := Lib.hid hx
      cases hp : digitN x.toNat with
      | true =>
        have Hp := Lib.hid hp
        clear hp
        go_wp2_with (go_at_call 122; refine (digit_ok x.toNat hx8).mono ?_; rintro e w1 ⟨rfl, rfl⟩; rw [Hp.out])
        go_roundg g
        case measure => omega
        case rel => exact ⟨rfl, i + 1, by omega, by go_num, by rw [← HI.out, byts_drop hin, HX.out, List.all_cons, Hp.out, Bool.true_and]⟩
      | false =>
        have Hp := Lib.hid hp
        clear hp
        go_wp2_with (go_at_call 122; refine (digit_ok x.toNat hx8).mono ?_; rintro e w1 ⟨rfl, rfl⟩; rw [Hp.out])
        go_ret
        rw [← HI.out, byts_drop hin, HX.out, List.all_cons, Hp.out, Bool.false_and]
        exact ⟨rfl, rfl⟩

end Go.Proofs.YtiklliiamljogaaGreatDoor

/- Reserved, May, Plain, Quote. -/
namespace Go.Proofs.YtiklliiamljogaaGreatDoor
open Go.RowKit

def reservedL (l : List UInt8) : Bool :=
  l == [95] || l == [33] || l == [97, 115] || l == [108, 101, 116] || l == [101, 120, 105, 115, 116, 115] || l == [102, 111, 114, 97, 108, 108] || l == [109, 97, 116, 99, 104] || l == [112, 97, 114]

def headB (l : List UInt8) : Nat := match l with | [] => 0 | c :: _ => c.toNat
def plainL (l : List UInt8) : Bool := !l.isEmpty && (decide (l.length ≤ 100) && ((l.all fun c => signN c.toNat) && (!digitN (headB l) && !reservedL l)))

def quoteL (l : List UInt8) : List UInt8 := if plainL l || reservedL l then l else 124 :: (l ++ [124])

theorem rwhite_ok {w : World} (n : Nat) :
    Calls Tryz.prog 80 #[.int .u8 n] w fun e w' => e = .returned (.bool (whiteN n)) ∧ w = w' := by
  by_cases h1 : n = 32
  · subst h1
    go_enter Tryz.func80, Tryz.ntmps80
    go_wp2
    go_ret
    exact ⟨rfl, rfl⟩
  by_cases h2 : n = 9
  · subst h2
    go_enter Tryz.func80, Tryz.ntmps80
    go_wp2
    go_ret
    exact ⟨rfl, rfl⟩
  by_cases h3 : n = 10
  · subst h3
    go_enter Tryz.func80, Tryz.ntmps80
    go_wp2
    go_ret
    exact ⟨rfl, rfl⟩
  have b1 : ((n : Int) == 32) = false := beq_eq_false_iff_ne.2 (by omega)
  have b2 : ((n : Int) == 9) = false := beq_eq_false_iff_ne.2 (by omega)
  have b3 : ((n : Int) == 10) = false := beq_eq_false_iff_ne.2 (by omega)
  have e : whiteN n = ((n : Int) == 13) := by
    unfold whiteN
    rw [beq_eq_false_iff_ne.2 h1, beq_eq_false_iff_ne.2 h2, beq_eq_false_iff_ne.2 h3]
    by_cases h : n = 13
    · subst h; rfl
    · rw [beq_eq_false_iff_ne.2 h]
      exact (beq_eq_false_iff_ne.2 (by omega)).symm
  clear h1 h2 h3
  rw [e]
  clear e
  go_enter Tryz.func80, Tryz.ntmps80
  go_wp2
  go_ret
  exact ⟨rfl, rfl⟩
end Go.Proofs.YtiklliiamljogaaGreatDoor

/- The tokens of a text, over lists of bytes. -/
namespace Go.Proofs.YtiklliiamljogaaGreatDoor

/-- How many bytes are skipped: in a comment, or not. -/
def sk : Bool → List UInt8 → Nat
  | _, [] => 0
  | false, c :: r => if c.toNat = 59 then 1 + sk true r else if whiteN c.toNat then 1 + sk false r else 0
  | true, c :: r => if c.toNat = 10 then 1 + sk false r else 1 + sk true r

theorem sk_le : ∀ (b : Bool) (l : List UInt8), sk b l ≤ l.length
  | _, [] => by simp [sk]
  | false, c :: r => by
    have h1 := sk_le true r
    have h2 := sk_le false r
    unfold sk
    simp only [List.length_cons]
    split
    · omega
    · split <;> omega
  | true, c :: r => by
    have h1 := sk_le true r
    have h2 := sk_le false r
    unfold sk
    simp only [List.length_cons]
    split <;> omega

theorem sk_c (c : UInt8) (r : List UInt8) : sk true (c :: r) = if c.toNat = 10 then 1 + sk false r else 1 + sk true r := by rw [sk]
theorem sk_f (c : UInt8) (r : List UInt8) : sk false (c :: r) = if c.toNat = 59 then 1 + sk true r else if whiteN c.toNat then 1 + sk false r else 0 := by rw [sk]
theorem ub_eq {a b : UInt8} (h : (a == b) = true) : a = b := eq_of_beq h
theorem nat_ten {c : UInt8} : c.toNat = 10 ↔ c = 10 := ⟨fun h => UInt8.toNat_inj.1 h, fun h => by rw [h]; rfl⟩

theorem sk_none : ∀ (l : List UInt8), Lib.indexByte l 10 = -1 → sk true l = l.length
  | [], _ => rfl
  | c :: r, h => by
    unfold Lib.indexByte at h
    by_cases hc : c = 10
    · rw [hc] at h; simp at h
    · rw [if_neg (by simp [hc])] at h
      have hr : Lib.indexByte r 10 = -1 := by
        by_cases h2 : Lib.indexByte r 10 = -1
        · exact h2
        · rw [if_neg (by simp [h2])] at h
          have := Lib.indexByte_ge r 10
          omega
      rw [sk_c, if_neg (fun h => hc (nat_ten.1 h)), sk_none r hr, List.length_cons, Nat.add_comm]

theorem sk_some : ∀ (l : List UInt8) (o : Nat), Lib.indexByte l 10 = o → o < l.length ∧ sk true l = o + 1 + sk false (l.drop (o + 1))
  | [], o, h => by simp [Lib.indexByte] at h
  | c :: r, o, h => by
    unfold Lib.indexByte at h
    by_cases hc : c = 10
    · rw [if_pos (by simp [hc])] at h
      obtain rfl : o = 0 := by omega
      refine ⟨by simp, ?_⟩
      rw [sk_c, if_pos (nat_ten.2 hc)]
      simp
    · rw [if_neg (by simp [hc])] at h
      by_cases h2 : Lib.indexByte r 10 = -1
      · rw [if_pos (by simp [h2])] at h; omega
      · rw [if_neg (by simp [h2])] at h
        obtain ⟨p, rfl⟩ : ∃ p, o = p + 1 := ⟨o - 1, by have := Lib.indexByte_ge r 10; omega⟩
        obtain ⟨h3, h4⟩ := sk_some r p (by omega)
        refine ⟨by simp; omega, ?_⟩
        rw [sk_c, if_neg (fun h => hc (nat_ten.1 h)), h4, List.drop_succ_cons]
        omega

/-- Where a text is read from that is asked for at a number. -/
def fromI (at_ : Int) (n : Nat) : Nat := (max 0 (min at_ n)).toNat
theorem fromI_le (at_ : Int) (n : Nat) : fromI at_ n ≤ n := by unfold fromI; omega

/-- The signs at the front. -/
def signs (l : List UInt8) : List UInt8 := l.takeWhile fun c => signN c.toNat
theorem signs_le (l : List UInt8) : (signs l).length ≤ l.length := (List.takeWhile_sublist _).length_le

/-- A token as it is read: its kind, its text, how many bytes. -/
structure Raw where
  k : Nat
  t : List UInt8
  n : Nat
deriving DecidableEq

def raw (k : Nat) (t : List UInt8) (n : Nat) : Option Raw := if t.length ≤ 100 then some ⟨k, t, n⟩ else none

def tokBar (r : List UInt8) : Option Raw :=
  if (124 : UInt8) ∈ r then
    let t := r.takeWhile (fun c => c != 124)
    if t.all (fun c => insideN c.toNat) then raw 2 t (t.length + 2) else none
  else none
def tokKey (r : List UInt8) : Option Raw := let k := signs r; if k = [] then none else raw 4 k (k.length + 1)
def tokNum (l : List UInt8) : Option Raw :=
  let d := signs l
  if d.all (fun c => digitN c.toNat) && (d == [48] || headB d != 48) then raw 3 d d.length else none
def tokName (l : List UInt8) : Option Raw := let d := signs l; raw 2 d d.length

/-- The token at the front of a text of which nothing is skipped. -/
def tok : List UInt8 → Option Raw
  | [] => none
  | c :: r =>
    match byN c.toNat with
    | 0 => raw 0 [] 1
    | 1 => raw 1 [] 1
    | 2 => tokBar r
    | 3 => tokKey r
    | 4 => tokNum (c :: r)
    | 5 => tokName (c :: r)
    | _ => none
end Go.Proofs.YtiklliiamljogaaGreatDoor

/- Numerals. -/
namespace Go.Proofs.YtiklliiamljogaaGreatDoor
open Go.RowKit

/-- Is a text a numeral, of whatever length? -/
def numL (t : List UInt8) : Bool := (!t.isEmpty) && (!(decide (1 < t.length) && headB t == 48)) && t.all fun c => digitN c.toNat
end Go.Proofs.YtiklliiamljogaaGreatDoor

/- Numerals: what they are read as. -/
namespace Go.Proofs.YtiklliiamljogaaGreatDoor
open Go.RowKit

/-- A numeral's number: none, where it is beyond 2^62. -/
def pgo : Int → List UInt8 → Option Int
  | n, [] => some n
  | n, c :: r => if (4611686018427387904 - ((c.toNat : Int) - 48)) / 10 < n then none else pgo (n * 10 + ((c.toNat : Int) - 48)) r
/-- Parse: the number and the error. -/
def parseN (t : List UInt8) : Int × Int := if numL t then (match pgo 0 t with | some n => (n, 0) | none => (0, 10)) else (0, 20)

theorem pgo_append : ∀ (l m : List UInt8) (n : Int), pgo n (l ++ m) = (pgo n l).bind fun k => pgo k m
  | [], m, n => rfl
  | c :: r, m, n => by
    show pgo n (c :: (r ++ m)) = _
    rw [pgo, pgo]
    split
    · rfl
    · exact pgo_append r m _
theorem dig_toNat {d : Nat} (h : d < 10) : (UInt8.ofNat (48 + d)).toNat = 48 + d := by
  rw [UInt8.toNat_ofNat', Nat.mod_eq_of_lt (by omega)]
theorem dec_digits (u : Nat) : (Lib.decDigits u).all (fun c => digitN c.toNat) = true := by
  induction u using Nat.strongRecOn with
  | _ u ih =>
    rw [Lib.decDigits]
    split
    · rename_i h
      rw [List.all_cons, List.all_nil, dig_toNat h, Bool.and_true]
      exact decide_eq_true ⟨by omega, by omega⟩
    · rw [List.all_append, ih (u / 10) (by omega), List.all_cons, List.all_nil, dig_toNat (by omega), Bool.and_true, Bool.true_and]
      exact decide_eq_true ⟨by omega, by omega⟩
theorem dec_ne (u : Nat) : Lib.decDigits u ≠ [] := by
  rw [Lib.decDigits]
  split
  · exact List.cons_ne_nil _ _
  · simp
theorem dec_head (u : Nat) (hu : 0 < u) : headB (Lib.decDigits u) ≠ 48 := by
  induction u using Nat.strongRecOn with
  | _ u ih =>
    rw [Lib.decDigits]
    split
    · rename_i h
      show (UInt8.ofNat (48 + u)).toNat ≠ 48
      rw [dig_toNat h]
      omega
    · have h1 := ih (u / 10) (by omega) (by omega)
      have h2 := dec_ne (u / 10)
      cases hd : Lib.decDigits (u / 10) with
      | nil => exact absurd hd h2
      | cons c r => rw [hd] at h1; exact h1
theorem num_dec (u : Nat) : numL (Lib.decDigits u) = true := by
  unfold numL
  rw [dec_digits, List.isEmpty_eq_false_iff.2 (dec_ne u)]
  by_cases hu : u < 10
  · rw [show Lib.decDigits u = [UInt8.ofNat (48 + u)] from Lib.decDigits_one hu]
    rfl
  · have h1 : (headB (Lib.decDigits u) == 48) = false := beq_eq_false_iff_ne.2 (dec_head u (by omega))
    rw [h1]
    simp
theorem pgo_dec (u : Nat) (hu : u ≤ 4611686018427387904) : pgo 0 (Lib.decDigits u) = some (u : Int) := by
  induction u using Nat.strongRecOn with
  | _ u ih =>
    rw [Lib.decDigits]
    split
    · rename_i h
      rw [pgo, dig_toNat h, if_neg (by omega), pgo]
      congr 1
      omega
    · rw [pgo_append, ih (u / 10) (by omega) (by omega)]
      show pgo ((u / 10 : Nat) : Int) [_] = _
      rw [pgo, dig_toNat (by omega), if_neg (by omega), pgo]
      congr 1
      omega
theorem parse_itoa (n : Int) (h0 : 0 ≤ n) (h1 : n ≤ 4611686018427387904) : parseN (Lib.itoa n) = (n, 0) := by
  obtain ⟨u, rfl⟩ := Int.eq_ofNat_of_zero_le h0
  unfold parseN
  rw [Lib.itoa_nonneg, num_dec, if_pos rfl, pgo_dec u (by omega)]
theorem itoa_len {n : Int} (h0 : 0 ≤ n) (h1 : n ≤ 1073741824) : (Lib.itoa n).length ≤ 10 := by
  obtain ⟨u, rfl⟩ := Int.eq_ofNat_of_zero_le h0
  rw [Lib.itoa_nonneg, Lib.decDigits_length]
  have step : ∀ (v k : Nat), v < 10 ^ (k + 1) → Lib.nDigits v ≤ k + 1 := by
    intro v k
    induction k generalizing v with
    | zero => intro h; rw [Lib.nDigits_small (by simpa using h)]; exact Nat.le_refl _
    | succ k ih =>
      intro h
      by_cases hv : v < 10
      · rw [Lib.nDigits_small hv]; omega
      · rw [Lib.nDigits_big hv]
        have := ih (v / 10) (by rw [Nat.pow_succ] at h; omega)
        omega
  exact step u 9 (by omega)
end Go.Proofs.YtiklliiamljogaaGreatDoor

/- Skip. -/
namespace Go.Proofs.YtiklliiamljogaaGreatDoor
open Go.RowKit

theorem extract_end (s : ByteArray) (i : Nat) : (s.extract i s.size).data.toList = (byts s).drop i := Lib.extract_to_end s i

set_option maxHeartbeats 1000000 in
theorem skip_ok (s : ByteArray) (a : Int) (w : World) (hs : s.size ≤ 1000000) :
    Calls Tryz.prog 62 #[.string s, .int .i64 a] w fun e w' => e = .returned (.int .i64 (fromI a s.size + sk false ((byts s).drop (fromI a s.size)) : Nat)) ∧ w = w' := by
  obtain ⟨b, hb⟩ : ∃ b : Nat, max 0 (min a (s.size : Int)) = (b : Int) := ⟨fromI a s.size, by unfold fromI; omega⟩
  have hfrom : fromI a s.size = b := by unfold fromI; omega
  rw [hfrom]
  have hbs : b ≤ s.size := by omega
  clear hfrom
  go_enter Tryz.func62, Tryz.ntmps62
  go_wp2
  go_loopw [1] (fun v wx => w = wx ∧ ∃ i : Nat, i ≤ s.size ∧ v = .int .i64 i ∧ i + sk false ((byts s).drop i) = b + sk false ((byts s).drop b)) (fun v _ => (s.size - intOf v).toNat)
  case atStart => exact ⟨rfl, b, hbs, rfl, rfl⟩
  case round =>
    obtain ⟨rfl, i, hi, rfl, hinv⟩ := hrel
    have HI := Lib.hid hinv
    clear hinv hb
    by_cases hin : i < s.size
    · have hiz : (i : Int) < (s.size : Int) := by omega
      have d1 : decide ((i : Int) < s.size) = true := decide_eq_true hiz
      obtain ⟨x, hx⟩ : ∃ x : UInt8, s[i]'(by omega) = x := ⟨_, rfl⟩
      have hdr := Lib.hid (byts_drop hin)
      by_cases h59 : x.toNat = 59
      · have d2 : ((x.toNat : Int) == 59) = true := by rw [h59]; rfl
        have hsk : sk true ((byts s).drop i) = sk false ((byts s).drop i) := by
          rw [hdr.out, hx]
          rw [sk_f, sk_c, if_pos h59, if_neg (by omega)]
        generalize hix : Lib.indexByte ((byts s).drop i) 10 = o
        have Hsk := Lib.hid hsk
        have Hix := Lib.hid hix
        have hge := Lib.indexByte_ge ((byts s).drop i) 10
        rw [hix] at hge
        clear hsk hix h59
        by_cases ho : o < 0
        · have d3 : decide (o < 0) = true := decide_eq_true ho
          go_wp2_with (go_at_call 76; refine (Tryz.strings_IndexByte _ _ _).mono ?_; rintro e w1 ⟨rfl, rfl⟩; rw [extract_end, show (10 : Int).toNat.toUInt8 = 10 from rfl, Hix.out])
          go_ret
          refine ⟨?_, rfl⟩
          rw [← HI.out, ← Hsk.out, sk_none _ (by rw [Hix.out]; omega), List.length_drop, byts_len, Nat.add_sub_cancel' hi]
          rfl
        · obtain ⟨p, rfl⟩ := Int.eq_ofNat_of_zero_le (by omega : 0 ≤ o)
          have d3 : decide ((p : Int) < 0) = false := decide_eq_false ho
          obtain ⟨h3, h4⟩ := sk_some _ p Hix.out
          rw [List.length_drop, byts_len] at h3
          have H4 := Lib.hid h4
          clear h4
          go_wp2_with (go_at_call 76; refine (Tryz.strings_IndexByte _ _ _).mono ?_; rintro e w1 ⟨rfl, rfl⟩; rw [extract_end, show (10 : Int).toNat.toUInt8 = 10 from rfl, Hix.out])
          go_roundw
          case rel => exact ⟨trivial, i + p + 1, by omega, by go_num, by rw [← HI.out, ← Hsk.out, H4.out, List.drop_drop]; rw [show i + (p + 1) = i + p + 1 by omega]; omega⟩
          case measure => simp only [intOf]; omega
      · have d2 : ((x.toNat : Int) == 59) = false := beq_eq_false_iff_ne.2 (by omega)
        cases hw : whiteN x.toNat with
        | true =>
          have hsk : sk false ((byts s).drop i) = 1 + sk false ((byts s).drop (i + 1)) := by
            rw [hdr.out, hx]
            rw [sk_f, if_neg h59, if_pos hw]
          have Hsk := Lib.hid hsk
          have Hw := Lib.hid hw
          clear hsk hw h59
          go_wp2_with (go_at_call 77; refine (white_ok x.toNat).mono ?_; rintro e w1 ⟨rfl, rfl⟩; rw [Hw.out])
          go_roundw
          case rel => exact ⟨trivial, i + 1, by omega, by go_num, by rw [← HI.out, Hsk.out]; omega⟩
          case measure => simp only [intOf]; omega
        | false =>
          have hsk : sk false ((byts s).drop i) = 0 := by
            rw [hdr.out, hx]
            rw [sk_f, if_neg h59, if_neg (by rw [hw]; decide)]
          have Hsk := Lib.hid hsk
          have Hw := Lib.hid hw
          clear hsk hw h59
          go_wp2_with (go_at_call 77; refine (white_ok x.toNat).mono ?_; rintro e w1 ⟨rfl, rfl⟩; rw [Hw.out])
          go_ret
          refine ⟨?_, rfl⟩
          rw [← HI.out, Hsk.out]
          rfl
    · have d1 : decide ((i : Int) < s.size) = false := decide_eq_false (by omega)
      go_wp2
      go_ret
      refine ⟨?_, rfl⟩
      rw [← HI.out, byts_end (by omega)]
      rfl
end Go.Proofs.YtiklliiamljogaaGreatDoor

/- The reference's tests of bytes. -/
namespace Go.Proofs.YtiklliiamljogaaGreatDoor
open Go.RowKit

def signsTab : ByteArray := { data := #[126, 33, 64, 36, 37, 94, 38, 42, 95, 45, 43, 61, 60, 62, 46, 63, 47] }
theorem sign_range : ∀ n : Fin 256, (65 ≤ n.val ∧ n.val ≤ 90 ∨ 97 ≤ n.val ∧ n.val ≤ 122 ∨ 48 ≤ n.val ∧ n.val ≤ 57) → signN n.val = true := by decide +kernel
theorem sign_tab : ∀ i : Fin 17, signN (signsTab.data[i.val]'(by have := i.isLt; exact this)).toNat = true := by decide +kernel
theorem sign_not : ∀ n : Fin 256, ¬ (65 ≤ n.val ∧ n.val ≤ 90 ∨ 97 ≤ n.val ∧ n.val ≤ 122 ∨ 48 ≤ n.val ∧ n.val ≤ 57) → (∀ i : Fin 17, (signsTab.data[i.val]'(by have := i.isLt; exact this)).toNat ≠ n.val) → signN n.val = false := by decide +kernel

theorem rdigit_ok {w : World} (n : Nat) :
    Calls Tryz.prog 112 #[.int .u8 n] w fun e w' => e = .returned (.bool (digitN n)) ∧ w = w' := by
  have e : digitN n = (decide (48 ≤ (n : Int)) && decide ((n : Int) ≤ 57)) := by
    unfold digitN
    rw [← Bool.decide_and]
    exact decide_eq_decide.2 (by omega)
  rw [e]
  clear e
  go_enter Tryz.func112, Tryz.ntmps112
  go_wp2_with fail
  · have h : (48 : Int) ≤ n := by assumption
    go_ret
    rw [decide_eq_true h, Bool.true_and]
    exact ⟨rfl, rfl⟩
  · have h : (n : Int) < 48 := by assumption
    go_ret
    rw [decide_eq_false (show ¬ (48 : Int) ≤ n by omega), Bool.false_and]
    exact ⟨rfl, rfl⟩
theorem rsign_ok {w : World} (n : Nat) (hn : n < 256) :
    Calls Tryz.prog 124 #[.int .u8 n] w fun e w' => e = .returned (.bool (signN n)) ∧ w = w' := by
  by_cases hr : 65 ≤ n ∧ n ≤ 90 ∨ 97 ≤ n ∧ n ≤ 122 ∨ 48 ≤ n ∧ n ≤ 57
  · rw [sign_range ⟨n, hn⟩ hr]
    go_enter Tryz.func124, Tryz.ntmps124
    go_upto_region 4 with fail
    all_goals first
      | (go_ret; exact ⟨rfl, rfl⟩)
      | (exfalso; omega)
  · have HR := Lib.hid hr
    have hcase : n < 48 ∨ (57 < n ∧ n < 65) ∨ (90 < n ∧ n < 97) ∨ 122 < n := by omega
    clear hr
    have hx : ∀ i (hi : i < 17), ∃ x : UInt8, (({ data := #[126, 33, 64, 36, 37, 94, 38, 42, 95, 45, 43, 61, 60, 62, 46, 63, 47] } : ByteArray)[i]'hi) = x ∧ x.toNat = (signsTab.data[i]'hi).toNat := fun i hi => ⟨_, rfl, rfl⟩
    have HX := Lib.hid hx
    clear hx
    go_enter Tryz.func124, Tryz.ntmps124
    go_upto_region 4 with fail
    all_goals try (exfalso; omega)
    all_goals
      go_loopg [3] 17 (fun g v wx => w = wx ∧ ∃ i : Nat, i + g = 17 ∧ v = .int .i64 i ∧ ∀ j (hj : j < 17), j < i → (signsTab.data[j]'hj).toNat ≠ n)
      case atStart => exact ⟨rfl, 0, by omega, rfl, fun j _ hj => by omega⟩
      case round =>
        obtain ⟨rfl, i, hig, rfl, hinv⟩ := hrel
        have HI := Lib.hid hinv
        clear hinv
        cases gk with
        | zero =>
          obtain rfl : i = 17 := by omega
          have HF := Lib.hid (sign_not ⟨n, hn⟩ HR.out (fun j => HI.out j.val j.isLt j.isLt))
          go_wp2
          go_ret
          exact ⟨ret_bool HF.out.symm, rfl⟩
        | succ k =>
          have hi : i < 17 := by omega
          have t1 : (0 : Int) ≤ (i : Int) := by omega
          have t2 : (i : Int) < 17 := by omega
          have d1 : decide ((i : Int) < 17) = true := decide_eq_true t2
          obtain ⟨x, hx, hx2⟩ := HX.out i hi
          have HX2 := Lib.hid hx2
          clear hx2
          by_cases hp : x.toNat = n
          · have b1 : ((x.toNat : Int) == (n : Int)) = true := by rw [hp]; exact beq_self_eq_true _
            have HF := Lib.hid (show signN n = true by rw [← hp, HX2.out]; exact sign_tab ⟨i, hi⟩)
            clear hp
            go_wp2
            go_ret
            exact ⟨ret_bool HF.out.symm, rfl⟩
          · have b1 : ((x.toNat : Int) == (n : Int)) = false := beq_eq_false_iff_ne.2 (by omega)
            have HP := Lib.hid hp
            clear hp
            go_wp2
            go_roundg k
            case measure => omega
            case rel => exact ⟨rfl, i + 1, by omega, by go_num, fun j hj hji => by
              by_cases e : j = i
              · subst e; rw [← HX2.out]; exact HP.out
              · exact HI.out j hj (by omega)⟩
end Go.Proofs.YtiklliiamljogaaGreatDoor

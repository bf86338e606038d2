/- The readers of tokens. -/
import Derived.Test.YtpmdgjihgiieoaaLexD
import Derived.Deep.RegionHeld3
import Derived.StillTailTactics
namespace Go.Proofs.Ytpmdgjihgiieoaa
open Go.RowKit

/-- A text and a place, as the code's struct. -/
def scanV (s : ByteArray) (p : Nat) : Value := .agg #[.string s, .int .i64 p]
/-- A token's struct. -/
def tokV (k : Int) (t : ByteArray) (a b : Int) : Value := .agg #[.int .i8 k, .string t, .int .i64 a, .int .i64 b]

/-- What a reader at place p hands back. -/
def Reads (p : Nat) (o : Option Raw) (e : Ending) : Prop :=
  ∃ (k : Int) (t : ByteArray) (a b : Int), e = .returned (.tuple #[.agg #[.int .i8 k, .string t, .int .i64 a, .int .i64 b], .bool o.isSome]) ∧ ∀ r, o = some r → k = r.k ∧ byts t = r.t ∧ a = p ∧ b = p + r.n

theorem signs_drop {s : ByteArray} {i : Nat} (h : i < s.size) : signs ((byts s).drop i) = if signN (s[i]'h).toNat then s[i]'h :: signs ((byts s).drop (i + 1)) else [] := by
  rw [byts_drop h, signs, List.takeWhile_cons]
  rfl
theorem signs_end {s : ByteArray} {i : Nat} (h : s.size ≤ i) : signs ((byts s).drop i) = [] := by rw [byts_end h]; rfl
theorem take_signs (l : List UInt8) : l.take (signs l).length = signs l := List.prefix_iff_eq_take.1 (List.takeWhile_prefix _) |>.symm

theorem run_ok (s : ByteArray) (p i0 : Nat) (w : World) (hs : s.size ≤ 1000000) (hi0 : i0 ≤ s.size) :
    Calls Try.prog 33 #[.agg #[.string s, .int .i64 p], .int .i64 i0] w fun e w' => (∃ r, e = .returned (.string r) ∧ byts r = signs ((byts s).drop i0)) ∧ Below w.heap.size w w' := by
  go_enter Try.func33, Try.ntmps33
  go_wp2
  have hB : Below w.heap.size w (w.alloc (.cells #[.string s, .int .i64 p] 45)) := (Below.refl _ _).alloc (Nat.le_refl _) _
  have hb : Blk (w.alloc (.cells #[.string s, .int .i64 p] 45)) w.heap.size 45 #[.string s, .int .i64 p] := Blk.new _ _ _
  have c0 := hb.cell 0
  simp only [List.getElem?_toArray, List.getElem?_cons_zero] at c0
  clear hb
  generalize w.alloc (.cells #[.string s, .int .i64 p] 45) = w1 at *
  go_loopw [5] (fun v wx => w1 = wx ∧ ∃ i : Nat, i ≤ s.size ∧ i0 ≤ i ∧ v = .int .i64 i ∧ i + (signs ((byts s).drop i)).length = i0 + (signs ((byts s).drop i0)).length) (fun v _ => (s.size - intOf v).toNat)
  case atStart => exact ⟨rfl, i0, hi0, Nat.le_refl _, rfl, rfl⟩
  case round =>
    obtain ⟨rfl, i, hi, hle, rfl, hinv⟩ := hrel
    have HI := Lib.hid hinv
    have HB := Lib.hid hB
    clear hinv hB
    by_cases hin : i < s.size
    · have hiz : (i : Int) < (s.size : Int) := by omega
      have d1 : decide ((i : Int) < s.size) = true := decide_eq_true hiz
      have hsg := Lib.hid (signs_drop hin)
      obtain ⟨x, hx⟩ : ∃ x : UInt8, s[i]'(by omega) = x := ⟨_, rfl⟩
      have hx8 := x.toNat_lt
      cases hp : signN x.toNat with
      | true =>
        have Hp := Lib.hid hp
        clear hp
        go_wp2_with (go_at_call 35; refine (sign_ok x.toNat hx8).mono ?_; rintro e w2 ⟨rfl, rfl⟩; rw [Hp.out])
        go_roundw
        case rel => exact ⟨trivial, i + 1, by omega, by omega, by go_num, by rw [← HI.out, hsg.out, hx, if_pos Hp.out, List.length_cons]; omega⟩
        case measure => simp only [intOf]; omega
      | false =>
        have Hp := Lib.hid hp
        clear hp
        have hn : signs ((byts s).drop i) = [] := by rw [hsg.out, hx, if_neg (by rw [Hp.out]; decide)]
        have HN := Lib.hid hn
        clear hn
        go_wp2_with (go_at_call 35; refine (sign_ok x.toNat hx8).mono ?_; rintro e w2 ⟨rfl, rfl⟩; rw [Hp.out])
        go_ret
        refine ⟨⟨_, rfl, ?_⟩, HB.out⟩
        rw [byts, Lib.extract_data]
        have h2 := HI.out
        rw [HN.out, List.length_nil, Nat.add_zero] at h2
        rw [h2, Nat.add_sub_cancel_left]
        exact take_signs _
    · have d1 : decide ((i : Int) < s.size) = false := decide_eq_false (by omega)
      have HN := Lib.hid (signs_end (s := s) (i := i) (by omega))
      go_wp2
      go_ret
      refine ⟨⟨_, rfl, ?_⟩, HB.out⟩
      rw [byts, Lib.extract_data]
      have h2 := HI.out
      rw [HN.out, List.length_nil, Nat.add_zero] at h2
      rw [h2, Nat.add_sub_cancel_left]
      exact take_signs _

theorem token_ok (s : ByteArray) (p : Nat) (k : Int) (t : ByteArray) (n : Int) (w : World) (hp : p ≤ 1000000) (hn : 0 ≤ n ∧ n ≤ 1000002) (_ht : t.size ≤ 1000000) :
    Calls Try.prog 30 #[.agg #[.string s, .int .i64 p], .int .i8 k, .string t, .int .i64 n] w fun e w' => e = .returned (.tuple #[.agg #[.int .i8 k, .string t, .int .i64 p, .int .i64 (p + n)], .bool (decide ((t.size : Int) ≤ 100))]) ∧ Below w.heap.size w w' := by
  go_enter Try.func30, Try.ntmps30
  go_wp2
  refine bodyPost_ret (v := .tuple #[.agg #[.int .i8 k, .string t, .int .i64 p, .int .i64 (p + n)], .bool (decide ((t.size : Int) ≤ 100))]) ?_ rfl ⟨rfl, ?_⟩
  · simp [results, Try.results30, go_sem]
    try omega
  · exact ((Below.refl _ _).alloc (Nat.le_refl _) _).alloc (by simp) _
end Go.Proofs.Ytpmdgjihgiieoaa

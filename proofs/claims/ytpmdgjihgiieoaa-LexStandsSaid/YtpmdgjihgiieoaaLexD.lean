/- Skip. -/
import Derived.Test.YtpmdgjihgiieoaaLexS
import Derived.Test.YtpmdgjihgiieoaaShelf
namespace Go.Proofs.Ytpmdgjihgiieoaa
open Go.RowKit

theorem extract_end (s : ByteArray) (i : Nat) : (s.extract i s.size).data.toList = (byts s).drop i := Lib.extract_to_end s i

set_option maxHeartbeats 1000000 in
theorem skip_ok (s : ByteArray) (a : Int) (w : World) (hs : s.size ≤ 1000000) :
    Calls Try.prog 9 #[.string s, .int .i64 a] w fun e w' => e = .returned (.int .i64 (fromI a s.size + sk false ((byts s).drop (fromI a s.size)) : Nat)) ∧ w = w' := by
  obtain ⟨b, hb⟩ : ∃ b : Nat, max 0 (min a (s.size : Int)) = (b : Int) := ⟨fromI a s.size, by unfold fromI; omega⟩
  have hfrom : fromI a s.size = b := by unfold fromI; omega
  rw [hfrom]
  have hbs : b ≤ s.size := by omega
  clear hfrom
  go_enter Try.func9, Try.ntmps9
  go_wp2
  go_loopw [1] (fun v wx => w = wx ∧ ∃ i : Nat, i ≤ s.size ∧ v = .int .i64 i ∧ i + sk false ((byts s).drop i) = b + sk false ((byts s).drop b)) (fun v _ => (s.size - intOf v).toNat)
  case atStart => exact ⟨rfl, b, hbs, rfl, rfl⟩
  case round =>
    obtain ⟨rfl, i, hi, rfl, hinv⟩ := hrel
    have HI := Lib.hid hinv
    clear hinv hb
    by_cases hin : i < s.size
    · have hiz : (i : Int) < (s.size : Int) := by omega
      have d1 : decide ((i : Int) < s.size) = true := decide_eq_true hiz
      obtain ⟨x, hx⟩ : ∃ x : UInt8, s[i]'(by omega) = x := ⟨_, rfl⟩
      have hdr := Lib.hid (byts_drop hin)
      by_cases h59 : x.toNat = 59
      · have d2 : ((x.toNat : Int) == 59) = true := by rw [h59]; rfl
        have hsk : sk true ((byts s).drop i) = sk false ((byts s).drop i) := by
          rw [hdr.out, hx]
          rw [sk_f, sk_c, if_pos h59, if_neg (by omega)]
        generalize hix : Lib.indexByte ((byts s).drop i) 10 = o
        have Hsk := Lib.hid hsk
        have Hix := Lib.hid hix
        have hge := Lib.indexByte_ge ((byts s).drop i) 10
        rw [hix] at hge
        clear hsk hix h59
        by_cases ho : o < 0
        · have d3 : decide (o < 0) = true := decide_eq_true ho
          go_wp2_with (go_at_call 15; refine (Try.strings_IndexByte _ _ _).mono ?_; rintro e w1 ⟨rfl, rfl⟩; rw [extract_end, show (10 : Int).toNat.toUInt8 = 10 from rfl, Hix.out])
          go_ret
          refine ⟨?_, rfl⟩
          rw [← HI.out, ← Hsk.out, sk_none _ (by rw [Hix.out]; omega), List.length_drop, byts_len, Nat.add_sub_cancel' hi]
          rfl
        · obtain ⟨p, rfl⟩ := Int.eq_ofNat_of_zero_le (by omega : 0 ≤ o)
          have d3 : decide ((p : Int) < 0) = false := decide_eq_false ho
          obtain ⟨h3, h4⟩ := sk_some _ p Hix.out
          rw [List.length_drop, byts_len] at h3
          have H4 := Lib.hid h4
          clear h4
          go_wp2_with (go_at_call 15; refine (Try.strings_IndexByte _ _ _).mono ?_; rintro e w1 ⟨rfl, rfl⟩; rw [extract_end, show (10 : Int).toNat.toUInt8 = 10 from rfl, Hix.out])
          go_roundw
          case rel => exact ⟨trivial, i + p + 1, by omega, by go_num, by rw [← HI.out, ← Hsk.out, H4.out, List.drop_drop]; rw [show i + (p + 1) = i + p + 1 by omega]; omega⟩
          case measure => simp only [intOf]; omega
      · have d2 : ((x.toNat : Int) == 59) = false := beq_eq_false_iff_ne.2 (by omega)
        cases hw : whiteN x.toNat with
        | true =>
          have hsk : sk false ((byts s).drop i) = 1 + sk false ((byts s).drop (i + 1)) := by
            rw [hdr.out, hx]
            rw [sk_f, if_neg h59, if_pos hw]
          have Hsk := Lib.hid hsk
          have Hw := Lib.hid hw
          clear hsk hw h59
          go_wp2_with (go_at_call 16; refine (white_ok x.toNat).mono ?_; rintro e w1 ⟨rfl, rfl⟩; rw [Hw.out])
          go_roundw
          case rel => exact ⟨trivial, i + 1, by omega, by go_num, by rw [← HI.out, Hsk.out]; omega⟩
          case measure => simp only [intOf]; omega
        | false =>
          have hsk : sk false ((byts s).drop i) = 0 := by
            rw [hdr.out, hx]
            rw [sk_f, if_neg h59, if_neg (by rw [hw]; decide)]
          have Hsk := Lib.hid hsk
          have Hw := Lib.hid hw
          clear hsk hw h59
          go_wp2_with (go_at_call 16; refine (white_ok x.toNat).mono ?_; rintro e w1 ⟨rfl, rfl⟩; rw [Hw.out])
          go_ret
          refine ⟨?_, rfl⟩
          rw [← HI.out, Hsk.out]
          rfl
    · have d1 : decide ((i : Int) < s.size) = false := decide_eq_false (by omega)
      go_wp2
      go_ret
      refine ⟨?_, rfl⟩
      rw [← HI.out, byts_end (by omega)]
      rfl
end Go.Proofs.Ytpmdgjihgiieoaa

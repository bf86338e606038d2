/- The reference's tests of bytes. -/
import Derived.Test.YtephhendkmhggaaLexH
import Derived.Test.YtephhendkmhggaaLexI
import Derived.Test.YtephhendkmhggaaLexL
namespace Go.Proofs.Ytephhendkmhggaa
open Go.RowKit

def signsTab : ByteArray := { data := #[126, 33, 64, 36, 37, 94, 38, 42, 95, 45, 43, 61, 60, 62, 46, 63, 47] }
theorem sign_range : ∀ n : Fin 256, (65 ≤ n.val ∧ n.val ≤ 90 ∨ 97 ≤ n.val ∧ n.val ≤ 122 ∨ 48 ≤ n.val ∧ n.val ≤ 57) → signN n.val = true := by decide +kernel
theorem sign_tab : ∀ i : Fin 17, signN (signsTab.data[i.val]'(by have := i.isLt; exact this)).toNat = true := by decide +kernel
theorem sign_not : ∀ n : Fin 256, ¬ (65 ≤ n.val ∧ n.val ≤ 90 ∨ 97 ≤ n.val ∧ n.val ≤ 122 ∨ 48 ≤ n.val ∧ n.val ≤ 57) → (∀ i : Fin 17, (signsTab.data[i.val]'(by have := i.isLt; exact this)).toNat ≠ n.val) → signN n.val = false := by decide +kernel

theorem rdigit_ok {w : World} (n : Nat) :
    Calls Try.prog 65 #[.int .u8 n] w fun e w' => e = .returned (.bool (digitN n)) ∧ w = w' := by
  have e : digitN n = (decide (48 ≤ (n : Int)) && decide ((n : Int) ≤ 57)) := by
    unfold digitN
    rw [← Bool.decide_and]
    exact decide_eq_decide.2 (by omega)
  rw [e]
  clear e
  go_enter Try.func65, Try.ntmps65
  go_wp2_with fail
  · have h : (48 : Int) ≤ n := by assumption
    go_ret
    rw [decide_eq_true h, Bool.true_and]
    exact ⟨rfl, rfl⟩
  · have h : (n : Int) < 48 := by assumption
    go_ret
    rw [decide_eq_false (show ¬ (48 : Int) ≤ n by omega), Bool.false_and]
    exact ⟨rfl, rfl⟩
theorem rsign_ok {w : World} (n : Nat) (hn : n < 256) :
    Calls Try.prog 81 #[.int .u8 n] w fun e w' => e = .returned (.bool (signN n)) ∧ w = w' := by
  by_cases hr : 65 ≤ n ∧ n ≤ 90 ∨ 97 ≤ n ∧ n ≤ 122 ∨ 48 ≤ n ∧ n ≤ 57
  · rw [sign_range ⟨n, hn⟩ hr]
    go_enter Try.func81, Try.ntmps81
    go_upto_region 4 with fail
    all_goals first
      | (go_ret; exact ⟨rfl, rfl⟩)
      | (exfalso; omega)
  · have HR := Lib.hid hr
    have hcase : n < 48 ∨ (57 < n ∧ n < 65) ∨ (90 < n ∧ n < 97) ∨ 122 < n := by omega
    clear hr
    have hx : ∀ i (hi : i < 17), ∃ x : UInt8, (({ data := #[126, 33, 64, 36, 37, 94, 38, 42, 95, 45, 43, 61, 60, 62, 46, 63, 47] } : ByteArray)[i]'hi) = x ∧ x.toNat = (signsTab.data[i]'hi).toNat := fun i hi => ⟨_, rfl, rfl⟩
    have HX := Lib.hid hx
    clear hx
    go_enter Try.func81, Try.ntmps81
    go_upto_region 4 with fail
    all_goals try (exfalso; omega)
    all_goals
      go_loopg [3] 17 (fun g v wx => w = wx ∧ ∃ i : Nat, i + g = 17 ∧ v = .int .i64 i ∧ ∀ j (hj : j < 17), j < i → (signsTab.data[j]'hj).toNat ≠ n)
      case atStart => exact ⟨rfl, 0, by omega, rfl, fun j _ hj => by omega⟩
      case round =>
        obtain ⟨rfl, i, hig, rfl, hinv⟩ := hrel
        have HI := Lib.hid hinv
        clear hinv
        cases gk with
        | zero =>
          obtain rfl : i = 17 := by omega
          have HF := Lib.hid (sign_not ⟨n, hn⟩ HR.out (fun j => HI.out j.val j.isLt j.isLt))
          go_wp2
          go_ret
          exact ⟨ret_bool HF.out.symm, rfl⟩
        | succ k =>
          have hi : i < 17 := by omega
          have t1 : (0 : Int) ≤ (i : Int) := by omega
          have t2 : (i : Int) < 17 := by omega
          have d1 : decide ((i : Int) < 17) = true := decide_eq_true t2
          obtain ⟨x, hx, hx2⟩ := HX.out i hi
          have HX2 := Lib.hid hx2
          clear hx2
          by_cases hp : x.toNat = n
          · have b1 : ((x.toNat : Int) == (n : Int)) = true := by rw [hp]; exact beq_self_eq_true _
            have HF := Lib.hid (show signN n = true by rw [← hp, HX2.out]; exact sign_tab ⟨i, hi⟩)
            clear hp
            go_wp2
            go_ret
            exact ⟨ret_bool HF.out.symm, rfl⟩
          · have b1 : ((x.toNat : Int) == (n : Int)) = false := beq_eq_false_iff_ne.2 (by omega)
            have HP := Lib.hid hp
            clear hp
            go_wp2
            go_roundg k
            case measure => omega
            case rel => exact ⟨rfl, i + 1, by omega, by go_num, fun j hj hji => by
              by_cases e : j = i
              · subst e; rw [← HX2.out]; exact HP.out
              · exact HI.out j hj (by omega)⟩
end Go.Proofs.Ytephhendkmhggaa

/- The reference's within, Skip, run. -/
namespace Go.Proofs.Ytephhendkmhggaa
open Go.RowKit

theorem rwithin_ok {w : World} (n : Nat) (hn : n < 256) :
    Calls Try.prog 80 #[.int .u8 n] w fun e w' => e = .returned (.bool (insideN n)) ∧ w = w' := by
  by_cases h1 : n = 124
  · subst h1
    go_enter Try.func80, Try.ntmps80
    go_wp2
    go_ret
    exact ⟨rfl, rfl⟩
  by_cases h2 : n = 92
  · subst h2
    go_enter Try.func80, Try.ntmps80
    go_wp2
    go_ret
    exact ⟨rfl, rfl⟩
  have b1 : ((n : Int) != 124) = true := bne_iff_ne.2 (by omega)
  have b2 : ((n : Int) != 92) = true := bne_iff_ne.2 (by omega)
  have e : insideN n = (decide (32 ≤ n ∧ n ≤ 126) || whiteN n) := by
    unfold insideN
    rw [bne_iff_ne.2 h1, bne_iff_ne.2 h2]
    rfl
  rw [e]
  clear e h1 h2
  by_cases h3 : 32 ≤ n
  · have d3 : decide ((32 : Int) ≤ n) = true := by simp; omega
    by_cases h4 : n ≤ 126
    · have d4 : decide ((n : Int) ≤ 126) = true := by simp; omega
      have e : decide (32 ≤ n ∧ n ≤ 126) = true := decide_eq_true ⟨h3, h4⟩
      rw [e]
      clear e hn
      go_enter Try.func80, Try.ntmps80
      go_wp2
      go_ret
      exact ⟨rfl, rfl⟩
    · have d4 : decide ((n : Int) ≤ 126) = false := by simp; omega
      have e : decide (32 ≤ n ∧ n ≤ 126) = false := decide_eq_false (by omega)
      rw [e]
      clear e hn
      go_enter Try.func80, Try.ntmps80
      go_wp2_with (go_at_call 36; refine (rwhite_ok n).mono ?_; rintro e w1 ⟨rfl, rfl⟩)
      go_ret
      exact ⟨rfl, rfl⟩
  · have d3 : decide ((32 : Int) ≤ n) = false := by simp; omega
    have e : decide (32 ≤ n ∧ n ≤ 126) = false := decide_eq_false (by omega)
    rw [e]
    clear e hn
    go_enter Try.func80, Try.ntmps80
    go_wp2_with (go_at_call 36; refine (rwhite_ok n).mono ?_; rintro e w1 ⟨rfl, rfl⟩)
    go_ret
    exact ⟨rfl, rfl⟩


set_option maxHeartbeats 1000000 in
theorem rskip_ok (s : ByteArray) (a : Int) (w : World) (hs : s.size ≤ 1000000) :
    Calls Try.prog 24 #[.string s, .int .i64 a] w fun e w' => e = .returned (.int .i64 (fromI a s.size + sk false ((byts s).drop (fromI a s.size)) : Nat)) ∧ w = w' := by
  obtain ⟨b, hb⟩ : ∃ b : Nat, max 0 (min a (s.size : Int)) = (b : Int) := ⟨fromI a s.size, by unfold fromI; omega⟩
  have hfrom : fromI a s.size = b := by unfold fromI; omega
  rw [hfrom]
  have hbs : b ≤ s.size := by omega
  clear hfrom
  go_enter Try.func24, Try.ntmps24
  go_wp2
  go_loopw [1] (fun v wx => w = wx ∧ ∃ i : Nat, i ≤ s.size ∧ v = .int .i64 i ∧ i + sk false ((byts s).drop i) = b + sk false ((byts s).drop b)) (fun v _ => (s.size - intOf v).toNat)
  case atStart => exact ⟨rfl, b, hbs, rfl, rfl⟩
  case round =>
    obtain ⟨rfl, i, hi, rfl, hinv⟩ := hrel
    have HI := Lib.hid hinv
    clear hinv hb
    by_cases hin : i < s.size
    · have hiz : (i : Int) < (s.size : Int) := by omega
      have d1 : decide ((i : Int) < s.size) = true := decide_eq_true hiz
      obtain ⟨x, hx⟩ : ∃ x : UInt8, s[i]'(by omega) = x := ⟨_, rfl⟩
      have hdr := Lib.hid (byts_drop hin)
      cases hw : whiteN x.toNat with
      | true =>
        have h59 : x.toNat ≠ 59 := by intro h; rw [h] at hw; exact absurd hw (by decide)
        have hsk : sk false ((byts s).drop i) = 1 + sk false ((byts s).drop (i + 1)) := by
          rw [hdr.out, hx]
          rw [sk_f, if_neg h59, if_pos hw]
        have Hsk := Lib.hid hsk
        have Hw := Lib.hid hw
        clear hsk hw h59
        go_wp2_with (go_at_call 36; refine (rwhite_ok x.toNat).mono ?_; rintro e w1 ⟨rfl, rfl⟩; rw [Hw.out])
        go_roundw
        case rel => exact ⟨trivial, i + 1, by omega, by go_num, by rw [← HI.out, Hsk.out]; omega⟩
        case measure => simp only [intOf]; omega
      | false =>
        by_cases h59 : x.toNat = 59
        · have d2 : ((x.toNat : Int) == 59) = true := by rw [h59]; rfl
          have hsk : sk true ((byts s).drop i) = sk false ((byts s).drop i) := by
            rw [hdr.out, hx]
            rw [sk_f, sk_c, if_pos h59, if_neg (by omega)]
          have Hsk := Lib.hid hsk
          have Hw := Lib.hid hw
          clear hsk hw h59
          go_wp2_with (go_at_call 36; refine (rwhite_ok x.toNat).mono ?_; rintro e w1 ⟨rfl, rfl⟩; rw [Hw.out])
          have HX := Lib.hid hx
          clear hx
          go_loopw [1] (fun v wx => w = wx ∧ ∃ j : Nat, i ≤ j ∧ j ≤ s.size ∧ v = .int .i64 j ∧ j + sk true ((byts s).drop j) = i + sk true ((byts s).drop i)) (fun v _ => (s.size - intOf v).toNat)
          case atStart => exact ⟨rfl, i, Nat.le_refl _, hi, rfl, rfl⟩
          case round =>
            obtain ⟨rfl, j, hij, hj, rfl, hinv⟩ := hrel
            have HJ := Lib.hid hinv
            clear hinv
            by_cases hjn : j < s.size
            · have hjz : (j : Int) < (s.size : Int) := by omega
              have d3 : decide ((j : Int) < s.size) = true := decide_eq_true hjz
              obtain ⟨y, hy⟩ : ∃ y : UInt8, s[j]'(by omega) = y := ⟨_, rfl⟩
              have hdj := Lib.hid (byts_drop hjn)
              by_cases h10 : y.toNat = 10
              · have b3 : ((y.toNat : Int) != 10) = false := by rw [h10]; rfl
                have hne : i ≠ j := by
                  rintro rfl
                  have h1 := HX.out
                  rw [hy] at h1
                  subst h1
                  rw [h10] at d2
                  exact absurd d2 (by decide)
                have hs2 : sk true ((byts s).drop j) = sk false ((byts s).drop j) := by
                  rw [hdj.out, hy, sk_c, sk_f, if_pos h10, if_neg (by omega), if_pos (by rw [h10]; decide)]
                have HS2 := Lib.hid hs2
                clear hs2 h10
                go_wp2
                go_roundw
                case rel => exact ⟨trivial, j, hj, rfl, by rw [← HI.out, ← Hsk.out, ← HJ.out, HS2.out]⟩
                case measure => simp only [intOf]; omega
              · have b3 : ((y.toNat : Int) != 10) = true := bne_iff_ne.2 (by omega)
                have hs2 : sk true ((byts s).drop j) = 1 + sk true ((byts s).drop (j + 1)) := by
                  rw [hdj.out, hy, sk_c, if_neg h10]
                have HS2 := Lib.hid hs2
                clear hs2 h10
                go_wp2
                go_roundw
                case rel => exact ⟨trivial, j + 1, by omega, by omega, by go_num, by rw [← HJ.out, HS2.out]; omega⟩
                case measure => simp only [intOf]; omega
            · have d3 : decide ((j : Int) < s.size) = false := decide_eq_false (by omega)
              go_wp2
              go_roundw
              case rel => exact ⟨trivial, j, hj, rfl, by rw [← HI.out, ← Hsk.out, ← HJ.out, byts_end (s := s) (i := j) (by omega)]; rfl⟩
              case measure => simp only [intOf]; omega
        · have d2 : ((x.toNat : Int) == 59) = false := beq_eq_false_iff_ne.2 (by omega)
          have hsk : sk false ((byts s).drop i) = 0 := by
            rw [hdr.out, hx]
            rw [sk_f, if_neg h59, if_neg (by rw [hw]; decide)]
          have Hsk := Lib.hid hsk
          have Hw := Lib.hid hw
          clear hsk hw h59
          go_wp2_with (go_at_call 36; refine (rwhite_ok x.toNat).mono ?_; rintro e w1 ⟨rfl, rfl⟩; rw [Hw.out])
          go_ret
          refine ⟨?_, rfl⟩
          rw [← HI.out, Hsk.out]
          rfl
    · have d1 : decide ((i : Int) < s.size) = false := decide_eq_false (by omega)
      go_wp2
      go_ret
      refine ⟨?_, rfl⟩
      rw [← HI.out, byts_end (by omega)]
      rfl

theorem rrun_ok (s : ByteArray) (i0 : Nat) (w : World) (hs : s.size ≤ 1000000) (hi0 : i0 ≤ s.size) :
    Calls Try.prog 63 #[.string s, .int .i64 i0] w fun e w' => e = .returned (.int .i64 (i0 + (signs ((byts s).drop i0)).length : Nat)) ∧ w = w' := by
  go_enter Try.func63, Try.ntmps63
  go_wp2
  go_loopw [1] (fun v wx => w = wx ∧ ∃ i : Nat, i ≤ s.size ∧ i0 ≤ i ∧ v = .int .i64 i ∧ i + (signs ((byts s).drop i)).length = i0 + (signs ((byts s).drop i0)).length) (fun v _ => (s.size - intOf v).toNat)
  case atStart => exact ⟨rfl, i0, hi0, Nat.le_refl _, rfl, rfl⟩
  case round =>
    obtain ⟨rfl, i, hi, hle, rfl, hinv⟩ := hrel
    have HI := Lib.hid hinv
    clear hinv
    by_cases hin : i < s.size
    · have hiz : (i : Int) < (s.size : Int) := by omega
      have d1 : decide ((i : Int) < s.size) = true := decide_eq_true hiz
      have hsg := Lib.hid (signs_drop hin)
      obtain ⟨x, hx⟩ : ∃ x : UInt8, s[i]'(by omega) = x := ⟨_, rfl⟩
      have hx8 := x.toNat_lt
      cases hp : signN x.toNat with
      | true =>
        have Hp := Lib.hid hp
        clear hp
        go_wp2_with (go_at_call 81; refine (rsign_ok x.toNat hx8).mono ?_; rintro e w2 ⟨rfl, rfl⟩; rw [Hp.out])
        go_roundw
        case rel => exact ⟨trivial, i + 1, by omega, by omega, by go_num, by rw [← HI.out, hsg.out, hx, if_pos Hp.out, List.length_cons]; omega⟩
        case measure => simp only [intOf]; omega
      | false =>
        have Hp := Lib.hid hp
        clear hp
        have hn : signs ((byts s).drop i) = [] := by rw [hsg.out, hx, if_neg (by rw [Hp.out]; decide)]
        have HN := Lib.hid hn
        clear hn
        go_wp2_with (go_at_call 81; refine (rsign_ok x.toNat hx8).mono ?_; rintro e w2 ⟨rfl, rfl⟩; rw [Hp.out])
        go_ret
        refine ⟨?_, rfl⟩
        rw [← HI.out, HN.out]
        rfl
    · have d1 : decide ((i : Int) < s.size) = false := decide_eq_false (by omega)
      have HN := Lib.hid (signs_end (s := s) (i := i) (by omega))
      go_wp2
      go_ret
      refine ⟨?_, rfl⟩
      rw [← HI.out, HN.out]
      rfl
end Go.Proofs.Ytephhendkmhggaa

/- The reference's numeral, quoted. -/
namespace Go.Proofs.Ytephhendkmhggaa
open Go.RowKit

theorem rnumeral_ok (s : ByteArray) (w : World) (hs : s.size ≤ 1000000) (h0 : 0 < s.size) :
    Calls Try.prog 66 #[.string s] w fun e w' => e = .returned (.bool (((byts s).all fun c => digitN c.toNat) && (byts s == [48] || headB (byts s) != 48))) ∧ w = w' := by
  go_enter Try.func66, Try.ntmps66
  go_wp2
  go_loopg [3] s.size (fun g v wx => w = wx ∧ ∃ i : Nat, i + g = s.size ∧ v = .int .i64 i ∧ ((byts s).drop i).all (fun c => digitN c.toNat) = (byts s).all fun c => digitN c.toNat)
  case atStart => exact ⟨rfl, 0, by omega, rfl, rfl⟩
  case round =>
    obtain ⟨rfl, i, hig, rfl, hinv⟩ := hrel
    have HI := Lib.hid hinv
    clear hinv
    cases gk with
    | zero =>
      have d1 : decide ((i : Int) < s.size) = false := by simp; omega
      have HF := Lib.hid (show (byts s).all (fun c => digitN c.toNat) = true by rw [← HI.out, byts_end (by omega)]; rfl)
      have hne : byts s ≠ [] := fun e => by
        have := byts_len s
        rw [e] at this
        simp at this
        omega
      have hse : s.toList ≠ [] := fun e => by rw [Lib.toList_data] at e; exact hne e
      have b5 : (s.toList == []) = false := beq_eq_false_iff_ne.2 hse
      have b6 : (s.toList != []) = true := bne_iff_ne.2 hse
      have b7 : decide (s.toList = []) = false := decide_eq_false hse
      cases hz : (byts s == [48]) with
      | true =>
        have hz2 := zero_dec (d := s) rfl hz
        have HZ := Lib.hid hz
        clear hz hne hse
        go_wp2
        go_ret
        rw [HF.out, HZ.out]
        exact ⟨rfl, rfl⟩
      | false =>
        have hz2 := zero_dec (d := s) rfl hz
        have HZ := Lib.hid hz
        cases hh : (headB (byts s) != 48) with
        | true =>
          obtain ⟨h1, h2, h3⟩ := head_dec (d := s) rfl hne hh
          have HH := Lib.hid hh
          clear hz hh hne
          go_wp2
          go_ret
          rw [HF.out, HZ.out, HH.out]
          exact ⟨rfl, rfl⟩
        | false =>
          obtain ⟨h1, h2, h3⟩ := head_dec (d := s) rfl hne hh
          have HH := Lib.hid hh
          clear hz hh hne
          go_wp2
          go_ret
          rw [HF.out, HZ.out, HH.out]
          exact ⟨rfl, rfl⟩
    | succ g =>
      have hiz : (i : Int) < (s.size : Int) := by omega
      have hin : i < s.size := by omega
      have d1 : decide ((i : Int) < s.size) = true := decide_eq_true hiz
      obtain ⟨x, hx⟩ : ∃ x : UInt8, s[i]'(by omega) = x := ⟨_, rfl⟩
      have HX := Lib.hid hx
      cases hp : digitN x.toNat with
      | true =>
        have Hp := Lib.hid hp
        clear hp
        go_wp2_with (go_at_call 65; refine (rdigit_ok x.toNat).mono ?_; rintro e w1 ⟨rfl, rfl⟩; rw [Hp.out])
        go_roundg g
        case measure => omega
        case rel => exact ⟨rfl, i + 1, by omega, by go_num, by rw [← HI.out, byts_drop hin, HX.out, List.all_cons, Hp.out, Bool.true_and]⟩
      | false =>
        have Hp := Lib.hid hp
        clear hp
        go_wp2_with (go_at_call 65; refine (rdigit_ok x.toNat).mono ?_; rintro e w1 ⟨rfl, rfl⟩; rw [Hp.out])
        go_ret
        rw [← HI.out, byts_drop hin, HX.out, List.all_cons, Hp.out, Bool.false_and, Bool.false_and]
        exact ⟨rfl, rfl⟩

/-- Where the bar is that ends a name, all inside ahead of it. -/
def qat : List UInt8 → Option Nat
  | [] => none
  | c :: r => if c.toNat = 124 then some 0 else if insideN c.toNat then (qat r).map (· + 1) else none
theorem tokBar_qat : ∀ (r : List UInt8), tokBar r = match qat r with | some q => raw 2 (r.take q) (q + 2) | none => none := by
  intro r
  have h : ∀ r : List UInt8, (∀ q, qat r = some q → (124 : UInt8) ∈ r ∧ r.takeWhile (fun c => c != 124) = r.take q ∧ (r.take q).all (fun c => insideN c.toNat) = true ∧ (r.take q).length = q) ∧ (qat r = none → (124 : UInt8) ∈ r → (r.takeWhile (fun c => c != 124)).all (fun c => insideN c.toNat) = false) := by
    intro r
    induction r with
    | nil => exact ⟨fun q h => by simp [qat] at h, fun _ h => by cases h⟩
    | cons c r ih =>
      by_cases hc : c.toNat = 124
      · have e : c = 124 := UInt8.toNat_inj.1 hc
        subst e
        exact ⟨fun q h => by simp [qat] at h; subst h; simp, fun h => by simp [qat] at h⟩
      · have hne : c ≠ 124 := fun e => hc (by rw [e]; rfl)
        cases hi : insideN c.toNat with
        | false =>
          refine ⟨fun q h => by simp [qat, hc, hi] at h, fun _ _ => ?_⟩
          rw [List.takeWhile_cons, if_pos (by simp [hne]), List.all_cons, hi, Bool.false_and]
        | true =>
          refine ⟨fun q h => ?_, fun h hm => ?_⟩
          · simp only [qat, hc, if_false, hi, if_true, Option.map_eq_some_iff] at h
            obtain ⟨q', h1, rfl⟩ := h
            obtain ⟨a1, a2, a3, a4⟩ := ih.1 q' h1
            refine ⟨List.mem_cons_of_mem _ a1, ?_, ?_, ?_⟩
            · rw [List.takeWhile_cons, if_pos (by simp [hne]), List.take_succ_cons, a2]
            · rw [List.take_succ_cons, List.all_cons, hi, a3]; rfl
            · rw [List.take_succ_cons, List.length_cons, a4]
          · simp only [qat, hc, if_false, hi, if_true, Option.map_eq_none_iff] at h
            have hm2 : (124 : UInt8) ∈ r := by
              rcases List.mem_cons.1 hm with e | e
              · exact absurd e.symm hne
              · exact e
            rw [List.takeWhile_cons, if_pos (by simp [hne]), List.all_cons, hi, ih.2 h hm2]
            rfl
  unfold tokBar
  cases hq : qat r with
  | some q =>
    obtain ⟨h1, h2, h3, h4⟩ := (h r).1 q hq
    rw [if_pos h1, h2]
    simp only [h3, if_true, h4]
  | none =>
    by_cases hm : (124 : UInt8) ∈ r
    · rw [if_pos hm]
      simp only [(h r).2 hq hm]
      rfl
    · rw [if_neg hm]
end Go.Proofs.Ytephhendkmhggaa

/- The reference's quoted. -/
namespace Go.Proofs.Ytephhendkmhggaa
open Go.RowKit

def QuotedIs (s : ByteArray) (p : Nat) (e : Ending) : Prop := match qat ((byts s).drop (p + 1)) with
  | some q => p + 1 + q < s.size ∧ e = .returned (.tuple #[.string (s.extract (p + 1) (p + 1 + q)), .int .i64 (p + 1 + q + 1 : Nat), .bool (decide (q ≤ 100))])
  | none => e = .returned (.tuple #[.string ⟨#[]⟩, .int .i64 0, .bool false])
theorem rquoted_ok (s : ByteArray) (p : Nat) (w : World) (hs : s.size ≤ 1000000) (hp : p < s.size) :
    Calls Try.prog 64 #[.string s, .int .i64 p] w fun e w' => QuotedIs s p e ∧ w = w' := by
  go_enter Try.func64, Try.ntmps64
  go_wp2
  go_loopg [7] (s.size - (p + 1)) (fun g v wx => w = wx ∧ ∃ i : Nat, p + 1 + i + g = s.size ∧ v = .int .i64 (p + 1 + i : Nat) ∧ qat ((byts s).drop (p + 1)) = (qat ((byts s).drop (p + 1 + i))).map (· + i))
  case atStart => exact ⟨rfl, 0, by omega, by go_num, by rw [Nat.add_zero]; simp⟩
  case round =>
    obtain ⟨rfl, i, hig, rfl, hinv⟩ := hrel
    have HI := Lib.hid hinv
    clear hinv
    obtain ⟨j, hj⟩ : ∃ j, p + 1 + i = j := ⟨_, rfl⟩
    have HJ := Lib.hid hj
    rw [hj] at hig ⊢
    clear hj
    cases gk with
    | zero =>
      have d1 : decide ((j : Int) < s.size) = false := by simp; omega
      have HF := Lib.hid (show qat ((byts s).drop (p + 1)) = none by rw [HI.out, HJ.out, byts_end (by omega)]; rfl)
      go_wp2
      refine bodyPost_ret (v := .tuple #[.string ⟨#[]⟩, .int .i64 0, .bool false]) (by simp [results, Try.results64, go_sem]) rfl ⟨?_, rfl⟩
      unfold QuotedIs
      rw [HF.out]
    | succ g =>
      have hiz : (j : Int) < (s.size : Int) := by omega
      have hin : j < s.size := by omega
      have d1 : decide ((j : Int) < s.size) = true := decide_eq_true hiz
      obtain ⟨x, hx⟩ : ∃ x : UInt8, s[j]'(by omega) = x := ⟨_, rfl⟩
      have hx8 := x.toNat_lt
      have HX := Lib.hid hx
      have HD := Lib.hid (byts_drop hin)
      by_cases h1 : x.toNat = 124
      · have b1 : ((x.toNat : Int) == 124) = true := by rw [h1]; rfl
        have HF := Lib.hid (show qat ((byts s).drop (p + 1)) = some i by rw [HI.out, HJ.out, HD.out, HX.out, qat, if_pos h1]; simp)
        have hji : j = p + 1 + i := HJ.out.symm
        have t1 : (p : Int) + 1 ≤ (j : Int) := by omega
        have t2 : (j : Int) ≤ (s.size : Int) := by omega
        have t3 : (0 : Int) ≤ (p : Int) + 1 := by omega
        have HJ2 := Lib.hid hji
        clear h1 hji
        go_wp2
        refine bodyPost_ret (v := .tuple #[.string (s.extract (p + 1) j), .int .i64 ((j : Int) + 1), .bool (decide ((j : Int) - p - 1 ≤ 100))]) (by simp [results, Try.results64, go_sem]) rfl ⟨?_, rfl⟩
        unfold QuotedIs
        rw [HF.out]
        have e := HJ2.out
        refine ⟨by omega, ?_⟩
        rw [← e, show decide ((j : Int) - p - 1 ≤ 100) = decide (i ≤ 100) from decide_eq_decide.2 (by omega)]
        rfl
      · have b1 : ((x.toNat : Int) == 124) = false := beq_eq_false_iff_ne.2 (by omega)
        cases hw : insideN x.toNat with
        | true =>
          have HF := Lib.hid (show qat ((byts s).drop j) = (qat ((byts s).drop (j + 1))).map (· + 1) by rw [HD.out, HX.out, qat, if_neg h1, if_pos hw])
          have Hw := Lib.hid hw
          clear h1 hw
          go_wp2_with (go_at_call 80; refine (rwithin_ok x.toNat hx8).mono ?_; rintro e w1 ⟨rfl, rfl⟩; rw [Hw.out])
          go_roundg g
          case measure => omega
          case rel => exact ⟨rfl, i + 1, by have := HJ.out; omega, by have := HJ.out; rw [show p + 1 + (i + 1) = j + 1 by omega]; go_num, by rw [HI.out, HJ.out, HF.out, show p + 1 + (i + 1) = j + 1 by have := HJ.out; omega, Option.map_map]; congr 1; funext y; show y + 1 + i = y + (i + 1); omega⟩
        | false =>
          have HF := Lib.hid (show qat ((byts s).drop (p + 1)) = none by rw [HI.out, HJ.out, HD.out, HX.out, qat, if_neg h1, if_neg (by rw [hw]; decide)]; rfl)
          have Hw := Lib.hid hw
          clear h1 hw
          go_wp2_with (go_at_call 80; refine (rwithin_ok x.toNat hx8).mono ?_; rintro e w1 ⟨rfl, rfl⟩; rw [Hw.out])
          refine bodyPost_ret (v := .tuple #[.string ⟨#[]⟩, .int .i64 0, .bool false]) (by simp [results, Try.results64, go_sem]) rfl ⟨?_, rfl⟩
          unfold QuotedIs
          rw [HF.out]
end Go.Proofs.Ytephhendkmhggaa

/- The reference's Next. -/
namespace Go.Proofs.Ytephhendkmhggaa
open Go.RowKit

theorem rnext_end (s : ByteArray) (a : Int) (w : World) (hs : s.size ≤ 1000000) (hn : startI s a = s.size) :
    Calls Try.prog 39 #[.string s, .int .i64 a] w fun e w' => e = .returned (.tuple #[.agg #[.int .i8 0, .string ⟨#[]⟩, .int .i64 0, .int .i64 0], .bool false, .int .i64 0]) ∧ Below w.heap.size w w' := by
  have K := fun W => rskip_ok s a W hs
  rw [show fromI a s.size + sk false ((byts s).drop (fromI a s.size)) = startI s a from rfl, hn] at K
  have hB : ∀ c, Below w.heap.size w (w.alloc (.cells c 62)) := fun c => (Below.refl _ _).alloc (Nat.le_refl _) _
  clear hn
  go_enter Try.func39, Try.ntmps39
  go_wp2_with (go_at_call 24; refine (K _).mono ?_; rintro e w1 ⟨rfl, rfl⟩)
  refine bodyPost_ret (v := .tuple #[.agg #[.int .i8 0, .string ⟨#[]⟩, .int .i64 0, .int .i64 0], .bool false, .int .i64 0]) (by simp [results, Try.results39, go_sem]) rfl ⟨rfl, hB _⟩
theorem rnext_open (s : ByteArray) (a : Int) (w : World) (n : Nat) (hs : s.size ≤ 1000000) (hst : startI s a = n) (hn : n < s.size) (hk : (s[n]'hn).toNat = 40) :
    Calls Try.prog 39 #[.string s, .int .i64 a] w fun e w' => e = .returned (.tuple #[.agg #[.int .i8 0, .string ⟨#[]⟩, .int .i64 n, .int .i64 (n + 1)], .bool true, .int .i64 0]) ∧ Below w.heap.size w w' := by
  have K := fun W => rskip_ok s a W hs
  rw [show fromI a s.size + sk false ((byts s).drop (fromI a s.size)) = startI s a from rfl, hst] at K
  have KR := fun W => rrun_ok s n W hs (by omega)
  have hB : ∀ c c2, Below w.heap.size w ((w.alloc (.cells c 62)).alloc (.cells c2 62)) := fun c c2 => ((Below.refl _ _).alloc (Nat.le_refl _) _).alloc (by simp) _
  have hc : ∀ c c2 i, ((w.alloc (.cells c 62)).alloc (.cells c2 62)).cell? ⟨w.heap.size, i, none⟩ = c[i]? := fun c c2 i => ((Blk.new w _ c).alloc _).cell i
  have HC := Lib.hid hc
  obtain ⟨x, hx⟩ : ∃ x : UInt8, s[n]'hn = x := ⟨_, rfl⟩
  rw [hx] at hk
  have b1 : ((x.toNat : Int) == 40) = true := by rw [hk]; rfl
  have d1 : decide ((s.size : Int) ≤ n) = false := decide_eq_false (by omega)
  have hnz : (n : Int) < s.size := by omega
  have t1 : (0 : Int) ≤ n := by omega
  generalize (signs ((byts s).drop n)).length = m at KR
  clear hst hk hc
  go_enter Try.func39, Try.ntmps39
  go_wp2_with (first
    | (go_at_call 24; refine (K _).mono ?_; rintro e w1 ⟨rfl, rfl⟩)
    | (go_at_call 63; refine (KR _).mono ?_; rintro e w1 ⟨rfl, rfl⟩))
  refine bodyPost_ret (v := .tuple #[.agg #[.int .i8 0, .string ⟨#[]⟩, .int .i64 n, .int .i64 (n + 1)], .bool true, .int .i64 0]) (by simp [results, Try.results39, go_sem, HC.out]) rfl ⟨rfl, hB _ _⟩
end Go.Proofs.Ytephhendkmhggaa

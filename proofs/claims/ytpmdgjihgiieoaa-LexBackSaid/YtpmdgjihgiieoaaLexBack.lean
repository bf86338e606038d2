/- LexBack: a name that may be and is not reserved, written, is one token, that name. -/
import Derived.Test.YtpmdgjihgiieoaaLexO
namespace Go.Proofs.Ytpmdgjihgiieoaa
open Go.RowKit

theorem rwithin_ok {w : World} (n : Nat) (hn : n < 256) :
    Calls Try.prog 25 #[.int .u8 n] w fun e w' => e = .returned (.bool (insideN n)) ∧ w = w' := by
  by_cases h1 : n = 124
  · subst h1
    go_enter Try.func25, Try.ntmps25
    go_wp2
    go_ret
    exact ⟨rfl, rfl⟩
  by_cases h2 : n = 92
  · subst h2
    go_enter Try.func25, Try.ntmps25
    go_wp2
    go_ret
    exact ⟨rfl, rfl⟩
  have b1 : ((n : Int) != 124) = true := bne_iff_ne.2 (by omega)
  have b2 : ((n : Int) != 92) = true := bne_iff_ne.2 (by omega)
  have e : insideN n = (decide (32 ≤ n ∧ n ≤ 126) || whiteN n) := by
    unfold insideN
    rw [bne_iff_ne.2 h1, bne_iff_ne.2 h2]
    rfl
  rw [e]
  clear e h1 h2
  by_cases h3 : 32 ≤ n
  · have d3 : decide ((32 : Int) ≤ n) = true := by simp; omega
    by_cases h4 : n ≤ 126
    · have d4 : decide ((n : Int) ≤ 126) = true := by simp; omega
      have e : decide (32 ≤ n ∧ n ≤ 126) = true := decide_eq_true ⟨h3, h4⟩
      rw [e]
      clear e hn
      go_enter Try.func25, Try.ntmps25
      go_wp2
      go_ret
      exact ⟨rfl, rfl⟩
    · have d4 : decide ((n : Int) ≤ 126) = false := by simp; omega
      have e : decide (32 ≤ n ∧ n ≤ 126) = false := decide_eq_false (by omega)
      rw [e]
      clear e hn
      go_enter Try.func25, Try.ntmps25
      go_wp2_with (go_at_call 36; refine (rwhite_ok n).mono ?_; rintro e w1 ⟨rfl, rfl⟩)
      go_ret
      exact ⟨rfl, rfl⟩
  · have d3 : decide ((32 : Int) ≤ n) = false := by simp; omega
    have e : decide (32 ≤ n ∧ n ≤ 126) = false := decide_eq_false (by omega)
    rw [e]
    clear e hn
    go_enter Try.func25, Try.ntmps25
    go_wp2_with (go_at_call 36; refine (rwhite_ok n).mono ?_; rintro e w1 ⟨rfl, rfl⟩)
    go_ret
    exact ⟨rfl, rfl⟩


def mayL (l : List UInt8) : Bool := decide (l.length ≤ 100) && l.all fun c => insideN c.toNat

theorem rmay_ok (s : ByteArray) (w : World) (hs : s.size ≤ 1000000) :
    Calls Try.prog 11 #[.string s] w fun e w' => e = .returned (.bool (mayL (byts s))) ∧ w = w' := by
  unfold mayL
  rw [byts_len]
  by_cases h1 : s.size ≤ 100
  · have d0 : decide ((100 : Int) < s.size) = false := by simp; omega
    rw [decide_eq_true h1, Bool.true_and]
    clear h1
    go_enter Try.func11, Try.ntmps11
    go_wp2
    go_loopg [3] s.size (fun g v wx => w = wx ∧ ∃ i : Nat, i + g = s.size ∧ v = .int .i64 i ∧ ((byts s).drop i).all (fun c => insideN c.toNat) = (byts s).all fun c => insideN c.toNat)
    case atStart => exact ⟨rfl, 0, by omega, rfl, rfl⟩
    case round =>
      obtain ⟨rfl, i, hig, rfl, hinv⟩ := hrel
      have HI := Lib.hid hinv
      clear hinv
      cases gk with
      | zero =>
        have d1 : decide ((i : Int) < s.size) = false := by simp; omega
        go_wp2
        go_ret
        rw [← HI.out, byts_end (by omega)]
        exact ⟨rfl, rfl⟩
      | succ g =>
        have hiz : (i : Int) < (s.size : Int) := by omega
        have hin : i < s.size := by omega
        have d1 : decide ((i : Int) < s.size) = true := decide_eq_true hiz
        obtain ⟨x, hx⟩ : ∃ x : UInt8, s[i]'(by omega) = x := ⟨_, rfl⟩
        have hx8 := x.toNat_lt
        have HX := Lib.hid hx
        cases hp : insideN x.toNat with
        | true =>
          have Hp := Lib.hid hp
          clear hp
          go_wp2_with (go_at_call 25; refine (rwithin_ok x.toNat hx8).mono ?_; rintro e w1 ⟨rfl, rfl⟩; rw [Hp.out])
          go_roundg g
          case measure => omega
          case rel => exact ⟨rfl, i + 1, by omega, by go_num, by rw [← HI.out, byts_drop hin, HX.out, List.all_cons, Hp.out, Bool.true_and]⟩
        | false =>
          have Hp := Lib.hid hp
          clear hp
          go_wp2_with (go_at_call 25; refine (rwithin_ok x.toNat hx8).mono ?_; rintro e w1 ⟨rfl, rfl⟩; rw [Hp.out])
          go_ret
          rw [← HI.out, byts_drop hin, HX.out, List.all_cons, Hp.out, Bool.false_and]
          exact ⟨rfl, rfl⟩
  · have d0 : decide ((100 : Int) < s.size) = true := by simp; omega
    rw [decide_eq_false h1, Bool.false_and]
    clear h1
    go_enter Try.func11, Try.ntmps11
    go_wp2
    go_ret
    exact ⟨rfl, rfl⟩

theorem sign_name : ∀ x : Fin 256, signN x.val = true → digitN x.val = false → byN x.val = 5 := by decide +kernel
theorem signs_all {l : List UInt8} (h : (l.all fun c => signN c.toNat) = true) : signs l = l := by
  have h1 : signs (l ++ []) = l ++ signs [] := by
    unfold signs
    rw [List.takeWhile_append_of_pos]
    exact fun a ha => List.all_eq_true.1 h a ha
  rwa [List.append_nil, show signs [] = [] from rfl, List.append_nil] at h1

/-- A name, written, is one token. -/
theorem tok_quote {l : List UInt8} (hm : mayL l = true) (hr : reservedL l = false) : tok (quoteL l) = some ⟨2, l, (quoteL l).length⟩ := by
  unfold mayL at hm
  rw [Bool.and_eq_true, decide_eq_true_eq] at hm
  unfold quoteL
  rw [hr, Bool.or_false]
  cases hp : plainL l with
  | true =>
    rw [if_pos rfl]
    unfold plainL at hp
    rw [Bool.and_eq_true, Bool.and_eq_true, Bool.and_eq_true, Bool.and_eq_true] at hp
    obtain ⟨h1, _, h3, h4, _⟩ := hp
    cases l with
    | nil => cases h1
    | cons c t =>
      have h5 : signN c.toNat = true := List.all_eq_true.1 h3 c (by simp)
      have h6 : digitN c.toNat = false := by simpa [headB] using h4
      have h7 := sign_name ⟨c.toNat, c.toNat_lt⟩ h5 h6
      have h8 := signs_all h3
      rw [tok_cons, h7]
      show tokName (c :: t) = _
      unfold tokName
      simp only [h8]
      exact raw_of hm.1
  | false =>
    rw [if_neg (by decide), tok_cons, show byN (124 : UInt8).toNat = 2 by decide]
    show tokBar (l ++ [124]) = _
    have h4 : (l ++ [124]).takeWhile (fun c => c != 124) = l := by
      rw [List.takeWhile_append_of_pos]
      · simp
      · intro a ha
        have h5 := List.all_eq_true.1 hm.2 a ha
        have h6 : a ≠ 124 := by
          rintro rfl
          exact absurd h5 (by decide)
        simpa using h6
    unfold tokBar
    rw [if_pos (by simp)]
    simp only [h4]
    rw [if_pos hm.2, raw_of hm.1]
    simp

theorem lexes_single {l : List UInt8} {k : Nat} {t : List UInt8} (h : tok l = some ⟨k, t, l.length⟩) (suf : List UInt8) (h1 : signs suf = []) (h2 : sk false suf = suf.length) : Lexes (l ++ suf) 0 [⟨k, t, 0, l.length⟩] none := by
  have hs : startL (l ++ suf) 0 = 0 := by
    unfold startL
    rw [List.drop_zero, tok_sk h suf]
  have ht : tok (l ++ suf) = some ⟨k, t, l.length⟩ := by
    rcases tok_pre h with h3 | ⟨_, h3⟩
    · have := h3 suf
      rwa [List.take_of_length_le (Nat.le_refl _)] at this
    · have := h3 suf h1
      rwa [List.take_of_length_le (Nat.le_refl _)] at this
  have h4 : startL (l ++ suf) l.length = (l ++ suf).length := by
    unfold startL
    rw [List.drop_append, List.drop_of_length_le (Nat.le_refl _), List.nil_append, Nat.sub_self, List.drop_zero, h2, List.length_append]
  have h5 := Lexes.one (L := l ++ suf) (p := 0) (r := ⟨k, t, l.length⟩) (ts := []) (e := none) (by rw [hs, List.drop_zero]; exact ht)
    (by rw [hs, Nat.zero_add]; exact .done (by rw [h4]; exact List.drop_of_length_le (Nat.le_refl _)))
  rw [hs, Nat.zero_add] at h5
  exact h5
theorem sk_pre (x : List UInt8) : sk false (32 :: 9 :: 59 :: 32 :: 120 :: 10 :: x) = 6 + sk false x := by
  rw [sk_f, if_neg (by decide), if_pos (by decide), sk_f, if_neg (by decide), if_pos (by decide), sk_f, if_pos (by decide), sk_c, if_neg (by decide), sk_c, if_neg (by decide), sk_c, if_pos (by decide)]
  omega
theorem lexes_about {l : List UInt8} {k : Nat} {t : List UInt8} (h : tok l = some ⟨k, t, l.length⟩) : Lexes (32 :: 9 :: 59 :: 32 :: 120 :: 10 :: (l ++ [13, 59])) 0 [⟨k, t, 6, 6 + l.length⟩] none := by
  have h1 := (lexes_single h [13, 59] (by decide) (by decide)).shift [32, 9, 59, 32, 120, 10] rfl
  refine Lexes.move ?_ h1
  have h2 := startL_shift [32, 9, 59, 32, 120, 10] (l ++ [13, 59]) 0
  show startL ([32, 9, 59, 32, 120, 10] ++ (l ++ [13, 59])) 0 = startL ([32, 9, 59, 32, 120, 10] ++ (l ++ [13, 59])) (([32, 9, 59, 32, 120, 10] : List UInt8).length + 0)
  rw [h2]
  unfold startL
  rw [List.drop_zero, List.drop_zero]
  show 0 + sk false (32 :: 9 :: 59 :: 32 :: 120 :: 10 :: (l ++ [13, 59])) = _
  rw [sk_pre]
  show 0 + (6 + _) = 6 + (0 + _)
  omega

theorem all_alone (s q : ByteArray) (w : World) (h : tok (byts q) = some ⟨2, byts s, (byts q).length⟩) (hq : q.size ≤ 1000) :
    Calls Try.prog 8 #[.string q] w fun e w' => ∃ g cap, e = .returned (.tuple #[.slice (some ⟨g, 0, none⟩) 1 cap, .int .i64 q.size, .int .i64 0]) ∧ g < w'.heap.size ∧ 1 ≤ cap ∧ w'.cell? ⟨g, 0, none⟩ = some (.int .i8 2) ∧ w'.cell? ⟨g, 1, none⟩ = some (.string s) ∧ Below w.heap.size w w' := by
  have hx := lexes_single h [] rfl rfl
  rw [List.append_nil] at hx
  refine (all_is q w (by omega) [⟨2, byts s, 0, (byts q).length⟩] none (fun ts' err' h' => lexes_one h' hx)).mono ?_
  rintro e w1 ⟨v1, rfl, ho1, hb1⟩
  obtain ⟨g1, cap1, rfl, _, hg1, hcap1⟩ := own_form ho1 (by simp)
  have a0 := own_cell tkCells tkCells_len ho1 (i := 0) (j := 0) (by simp) (by decide)
  have a1 := own_cell tkCells tkCells_len ho1 (i := 0) (j := 1) (by simp) (by decide)
  simp only [tkCells, List.getElem_cons_zero, List.getElem?_cons_zero, List.getElem?_cons_succ, Nat.zero_mul, Nat.zero_add, Lib.mk_data] at a0 a1
  exact ⟨g1, cap1, rfl, hg1, hcap1, a0, a1, hb1⟩
theorem all_about (s q : ByteArray) (w : World) (h : tok (byts q) = some ⟨2, byts s, (byts q).length⟩) (hq : q.size ≤ 1000) :
    Calls Try.prog 8 #[.string ({ data := #[32, 9, 59, 32, 120, 10] } ++ q ++ { data := #[13, 59] })] w fun e w' => ∃ g cap n, e = .returned (.tuple #[.slice (some ⟨g, 0, none⟩) 1 cap, .int .i64 n, .int .i64 0]) ∧ g < w'.heap.size ∧ 1 ≤ cap ∧ w'.cell? ⟨g, 1, none⟩ = some (.string s) ∧ Below w.heap.size w w' := by
  have hx := lexes_about h
  have hb : byts ({ data := #[32, 9, 59, 32, 120, 10] } ++ q ++ { data := #[13, 59] }) = 32 :: 9 :: 59 :: 32 :: 120 :: 10 :: (byts q ++ [13, 59]) := by simp [byts]
  rw [← hb] at hx
  have hz : ({ data := #[32, 9, 59, 32, 120, 10] } ++ q ++ { data := #[13, 59] } : ByteArray).size ≤ 1000000 := by
    rw [← byts_len, hb]
    simp
    omega
  generalize ({ data := #[32, 9, 59, 32, 120, 10] } ++ q ++ { data := #[13, 59] } : ByteArray) = S at *
  refine (all_is S w hz [⟨2, byts s, 6, 6 + (byts q).length⟩] none (fun ts' err' h' => lexes_one h' hx)).mono ?_
  rintro e w1 ⟨v1, rfl, ho1, hb1⟩
  obtain ⟨g1, cap1, rfl, _, hg1, hcap1⟩ := own_form ho1 (by simp)
  have a1 := own_cell tkCells tkCells_len ho1 (i := 0) (j := 1) (by simp) (by decide)
  simp only [tkCells, List.getElem_cons_zero, List.getElem?_cons_zero, List.getElem?_cons_succ, Nat.zero_mul, Nat.zero_add, Lib.mk_data] at a1
  exact ⟨g1, cap1, _, rfl, hg1, hcap1, a1, hb1⟩

set_option maxHeartbeats 2000000 in
theorem LexBack_true (w : World) (s : ByteArray) :
    Calls Try.prog 6 #[.string s] w fun e w' => e = .returned (.bool true) ∧ Below w.heap.size w w' := by
  by_cases hs : 200 < s.size
  · have d1 : decide ((200 : Int) < s.size) = true := by simp; omega
    go_enter Try.func6, Try.ntmps6
    go_wp2_with (go_at_call 7; refine (wakes_ok _).mono ?_; rintro e w1 ⟨rfl, hb1⟩; have HB := Lib.hid hb1; clear hb1)
    go_ret
    exact ⟨rfl, HB.out⟩
  have d1 : decide ((200 : Int) < s.size) = false := by simp; omega
  have hs6 : s.size ≤ 1000000 := by omega
  have hs3 : s.size ≤ 1000 := by omega
  have hs2 : s.size ≤ 200 := by omega
  clear hs
  cases hm : mayL (byts s) with
  | false =>
    have Hm := Lib.hid hm
    clear hm
    go_enter Try.func6, Try.ntmps6
    go_wp2_with (first | (go_at_call 11; refine (rmay_ok s _ hs6).mono ?_; rintro e w1 ⟨rfl, rfl⟩; rw [Hm.out]) | (go_at_call 7; refine (wakes_ok _).mono ?_; rintro e w1 ⟨rfl, hb1⟩; have HB := Lib.hid hb1; clear hb1))
    go_ret
    exact ⟨rfl, HB.out⟩
  | true =>
    have Hm := Lib.hid hm
    clear hm
    cases hr : reservedL (byts s) with
    | true =>
      have Hr := Lib.hid hr
      clear hr
      go_enter Try.func6, Try.ntmps6
      go_wp2_with (first | (go_at_call 11; refine (rmay_ok s _ hs6).mono ?_; rintro e w1 ⟨rfl, rfl⟩; rw [Hm.out]) | (go_at_call 12; refine (rreserved_ok s _).mono ?_; rintro e w1 ⟨rfl, rfl⟩; rw [Hr.out]) | (go_at_call 7; refine (wakes_ok _).mono ?_; rintro e w1 ⟨rfl, hb1⟩; have HB := Lib.hid hb1; clear hb1))
      go_ret
      exact ⟨rfl, HB.out⟩
    | false =>
      have Hr := Lib.hid hr
      clear hr
      have htok := Lib.hid (tok_quote Hm.out Hr.out)
      have tq : (s.toList == s.toList) = true := beq_self_eq_true _
      go_enter Try.func6, Try.ntmps6
      go_upto_region 4 with (first | (go_at_call 11; refine (rmay_ok s _ hs6).mono ?_; rintro e w1 ⟨rfl, rfl⟩; rw [Hm.out]) | (go_at_call 12; refine (rreserved_ok s _).mono ?_; rintro e w1 ⟨rfl, rfl⟩; rw [Hr.out]) | (go_at_call 13; refine (quote_ok s _ hs3).mono ?_; rintro e w1 ⟨⟨q, rfl, hq⟩, rfl⟩; have Hq := Lib.hid hq; clear hq))
      have hl : Hid (tok (byts q) = some ⟨2, byts s, (byts q).length⟩) := Lib.hid (by rw [Hq.out]; exact htok.out)
      have hqs : q.size ≤ 1000 := by
        have h1 := congrArg List.length Hq.out
        rw [byts_len] at h1
        rw [h1]
        unfold quoteL
        split
        · rw [byts_len]; omega
        · rw [List.length_cons, List.length_append, byts_len]; simp; omega
      go_upto_region 5 with (go_at_call 8; refine (all_alone s q _ hl.out hqs).mono ?_; rintro e w1 ⟨g1, cap1, rfl, hg1, hcap1, a0, a1, hb1⟩; have HB1 := Lib.hid hb1; clear hb1)
      go_upto_region 6 with (go_at_call 8; refine (all_about s q _ hl.out hqs).mono ?_; rintro e w2 ⟨g2, cap2, n2, rfl, hg2, hcap2, b1, hb2⟩; have a0 := (hb2.cell (p := ⟨g1, 0, none⟩) hg1).trans a0; have a1 := (hb2.cell (p := ⟨g1, 1, none⟩) hg1).trans a1; have HB2 := Lib.hid (HB1.out.trans (hb2.mono HB1.out.size)); clear hb2)
      go_wp2_with (go_at_call 7; refine (wakes_ok _).mono ?_; rintro e w3 ⟨rfl, hb3⟩; have HB := Lib.hid (HB2.out.trans (hb3.mono HB2.out.size)); clear hb3)
      go_ret
      exact ⟨rfl, HB.out⟩

theorem lexBack_walk (s : ByteArray) (W : World) (_ : s.size ≤ maxLen) :
    Calls Try.prog 6 #[.string s] W fun e w' => e = .returned (.bool true) ∧ Below W.heap.size W w' := LexBack_true W s
end Go.Proofs.Ytpmdgjihgiieoaa

/- LexStands: tokens stand one behind the other; each is read alone as it is. -/
import Derived.Test.YtpmdgjihgiieoaaLexO
namespace Go.Proofs.Ytpmdgjihgiieoaa
open Go.RowKit

theorem lexes_cons {L : List UInt8} {n : Nat} {x : Tk} {ts : List Tk} {e : Option Nat} (h : Lexes L n (x :: ts) e) :
    ∃ r, tok (L.drop (startL L n)) = some r ∧ x = ⟨r.k, r.t, startL L n, startL L n + r.n⟩ ∧ Lexes L (startL L n + r.n) ts e := by
  cases h with
  | one h h2 => exact ⟨_, h, rfl, h2⟩

/-- What the law's loop asks of a token. -/
theorem stands_step {s : ByteArray} {n : Nat} {x : Tk} {ts : List Tk} {e : Option Nat} (hn : n ≤ s.size) (h : Lexes (byts s) n (x :: ts) e) :
    ∃ r : Raw, x.k = r.k ∧ x.t = r.t ∧ x.b = x.a + r.n ∧ n ≤ x.a ∧ x.a < x.b ∧ x.b ≤ s.size ∧ startI s n = x.a ∧ startI (s.extract x.a x.b) 0 = 0 ∧ tok ((byts (s.extract x.a x.b)).drop 0) = some r ∧ Lexes (byts s) x.b ts e := by
  obtain ⟨r, h1, rfl, h2⟩ := lexes_cons h
  have hl := tok_len h1
  have h3 := startL_le (byts s) n (by rw [byts_len]; exact hn)
  have h4 := startL_ge (byts s) n
  rw [List.length_drop] at hl
  rw [byts_len] at hl h3
  have hsub : byts (s.extract (startL (byts s) n) (startL (byts s) n + r.n)) = ((byts s).drop (startL (byts s) n)).take r.n := by
    rw [byts, Lib.extract_data, Nat.add_sub_cancel_left]
  refine ⟨r, rfl, rfl, rfl, h4, by simp only; omega, by simp only; omega, startI_nat s n hn, ?_, ?_, h2⟩
  · have h5 := startI_nat (s.extract (startL (byts s) n) (startL (byts s) n + r.n)) 0 (Nat.zero_le _)
    rw [show ((0 : Nat) : Int) = 0 from rfl] at h5
    rw [h5]
    unfold startL
    rw [List.drop_zero, Nat.zero_add]
    show sk false (byts (s.extract (startL (byts s) n) (startL (byts s) n + r.n))) = 0
    rw [hsub]
    have := tok_sk (tok_take h1) []
    rwa [List.append_nil] at this
  · simp only
    rw [List.drop_zero, hsub]
    exact tok_take h1
theorem stands_none {s : ByteArray} {n : Nat} (hn : n ≤ s.size) (h : Lexes (byts s) n [] none) : startI s n = s.size := by
  rw [startI_nat s n hn]
  cases h with
  | done h =>
    have h1 := congrArg List.length h
    have h2 := startL_le (byts s) n (by rw [byts_len]; exact hn)
    rw [List.length_drop, List.length_nil] at h1
    rw [byts_len] at h1 h2
    omega
theorem stands_some {s : ByteArray} {n m : Nat} (hn : n ≤ s.size) (h : Lexes (byts s) n [] (some m)) : startI s n = m ∧ m < s.size := by
  rw [startI_nat s n hn]
  generalize he : some m = e at h
  generalize ht : ([] : List Tk) = ts at h
  cases h with
  | done h => cases he
  | bad h h2 =>
    injection he with he
    refine ⟨he.symm, ?_⟩
    rcases Nat.lt_or_ge m s.size with h3 | h3
    · exact h3
    · exact absurd (byts_end (by omega)) h
  | one h h2 => cases ht

theorem skip_q (s : ByteArray) (a : Int) (n : Nat) (w : World) (hs : s.size ≤ 1000000) (h : startI s a = n) :
    Calls Try.prog 9 #[.string s, .int .i64 a] w fun e w' => e = .returned (.int .i64 n) ∧ w' = w :=
  (skip_ok s a w hs).mono fun e w' ⟨h1, h2⟩ => ⟨by rw [h1, show fromI a s.size + sk false ((byts s).drop (fromI a s.size)) = n from h], h2.symm⟩

theorem next_zero (s : ByteArray) (w : World) (hs : s.size ≤ 1000000) (hn : startI s 0 = 0) (r : Raw) (ht : tok ((byts s).drop 0) = some r) (T : ByteArray) (hT : (⟨r.t.toArray⟩ : ByteArray) = T) :
    Calls Try.prog 10 #[.string s, .int .i64 0] w fun e w' => e = .returned (.tuple #[.agg #[.int .i8 r.k, .string T, .int .i64 0, .int .i64 r.n], .bool true, .int .i64 0]) ∧ Below w.heap.size w w' :=
  (next_tok s 0 w hs 0 hn r ht).mono fun e w' ⟨h1, h2⟩ => ⟨by
    rw [h1, show ((0 : Nat) : Int) = 0 from rfl, Int.zero_add, hT], h2⟩

/-- Where the law's loop stands. -/
def StandsAt (s : ByteArray) (ts : List Tk) (err : Option Nat) (w1 : World) (vn vi : Value) (wr : World) : Prop :=
  ∃ i n : Nat, i ≤ ts.length ∧ n ≤ s.size ∧ vn = .int .i64 n ∧ vi = .int .i64 i ∧ Lexes (byts s) n (ts.drop i) err ∧ Below w1.heap.size w1 wr
theorem StandsAt.mk {s : ByteArray} {ts : List Tk} {err : Option Nat} {w1 wr : World} (i n : Nat) (vi : Value) (hi : i ≤ ts.length) (hn : n ≤ s.size) (hvi : vi = .int .i64 i) (h : Lexes (byts s) n (ts.drop i) err) (hb : Below w1.heap.size w1 wr) :
    StandsAt s ts err w1 (.int .i64 n) vi wr := ⟨i, n, hi, hn, rfl, hvi, h, hb⟩

set_option maxRecDepth 100000 in
set_option maxHeartbeats 4000000 in
theorem LexStands_true (w : World) (s : ByteArray) :
    Calls Try.prog 3 #[.string s] w fun e w' => e = .returned (.bool true) ∧ Below w.heap.size w w' := by
  by_cases hs : 2000 < s.size
  · have d1 : decide ((2000 : Int) < s.size) = true := by simp; omega
    go_enter Try.func3, Try.ntmps3
    go_wp2_with (go_at_call 7; refine (wakes_ok _).mono ?_; rintro e w1 ⟨rfl, hb1⟩; have HB := Lib.hid hb1; clear hb1)
    go_ret
    exact ⟨rfl, HB.out⟩
  have d1 : decide ((2000 : Int) < s.size) = false := by simp; omega
  have hs6 : s.size ≤ 1000000 := by omega
  clear hs
  go_enter Try.func3, Try.ntmps3
  go_upto_region 4 with (go_at_call 8; refine (all_ok s _ hs6).mono ?_; rintro e w1 ⟨ts, err, v, hlex, rfl, hown, hb1⟩; obtain ⟨A, cap, rfl⟩ := own_slice hown; have Hlex := Lib.hid hlex; have Hown := Lib.hid hown; have HB1 := Lib.hid hb1; clear hlex hown hb1)
  generalize hme : err.getD s.size = me
  generalize hce : (if err.isSome = true then (20 : Int) else 0) = ce
  have Hme := Lib.hid hme
  have Hce := Lib.hid hce
  clear hme hce
  have hb0 : w.heap.size ≤ w1.heap.size := HB1.out.size
  have hms : ts.length ≤ 9223372036854775807 := by
    obtain ⟨h1, h2⟩ := Hown.out
    rcases h2 with ⟨_, h2⟩ | ⟨g, cap, cur, _, _, _, h3, h4, _⟩
    · omega
    · unfold maxLen at h4; omega
  go_wp2
  go_loopw [6, 7] (fun vn vi wr => StandsAt s ts err w1 vn vi wr) (fun _ vi _ => (ts.length - intOf vi).toNat)
  case atStart => exact StandsAt.mk 0 0 _ (Nat.zero_le _) (Nat.zero_le _) rfl Hlex.out (Below.refl _ _)
  case round =>
    obtain ⟨i, n, hi, hn, rfl, rfl, hlx, hbw⟩ := hrel
    by_cases hit : i < ts.length
    · have q1 : decide ((i : Int) < ts.length) = true := by simp; omega
      obtain ⟨g, cap', hv, _, hg, _⟩ := own_form Hown.out (by omega)
      injection hv with hA hlen hcap
      subst hA
      subst hcap
      clear hlen
      have hdr : ts.drop i = ts[i] :: ts.drop (i + 1) := List.drop_eq_getElem_cons hit
      rw [hdr] at hlx
      obtain ⟨r, hk, ht, hb, hna, hab, hbs, hst, hst0, htok, hlx2⟩ := stands_step hn hlx
      have e0 := own_cell tkCells tkCells_len Hown.out (i := i) (j := 0) hit (by omega)
      have e1 := own_cell tkCells tkCells_len Hown.out (i := i) (j := 1) hit (by omega)
      have e2 := own_cell tkCells tkCells_len Hown.out (i := i) (j := 2) hit (by omega)
      have e3 := own_cell tkCells tkCells_len Hown.out (i := i) (j := 3) hit (by omega)
      simp only [tkCells, List.getElem?_cons_zero, List.getElem?_cons_succ, Nat.add_zero] at e0 e1 e2 e3
      obtain ⟨T, hT⟩ : ∃ T, (⟨r.t.toArray⟩ : ByteArray) = T := ⟨_, rfl⟩
      rw [hk] at e0
      rw [ht, hT] at e1
      have HT := Lib.hid hT
      have tq : (T.toList == T.toList) = true := beq_self_eq_true _
      have x0 := (hbw.cell (p := ⟨g, i * 4, none⟩) hg).trans e0
      have x1 := (hbw.cell (p := ⟨g, i * 4 + 1, none⟩) hg).trans e1
      have x2 := (hbw.cell (p := ⟨g, i * 4 + 2, none⟩) hg).trans e2
      have x3 := (hbw.cell (p := ⟨g, i * 4 + 3, none⟩) hg).trans e3
      have Hlx2 := Lib.hid hlx2
      have Hst := Lib.hid hst
      have Hst0 := Lib.hid hst0
      have Htok := Lib.hid htok
      have Hbw := Lib.hid hbw
      have hgr : g < wr.heap.size := Nat.lt_of_lt_of_le hg hbw.size
      have hwz : w1.heap.size ≤ wr.heap.size := hbw.size
      clear hlx2 hst hst0 htok hbw hdr hlx e0 e1 e2 e3 hk ht hT
      generalize ts[i].a = a at *
      generalize ts[i].b = b at *
      have t1 : decide ((a : Int) < n) = false := by simp; omega
      have t2 : decide ((b : Int) ≤ a) = false := by simp; omega
      have t3 : decide ((s.size : Int) < b) = false := by simp; omega
      have t4 : ((a : Int) != a) = false := bne_self_eq_false _
      have t5 : (0 : Int) ≤ a := by omega
      have t6 : (a : Int) ≤ b := by omega
      have t7 : (b : Int) ≤ s.size := by omega
      have t8 : (b : Int) - a = r.n := by omega
      have t9 : ((r.n : Int) != r.n) = false := bne_self_eq_false _
      have t10 : ((r.k : Int) != r.k) = false := bne_self_eq_false _
      have hus : (s.extract a b).size ≤ 1000000 := by rw [ByteArray.size_extract]; omega
      clear hb
      go_wp2
      go_quiet ((go_at_call 9; refine Calls.quiet_of_same (skip_q s n a _ hs6 Hst.out)))
      go_upto_region 12 with (go_at_call 10; refine (next_zero (s.extract a b) _ hus Hst0.out r Htok.out T HT.out).mono ?_; rintro e w4 ⟨rfl, hb4⟩; have HB4 := Lib.hid hb4; have hx4 := (((Blk.new wr 29 #[.int .i8 r.k, .string T, .int .i64 a, .int .i64 b]).drewN nq).below hb4 (by simp)).alloc (.cells #[.int .i8 r.k, .string T, .int .i64 0, .int .i64 r.n] 29); obtain ⟨c0, c1, c2, c3⟩ := cells4' hx4; clear hb4 hx4)
      clear hus t1 t2 t3 t4 t5 t6 t7 x0 x1 x2 x3 q1
      have w8 : IntKind.i64.wrap ((b : Int) - a) = r.n := by rw [t8, IntKind.wrap_i64]; omega
      have w9 : IntKind.i64.wrap (r.n : Int) = r.n := by rw [IntKind.wrap_i64]; omega
      go_wp2
      refine ⟨StandsAt.mk (i + 1) b _ (by omega) (by omega) (by go_num) Hlx2.out ?_, by simp only [intOf]; omega⟩
      have h1 := below_drewN (Hbw.out.alloc hwz (.cells #[.int .i8 r.k, .string T, .int .i64 a, .int .i64 b] 29)) nq
      exact (h1.trans (HB4.out.mono h1.size)).alloc (Nat.le_trans h1.size HB4.out.size) _
    · have q1 : decide ((i : Int) < ts.length) = false := by simp; omega
      have hil : i = ts.length := by omega
      rw [hil, List.drop_of_length_le (Nat.le_refl _)] at hlx
      have HB5 := Lib.hid (HB1.out.trans (hbw.mono hb0))
      clear hbw hil
      cases err with
      | none =>
        have hst := Lib.hid (stands_none hn hlx)
        obtain rfl : me = s.size := Hme.out.symm
        obtain rfl : ce = 0 := Hce.out.symm
        have t1 : ((s.size : Int) == s.size) = true := beq_self_eq_true _
        clear hlx
        go_wp2_with (first | (go_at_call 9; refine (skip_q s n s.size _ hs6 hst.out).mono ?_; rintro e w5 ⟨rfl, rfl⟩) | (go_at_call 7; refine (wakes_ok _).mono ?_; rintro e w6 ⟨rfl, hb6⟩; have HB := Lib.hid (HB5.out.trans (hb6.mono HB5.out.size)); clear hb6))
        go_ret
        exact ⟨rfl, HB.out⟩
      | some m =>
        obtain ⟨hst, hm⟩ := stands_some hn hlx
        have Hst := Lib.hid hst
        obtain rfl : me = m := Hme.out.symm
        obtain rfl : ce = 20 := Hce.out.symm
        have t1 : ((me : Int) == me) = true := beq_self_eq_true _
        have t2 : decide ((me : Int) < s.size) = true := by simp; omega
        clear hlx hst
        go_wp2_with (first | (go_at_call 9; refine (skip_q s n me _ hs6 Hst.out).mono ?_; rintro e w5 ⟨rfl, rfl⟩) | (go_at_call 7; refine (wakes_ok _).mono ?_; rintro e w6 ⟨rfl, hb6⟩; have HB := Lib.hid (HB5.out.trans (hb6.mono HB5.out.size)); clear hb6))
        go_ret
        exact ⟨rfl, HB.out⟩

theorem lexStands_walk (s : ByteArray) (W : World) (_ : s.size ≤ maxLen) :
    Calls Try.prog 3 #[.string s] W fun e w' => e = .returned (.bool true) ∧ Below W.heap.size W w' := LexStands_true W s
end Go.Proofs.Ytpmdgjihgiieoaa

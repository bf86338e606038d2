/- The tokens of a text one behind the other; the iterator. -/
import Derived.Test.YtpmdgjihgiieoaaLexK
import Derived.Test.YtpmdgjihgiieoaaRange
namespace Go.Proofs.Ytpmdgjihgiieoaa
open Go.RowKit

/-- A token: kind, text, begin, end. -/
structure Tk where
  k : Nat
  t : List UInt8
  a : Nat
  b : Nat
deriving DecidableEq
def tkCells (x : Tk) : List Value := [.int .i8 x.k, .string ⟨x.t.toArray⟩, .int .i64 x.a, .int .i64 x.b]
theorem tkCells_len (x : Tk) : (tkCells x).length = 4 := rfl

/-- Where the next token begins. -/
def startL (L : List UInt8) (p : Nat) : Nat := p + sk false (L.drop p)

/-- The tokens of a text from a place on; the place of the first bytes that are none, where there are such. -/
inductive Lexes (L : List UInt8) : Nat → List Tk → Option Nat → Prop
  | done {p : Nat} (h : L.drop (startL L p) = []) : Lexes L p [] none
  | bad {p : Nat} (h : L.drop (startL L p) ≠ []) (h2 : tok (L.drop (startL L p)) = none) : Lexes L p [] (some (startL L p))
  | one {p : Nat} {r : Raw} {ts : List Tk} {e : Option Nat} (h : tok (L.drop (startL L p)) = some r) (h2 : Lexes L (startL L p + r.n) ts e) :
      Lexes L p (⟨r.k, r.t, startL L p, startL L p + r.n⟩ :: ts) e

theorem tok_cons (c : UInt8) (r : List UInt8) : tok (c :: r) = match byN c.toNat with
    | 0 => raw 0 [] 1
    | 1 => raw 1 [] 1
    | 2 => tokBar r
    | 3 => tokKey r
    | 4 => tokNum (c :: r)
    | 5 => tokName (c :: r)
    | _ => none := rfl
theorem raw_len {k : Nat} {t : List UInt8} {n : Nat} {r : Raw} (h : raw k t n = some r) : r.n = n := by rw [raw_eq h]
theorem tok_len {l : List UInt8} {r : Raw} (h : tok l = some r) : 1 ≤ r.n ∧ r.n ≤ l.length := by
  cases l with
  | nil => cases h
  | cons c m =>
    rw [tok_cons] at h
    have hsg : byN c.toNat = 4 ∨ byN c.toNat = 5 → signN c.toNat = true := by
      have := (by decide +kernel : ∀ x : Fin 256, byN x.val = 4 ∨ byN x.val = 5 → signN x.val = true) ⟨c.toNat, c.toNat_lt⟩
      exact this
    have hcons : signN c.toNat = true → signs (c :: m) = c :: signs m := fun hs => by
      unfold signs
      rw [List.takeWhile_cons, if_pos hs]
    rw [List.length_cons]
    split at h
    · rw [raw_len h]; omega
    · rw [raw_len h]; omega
    · unfold tokBar at h
      split at h
      · rename_i hm
        simp only at h
        split at h
        · rw [raw_len h]
          have : (m.takeWhile fun c => c != 124).length < m.length := by
            rcases Nat.lt_or_ge (m.takeWhile fun c => c != 124).length m.length with h1 | h1
            · exact h1
            · exfalso
              have h2 : m.takeWhile (fun c => c != 124) = m := (List.takeWhile_prefix _).eq_of_length_le h1
              rw [← h2] at hm
              have h3 := List.all_eq_true.1 (List.all_takeWhile (p := fun c : UInt8 => c != 124) (l := m)) _ hm
              simp at h3
          omega
        · cases h
      · cases h
    · rw [tokKey_eq h]
      have := signs_le m
      simp only
      omega
    · rename_i h4
      rw [tokNum_eq h, hcons (hsg (.inl h4))]
      have := signs_le m
      simp
      omega
    · rename_i h5
      unfold tokName at h
      simp only at h
      rw [raw_len h, hcons (hsg (.inr h5))]
      have := signs_le m
      simp
      omega
    · cases h

theorem startI_nat (s : ByteArray) (p : Nat) (h : p ≤ s.size) : startI s p = startL (byts s) p := by
  have : fromI (p : Int) s.size = p := by unfold fromI; omega
  unfold startI startL
  rw [this]

theorem next_eof (s : ByteArray) (a : Int) (w : World) (hs : s.size ≤ 1000000) (n : Nat) (hn : startI s a = n) (h : (byts s).drop n = []) :
    Calls Try.prog 10 #[.string s, .int .i64 a] w fun e w' => e = .returned (.tuple #[.agg #[.int .i8 0, .string ⟨#[]⟩, .int .i64 0, .int .i64 0], .bool false, .int .i64 0]) ∧ Below w.heap.size w w' :=
  (next_ok s a w hs).mono fun e w' ⟨h1, h2⟩ => ⟨(by
    rw [hn] at h1
    rcases h1 with ⟨_, h1⟩ | ⟨h3, _⟩ | ⟨r, t, h3, _⟩
    · exact h1
    · exact absurd h h3
    · rw [h] at h3; cases h3), h2⟩
theorem next_bad (s : ByteArray) (a : Int) (w : World) (hs : s.size ≤ 1000000) (n : Nat) (hn : startI s a = n) (h : (byts s).drop n ≠ []) (ht : tok ((byts s).drop n) = none) :
    Calls Try.prog 10 #[.string s, .int .i64 a] w fun e w' => e = .returned (.tuple #[.agg #[.int .i8 0, .string ⟨#[]⟩, .int .i64 n, .int .i64 0], .bool false, .int .i64 20]) ∧ Below w.heap.size w w' :=
  (next_ok s a w hs).mono fun e w' ⟨h1, h2⟩ => ⟨(by
    rw [hn] at h1
    rcases h1 with ⟨h3, _⟩ | ⟨_, _, h1⟩ | ⟨r, t, h3, _⟩
    · exact absurd h3 h
    · exact h1
    · rw [ht] at h3; cases h3), h2⟩
theorem next_tok (s : ByteArray) (a : Int) (w : World) (hs : s.size ≤ 1000000) (n : Nat) (hn : startI s a = n) (r : Raw) (ht : tok ((byts s).drop n) = some r) :
    Calls Try.prog 10 #[.string s, .int .i64 a] w fun e w' => e = .returned (.tuple #[.agg #[.int .i8 r.k, .string ⟨r.t.toArray⟩, .int .i64 n, .int .i64 (n + r.n)], .bool true, .int .i64 0]) ∧ Below w.heap.size w w' :=
  (next_ok s a w hs).mono fun e w' ⟨h1, h2⟩ => ⟨(by
    rw [hn] at h1
    rcases h1 with ⟨h3, _⟩ | ⟨_, h3, _⟩ | ⟨r', t, h3, h4, h1⟩
    · rw [h3] at ht; cases ht
    · rw [ht] at h3; cases h3
    · rw [ht] at h3
      injection h3 with h3
      subst h3
      rw [h1, ← h4, Lib.mk_data]), h2⟩

set_option maxHeartbeats 1000000 in
theorem tokens_iter (l b1 : Nat) (s : ByteArray) (hs : s.size ≤ 1000000) (X : List Tk → World → Prop) (Z : List Tk → Nat → World → Prop)
    (hX : ∀ acc W W', X acc W → Below W.heap.size W W' → X acc W')
    (hXb : ∀ acc W, X acc W → Blk W b1 9 #[.string s])
    (hY : ∀ (acc : List Tk) (x : Tk) (W0 W : World) (g : Nat) (cs : Array Value), X acc W0 → Below W0.heap.size W0 W → W0.heap.size ≤ g → Blk W g 29 cs → acc.length < 1000000 →
      ∃ fn tmps assign body, (Instr.yield l #[.agg #[.int .i8 x.k, .string ⟨x.t.toArray⟩, .int .i64 x.a, .int .i64 x.b], .int .i64 0]).run Try.prog W = .ok (.round l fn tmps assign body) W ∧
        RoundIn Fence.wide 0 Try.prog l fn tmps assign body W fun e W' => e = .returned (.bool true) ∧ X (acc ++ [x]) W' ∧ Blk W' g 29 cs)
    (hE : ∀ (acc : List Tk) (n : Nat) (W : World), X acc W → n ≤ 1000000 →
      ∃ fn tmps assign body, (Instr.yield l #[.agg #[.int .i8 0, .string ⟨#[]⟩, .int .i64 n, .int .i64 0], .int .i64 20]).run Try.prog W = .ok (.round l fn tmps assign body) W ∧
        RoundIn Fence.wide 0 Try.prog l fn tmps assign body W fun e W' => e = .returned (.bool false) ∧ Z acc n W')
    (w : World) (hx0 : X [] w) :
    Calls Try.prog 28 #[.func (.yield l) #[] #[], .pointer (some ⟨b1, 0, none⟩)] w fun e W' => e = .returned (.tuple #[]) ∧ ∃ ts err, Lexes (byts s) 0 ts err ∧ (match err with | none => X ts W' | some n => Z ts n W') := by
  have HX := Lib.hid hX
  have HXb := Lib.hid hXb
  have HY := Lib.hid hY
  have HE := Lib.hid hE
  have Hx0 := Lib.hid hx0
  clear hX hXb hY hE hx0
  go_enter Try.func28, Try.ntmps28
  go_wp2
  go_loopw [3] (fun i wr => ∃ (p : Nat) (acc : List Tk), p ≤ s.size ∧ i = .int .i64 p ∧ acc.length ≤ p ∧ X acc wr ∧ ∀ ts e, Lexes (byts s) p ts e → Lexes (byts s) 0 (acc ++ ts) e) (fun i _ => (s.size - intOf i).toNat)
  case atStart => exact ⟨0, [], Nat.zero_le _, rfl, Nat.le_refl _, Hx0.out, fun ts e h => h⟩
  case round =>
    obtain ⟨p, acc, hp, rfl, hal, hx, hL⟩ := hrel
    have Hx := Lib.hid hx
    have HL := Lib.hid hL
    have c0 := (HXb.out _ _ hx).cell 0
    simp only [List.getElem?_toArray, List.getElem?_cons_zero] at c0
    have hst := startI_nat s p hp
    have hnl := startI_le s p
    rw [hst] at hnl
    clear hx hL
    have hpn : p ≤ startL (byts s) p := by unfold startL; omega
    generalize hn : startL (byts s) p = n at *
    have Hn := Lib.hid hn
    have Hst := Lib.hid hst
    clear hn hst
    by_cases hd : (byts s).drop n = []
    · have Hd := Lib.hid hd
      clear hd
      go_wp2_with (go_at_call 10; refine (next_eof s _ _ hs n Hst.out Hd.out).mono ?_; rintro e w1 ⟨rfl, hb1⟩; have Hb1 := Lib.hid hb1; clear hb1)
      refine bodyPost_ret (v := .tuple #[]) (by simp [results, Try.results28, go_sem]) rfl ⟨rfl, acc, none, ?_, HX.out _ _ _ (HX.out _ _ _ Hx.out Hb1.out) ((Below.refl _ w1).alloc (Nat.le_refl _) _)⟩
      have := HL.out [] none (.done (by rw [Hn.out]; exact Hd.out))
      rwa [List.append_nil] at this
    · have Hd := Lib.hid hd
      clear hd
      cases ht : tok ((byts s).drop n) with
      | none =>
        have Ht := Lib.hid ht
        clear ht
        go_upto_region 2 with (go_at_call 10; refine (next_bad s _ _ hs n Hst.out Hd.out Ht.out).mono ?_; rintro e w1 ⟨rfl, hb1⟩; have Hb1 := Lib.hid hb1; clear hb1)
        have hx2 := HX.out _ _ _ (HX.out _ _ _ Hx.out Hb1.out) ((Below.refl _ w1).alloc (Nat.le_refl _) (.cells #[.int .i8 0, .string ⟨#[]⟩, .int .i64 n, .int .i64 0] 29))
        have hbt : Blk (w1.alloc (.cells #[.int .i8 0, .string ⟨#[]⟩, .int .i64 n, .int .i64 0] 29)) w1.heap.size 29 #[.int .i8 0, .string ⟨#[]⟩, .int .i64 n, .int .i64 0] := Blk.new _ _ _
        obtain ⟨⟨t0, t1, t2, t3⟩, -⟩ := cells4 hbt
        clear hbt c0 Hx Hb1
        generalize w1.alloc (.cells #[.int .i8 0, .string ⟨#[]⟩, .int .i64 n, .int .i64 0] 29) = W4 at *
        obtain ⟨fn, tmps, assign, body, hyield, hround⟩ := HE.out acc n W4 hx2 (by omega)
        clear hx2
        generalize w1.heap.size = gt at *
        refine (wpIn_wide (n := 1)).1 ?_
        gi_wp2
        refine hround.mono ?_
        rintro e W5 ⟨rfl, hz5⟩
        have Hz5 := Lib.hid hz5
        clear hz5
        gi_wp2
        go_wp2
        refine bodyPost_ret (v := .tuple #[]) (by simp [results, Try.results28, go_sem]) rfl ⟨rfl, acc, some n, ?_, Hz5.out⟩
        have := HL.out [] (some (startL (byts s) p)) (.bad (by rw [Hn.out]; exact Hd.out) (by rw [Hn.out]; exact Ht.out))
        rwa [List.append_nil, Hn.out] at this
      | some r =>
        have hrl := tok_len ht
        have Ht := Lib.hid ht
        clear ht
        go_upto_region 2 with (go_at_call 10; refine (next_tok s _ _ hs n Hst.out r Ht.out).mono ?_; rintro e w1 ⟨rfl, hb1⟩; have Hb1 := Lib.hid hb1; clear hb1)
        have hx1 := HX.out _ _ _ Hx.out Hb1.out
        have hbt : Blk (w1.alloc (.cells #[.int .i8 r.k, .string ⟨r.t.toArray⟩, .int .i64 n, .int .i64 (n + r.n)] 29)) w1.heap.size 29 #[.int .i8 r.k, .string ⟨r.t.toArray⟩, .int .i64 n, .int .i64 (n + r.n)] := Blk.new _ _ _
        obtain ⟨⟨t0, t1, t2, t3⟩, -⟩ := cells4 hbt
        have hbel : Below w1.heap.size w1 (w1.alloc (.cells #[.int .i8 r.k, .string ⟨r.t.toArray⟩, .int .i64 n, .int .i64 (n + r.n)] 29)) := (Below.refl _ w1).alloc (Nat.le_refl _) _
        rw [List.length_drop, byts_len] at hrl
        clear c0 Hx Hb1
        generalize w1.alloc (.cells #[.int .i8 r.k, .string ⟨r.t.toArray⟩, .int .i64 n, .int .i64 (n + r.n)] 29) = W4 at *
        obtain ⟨fn, tmps, assign, body, hyield, hround⟩ := HY.out acc ⟨r.k, r.t, n, n + r.n⟩ w1 W4 _ _ hx1 hbel (Nat.le_refl _) hbt (by omega)
        simp only [Int.natCast_add] at hyield
        clear hx1 hbel hbt
        generalize w1.heap.size = gt at *
        refine (wpIn_wide (n := 1)).1 ?_
        gi_wp2
        refine hround.mono ?_
        rintro e W5 ⟨rfl, hx5, hb5⟩
        have Hx5 := Lib.hid hx5
        have t5 := hb5.cell 3
        simp only [List.getElem?_toArray, List.getElem?_cons_zero, List.getElem?_cons_succ] at t5
        clear hx5 hb5 t0 t1 t2 t3
        gi_wp2
        go_wp2
        refine ⟨⟨n + r.n, acc ++ [⟨r.k, r.t, n, n + r.n⟩], by omega, by go_num, by rw [List.length_append, List.length_singleton]; omega, Hx5.out, ?_⟩, by simp only [intOf]; omega⟩
        intro ts e h
        rw [List.append_assoc]
        refine HL.out _ _ ?_
        have := Lexes.one (L := byts s) (p := p) (r := r) (by rw [Hn.out]; exact Ht.out) (by rw [Hn.out]; exact h)
        rwa [Hn.out] at this
end Go.Proofs.Ytpmdgjihgiieoaa

/- Next, whole. -/
import Derived.Test.YtephhendkmhggaaLexJ
import Derived.Test.YtephhendkmhggaaOpen
namespace Go.Proofs.Ytephhendkmhggaa
open Go.RowKit

theorem digit_sign : ∀ m : Fin 256, byN m.val = 4 → signN m.val = true := by decide +kernel
theorem byN_le (m : Nat) : byN m ≤ 6 := by
  unfold byN
  repeat' split
  all_goals omega
theorem next_ok (s : ByteArray) (a : Int) (w : World) (hs : s.size ≤ 1000000) :
    Calls Try.prog 37 #[.string s, .int .i64 a] w fun e w' => NextIs (byts s) (startI s a) e ∧ Below w.heap.size w w' := by
  have hle := startI_le s a
  by_cases hn0 : startI s a = s.size
  · exact (next_end s a w hs hn0).mono fun e w' h => ⟨.inl ⟨byts_end (by omega), h.1⟩, h.2⟩
  obtain ⟨n, hst⟩ : ∃ n, startI s a = n := ⟨_, rfl⟩
  rw [hst] at hn0 hle ⊢
  have hn : n < s.size := by omega
  have hd := byts_drop hn
  have hne : (byts s).drop n ≠ [] := by rw [hd]; simp
  have hx8 := (s[n]'hn).toNat_lt
  have ht : tok ((byts s).drop n) = match byN (s[n]'hn).toNat with
    | 0 => raw 0 [] 1
    | 1 => raw 1 [] 1
    | 2 => tokBar ((byts s).drop (n + 1))
    | 3 => tokKey ((byts s).drop (n + 1))
    | 4 => tokNum ((byts s).drop n)
    | 5 => tokName ((byts s).drop n)
    | _ => none := by rw [hd]; rfl
  have hb := byN_le (s[n]'hn).toNat
  obtain ⟨k, hk⟩ : ∃ k, byN (s[n]'hn).toNat = k := ⟨_, rfl⟩
  rw [hk] at ht hb
  have hsg : k = 4 → signs ((byts s).drop n) ≠ [] := fun h4 => by
    have := digit_sign ⟨(s[n]'hn).toNat, hx8⟩ (hk.trans h4)
    rw [signs_drop hn, if_pos this]
    simp
  have key : ∀ (o : Option Raw), tok ((byts s).drop n) = o → ∀ (e : Ending) (w' : World),
      (((o = none ∧ e = .returned (.tuple #[.agg #[.int .i8 0, .string ⟨#[]⟩, .int .i64 n, .int .i64 0], .bool false, .int .i64 20])) ∨
       (∃ r t, o = some r ∧ byts t = r.t ∧ e = .returned (.tuple #[.agg #[.int .i8 r.k, .string t, .int .i64 n, .int .i64 (n + r.n)], .bool true, .int .i64 0]))) ∧ Below w.heap.size w w') → NextIs (byts s) n e ∧ Below w.heap.size w w' :=
    fun o ho e w' h => ⟨h.1.elim (fun h1 => .inr (.inl ⟨hne, ho.trans h1.1, h1.2⟩)) (fun ⟨r, t, h1, h2, h3⟩ => .inr (.inr ⟨r, t, ho.trans h1, h2, h3⟩)), h.2⟩
  match k, hk, ht, hb, hsg with
  | 0, hk, ht, _, _ => exact (next_open s a w n hs hst hn hk).mono (key _ ht)
  | 1, hk, ht, _, _ => exact (next_close s a w n hs hst hn hk).mono (key _ ht)
  | 2, hk, ht, _, _ => exact (next_bar s a w n hs hst hn hk).mono (key _ ht)
  | 3, hk, ht, _, _ => exact (next_key s a w n hs hst hn hk).mono (key _ ht)
  | 4, hk, ht, _, hsg => exact (next_number s a w n hs hst hn hk (hsg rfl)).mono (key _ ht)
  | 5, hk, ht, _, _ => exact (next_name s a w n hs hst hn hk).mono (key _ ht)
  | 6, hk, ht, _, _ => exact (next_none s a w n hs hst hn hk).mono (key _ ht)
  | k + 7, _, _, hb, _ => omega
end Go.Proofs.Ytephhendkmhggaa

/- The tokens of a text one behind the other; the iterator. -/
namespace Go.Proofs.Ytephhendkmhggaa
open Go.RowKit

/-- A token: kind, text, begin, end. -/
structure Tk where
  k : Nat
  t : List UInt8
  a : Nat
  b : Nat
deriving DecidableEq
def tkCells (x : Tk) : List Value := [.int .i8 x.k, .string ⟨x.t.toArray⟩, .int .i64 x.a, .int .i64 x.b]
theorem tkCells_len (x : Tk) : (tkCells x).length = 4 := rfl

/-- Where the next token begins. -/
def startL (L : List UInt8) (p : Nat) : Nat := p + sk false (L.drop p)

/-- The tokens of a text from a place on; the place of the first bytes that are none, where there are such. -/
inductive Lexes (L : List UInt8) : Nat → List Tk → Option Nat → Prop
  | done {p : Nat} (h : L.drop (startL L p) = []) : Lexes L p [] none
  | bad {p : Nat} (h : L.drop (startL L p) ≠ []) (h2 : tok (L.drop (startL L p)) = none) : Lexes L p [] (some (startL L p))
  | one {p : Nat} {r : Raw} {ts : List Tk} {e : Option Nat} (h : tok (L.drop (startL L p)) = some r) (h2 : Lexes L (startL L p + r.n) ts e) :
      Lexes L p (⟨r.k, r.t, startL L p, startL L p + r.n⟩ :: ts) e

theorem tok_cons (c : UInt8) (r : List UInt8) : tok (c :: r) = match byN c.toNat with
    | 0 => raw 0 [] 1
    | 1 => raw 1 [] 1
    | 2 => tokBar r
    | 3 => tokKey r
    | 4 => tokNum (c :: r)
    | 5 => tokName (c :: r)
    | _ => none := rfl
theorem raw_len {k : Nat} {t : List UInt8} {n : Nat} {r : Raw} (h : raw k t n = some r) : r.n = n := by rw [raw_eq h]
theorem tok_len {l : List UInt8} {r : Raw} (h : tok l = some r) : 1 ≤ r.n ∧ r.n ≤ l.length := by
  cases l with
  | nil => cases h
  | cons c m =>
    rw [tok_cons] at h
    have hsg : byN c.toNat = 4 ∨ byN c.toNat = 5 → signN c.toNat = true := by
      have := (by decide +kernel : ∀ x : Fin 256, byN x.val = 4 ∨ byN x.val = 5 → signN x.val = true) ⟨c.toNat, c.toNat_lt⟩
      exact this
    have hcons : signN c.toNat = true → signs (c :: m) = c :: signs m := fun hs => by
      unfold signs
      rw [List.takeWhile_cons, if_pos hs]
    rw [List.length_cons]
    split at h
    · rw [raw_len h]; omega
    · rw [raw_len h]; omega
    · unfold tokBar at h
      split at h
      · rename_i hm
        simp only at h
        split at h
        · rw [raw_len h]
          have : (m.takeWhile fun c => c != 124).length < m.length := by
            rcases Nat.lt_or_ge (m.takeWhile fun c => c != 124).length m.length with h1 | h1
            · exact h1
            · exfalso
              have h2 : m.takeWhile (fun c => c != 124) = m := (List.takeWhile_prefix _).eq_of_length_le h1
              rw [← h2] at hm
              have h3 := List.all_eq_true.1 (List.all_takeWhile (p := fun c : UInt8 => c != 124) (l := m)) _ hm
              simp at h3
          omega
        · cases h
      · cases h
    · rw [tokKey_eq h]
      have := signs_le m
      simp only
      omega
    · rename_i h4
      rw [tokNum_eq h, hcons (hsg (.inl h4))]
      have := signs_le m
      simp
      omega
    · rename_i h5
      unfold tokName at h
      simp only at h
      rw [raw_len h, hcons (hsg (.inr h5))]
      have := signs_le m
      simp
      omega
    · cases h

theorem startI_nat (s : ByteArray) (p : Nat) (h : p ≤ s.size) : startI s p = startL (byts s) p := by
  have : fromI (p : Int) s.size = p := by unfold fromI; omega
  unfold startI startL
  rw [this]

theorem next_eof (s : ByteArray) (a : Int) (w : World) (hs : s.size ≤ 1000000) (n : Nat) (hn : startI s a = n) (h : (byts s).drop n = []) :
    Calls Try.prog 37 #[.string s, .int .i64 a] w fun e w' => e = .returned (.tuple #[.agg #[.int .i8 0, .string ⟨#[]⟩, .int .i64 0, .int .i64 0], .bool false, .int .i64 0]) ∧ Below w.heap.size w w' :=
  (next_ok s a w hs).mono fun e w' ⟨h1, h2⟩ => ⟨(by
    rw [hn] at h1
    rcases h1 with ⟨_, h1⟩ | ⟨h3, _⟩ | ⟨r, t, h3, _⟩
    · exact h1
    · exact absurd h h3
    · rw [h] at h3; cases h3), h2⟩
theorem next_bad (s : ByteArray) (a : Int) (w : World) (hs : s.size ≤ 1000000) (n : Nat) (hn : startI s a = n) (h : (byts s).drop n ≠ []) (ht : tok ((byts s).drop n) = none) :
    Calls Try.prog 37 #[.string s, .int .i64 a] w fun e w' => e = .returned (.tuple #[.agg #[.int .i8 0, .string ⟨#[]⟩, .int .i64 n, .int .i64 0], .bool false, .int .i64 20]) ∧ Below w.heap.size w w' :=
  (next_ok s a w hs).mono fun e w' ⟨h1, h2⟩ => ⟨(by
    rw [hn] at h1
    rcases h1 with ⟨h3, _⟩ | ⟨_, _, h1⟩ | ⟨r, t, h3, _⟩
    · exact absurd h3 h
    · exact h1
    · rw [ht] at h3; cases h3), h2⟩
theorem next_tok (s : ByteArray) (a : Int) (w : World) (hs : s.size ≤ 1000000) (n : Nat) (hn : startI s a = n) (r : Raw) (ht : tok ((byts s).drop n) = some r) :
    Calls Try.prog 37 #[.string s, .int .i64 a] w fun e w' => e = .returned (.tuple #[.agg #[.int .i8 r.k, .string ⟨r.t.toArray⟩, .int .i64 n, .int .i64 (n + r.n)], .bool true, .int .i64 0]) ∧ Below w.heap.size w w' :=
  (next_ok s a w hs).mono fun e w' ⟨h1, h2⟩ => ⟨(by
    rw [hn] at h1
    rcases h1 with ⟨h3, _⟩ | ⟨_, h3, _⟩ | ⟨r', t, h3, h4, h1⟩
    · rw [h3] at ht; cases ht
    · rw [ht] at h3; cases h3
    · rw [ht] at h3
      injection h3 with h3
      subst h3
      rw [h1, ← h4, Lib.mk_data]), h2⟩

end Go.Proofs.Ytephhendkmhggaa

/- What is read of a text, with something ahead or behind. -/
import Derived.Test.YtephhendkmhggaaGlueA
namespace Go.Proofs.Ytephhendkmhggaa
open Go.RowKit

def Rd.shift (n : Nat) : Rd → Rd
  | .ok x q => .ok x (n + q)
  | .err m c => .err (n + m) c
theorem closes_shift (pre b : List UInt8) (p : Nat) : closes (pre ++ b) (pre.length + p) = (closes b p).map (pre.length + ·) := by
  unfold closes
  rw [startL_shift, drop_shift]
  cases tok (b.drop (startL b p)) with
  | none => rfl
  | some r =>
    dsimp only
    split
    · simp [Nat.add_assoc]
    · rfl
theorem rd_shift (pre b : List UInt8) : ∀ f, (∀ p, readF (pre ++ b) f (pre.length + p) = (readF b f p).shift pre.length) ∧ (∀ p acc, listF (pre ++ b) f (pre.length + p) acc = (listF b f p acc).shift pre.length)
  | 0 => ⟨fun p => by simp [readF, Rd.shift], fun p acc => by simp [listF, Rd.shift]⟩
  | f + 1 => by
    obtain ⟨ih1, ih2⟩ := rd_shift pre b f
    refine ⟨fun p => ?_, fun p acc => ?_⟩
    · unfold readF
      rw [startL_shift, drop_shift]
      by_cases he : b.drop (startL b p) = []
      · rw [if_pos he, if_pos he, List.length_append]; rfl
      · rw [if_neg he, if_neg he]
        cases ht : tok (b.drop (startL b p)) with
        | none => rfl
        | some r =>
          dsimp only
          by_cases h1 : r.k = 1
          · rw [if_pos h1, if_pos h1]; rfl
          · rw [if_neg h1, if_neg h1]
            by_cases h0 : r.k = 0
            · rw [if_pos h0, if_pos h0, Nat.add_assoc]
              exact ih2 _ _
            · rw [if_neg h0, if_neg h0, Nat.add_assoc]; rfl
    · unfold listF
      rw [closes_shift]
      cases hc : closes b p with
      | some q => rfl
      | none =>
        dsimp only [Option.map]
        rw [ih1]
        cases hy : readF b f p with
        | err n e => rfl
        | ok y q => exact ih2 q (acc ++ [y])
theorem readP_shift (pre b : List UInt8) (p : Nat) : readP (pre ++ b) (pre.length + p) = (readP b p).shift pre.length := by
  unfold readP
  rw [show 2 * ((pre ++ b).length - (pre.length + p)) + 1 = 2 * (b.length - p) + 1 by rw [List.length_append]; omega]
  exact (rd_shift pre b _).1 p
theorem topP_shift (pre b : List UInt8) (p : Nat) : topP (pre ++ b) (pre.length + p) = (topP b p).shift pre.length := by
  unfold topP
  rw [readP_shift]
  cases readP b p with
  | err n e => rfl
  | ok x q =>
    dsimp only [Rd.shift]
    split <;> rfl
theorem topP_same {L : List UInt8} {p q : Nat} (hp : p ≤ L.length) (hq : q ≤ L.length) (h : startL L p = startL L q) : topP L p = topP L q := by
  rw [← topP_start L p hp, ← topP_start L q hq, h]

theorem next_behind {L : List UInt8} {p : Nat} {r : Raw} (M : List UInt8) (hp : p ≤ L.length) (h : tok (L.drop (startL L p)) = some r) :
    startL (L ++ 10 :: M) p = startL L p ∧ tok ((L ++ 10 :: M).drop (startL L p)) = some r := by
  have hl := tok_len h
  rw [List.length_drop] at hl
  have hle := startL_le L p hp
  have h1 : (L ++ 10 :: M).drop p = L.drop p ++ 10 :: M := by rw [List.drop_append_of_le_length hp]
  have h2 : (L ++ 10 :: M).drop (startL L p) = L.drop (startL L p) ++ 10 :: M := by rw [List.drop_append_of_le_length hle]
  refine ⟨?_, ?_⟩
  · unfold startL
    rw [h1, sk_more]
    rw [List.length_drop]
    unfold startL at hl
    omega
  · rw [h2]
    exact tok_nl h M
theorem rd_tok {L : List UInt8} {f p : Nat} {x : Sx} {q : Nat} (h : readF L f p = .ok x q) : ∃ r, tok (L.drop (startL L p)) = some r ∧ r.k ≠ 1 := by
  cases f with
  | zero => simp [readF] at h
  | succ f =>
    unfold readF at h
    split at h
    · cases h
    · split at h
      · cases h
      · rename_i r hr
        split at h
        · cases h
        · rename_i h1
          exact ⟨r, hr, h1⟩
theorem rd_behind (L M : List UInt8) : ∀ f, (∀ p x q, p ≤ L.length → readF L f p = .ok x q → readF (L ++ 10 :: M) f p = .ok x q) ∧ (∀ p acc x q, p ≤ L.length → listF L f p acc = .ok x q → listF (L ++ 10 :: M) f p acc = .ok x q)
  | 0 => ⟨fun p x q _ h => by simp [readF] at h, fun p acc x q _ h => by simp [listF] at h⟩
  | f + 1 => by
    obtain ⟨ih1, ih2⟩ := rd_behind L M f
    refine ⟨fun p x q hp h => ?_, fun p acc x q hp h => ?_⟩
    · obtain ⟨r, hr, h1⟩ := rd_tok h
      obtain ⟨e1, e2⟩ := next_behind M hp hr
      have hl := tok_len hr
      have := startL_le L p hp
      rw [List.length_drop] at hl
      unfold readF at h ⊢
      rw [e1, e2]
      rw [hr] at h
      have hne : L.drop (startL L p) ≠ [] := fun e => by rw [e] at hr; cases hr
      have hne2 : (L ++ 10 :: M).drop (startL L p) ≠ [] := fun e => by rw [e] at e2; cases e2
      rw [if_neg hne] at h
      rw [if_neg hne2]
      dsimp only at h ⊢
      rw [if_neg h1] at h ⊢
      by_cases h0 : r.k = 0
      · rw [if_pos h0] at h ⊢
        exact ih2 _ _ _ _ (by omega) h
      · rw [if_neg h0] at h ⊢
        exact h
    · unfold listF at h ⊢
      cases hc : closes L p with
      | some q' =>
        rw [hc] at h
        obtain ⟨r, hr, hk, hq', _, _⟩ := closes_some hc hp
        obtain ⟨e1, e2⟩ := next_behind M hp hr
        have : closes (L ++ 10 :: M) p = some q' := by
          unfold closes
          rw [e1, e2]
          dsimp only
          rw [if_pos hk, hq']
        rw [this]
        exact h
      | none =>
        rw [hc] at h
        dsimp only at h
        cases hy : readF L f p with
        | err n e => rw [hy] at h; cases h
        | ok y q' =>
          rw [hy] at h
          dsimp only at h
          obtain ⟨r, hr, h1⟩ := rd_tok hy
          obtain ⟨e1, e2⟩ := next_behind M hp hr
          have : closes (L ++ 10 :: M) p = none := by
            unfold closes
            rw [e1, e2]
            dsimp only
            rw [if_neg h1]
          rw [this]
          dsimp only
          rw [ih1 p y q' hp hy]
          exact ih2 q' _ _ _ ((rd_ok L f).1 p y q' hp hy).2 h
theorem topP_behind {L : List UInt8} {p q : Nat} {x : Sx} (M : List UInt8) (hp : p ≤ L.length) (h : topP L p = .ok x q) : topP (L ++ 10 :: M) p = .ok x q := by
  obtain ⟨_, _, h2, h3⟩ := topP_ok hp h
  have hlen : (L ++ 10 :: M).length = L.length + 1 + M.length := by simp; omega
  have h4 : readP (L ++ 10 :: M) p = .ok x q := by
    unfold readP at h2 ⊢
    rw [(rd_fuel (L ++ 10 :: M) _ (2 * ((L ++ 10 :: M).length - p) + 1)).1 p (by omega) (Nat.le_refl _) (Nat.le_refl _)]
    have h5 := (rd_fuel L (2 * (L.length - p) + 1) (2 * ((L ++ 10 :: M).length - p) + 1)).1 p hp (Nat.le_refl _) (by omega)
    rw [h5] at h2
    exact (rd_behind L M _).1 p x q hp h2
  unfold topP
  rw [h4]
  dsimp only
  rw [if_neg (by omega)]
theorem topP_begin {L : List UInt8} {p q : Nat} {x : Sx} (hp : p ≤ L.length) (h : topP L p = .ok x q) : startL L p < q := by
  have h1 := startL_le L p hp
  rw [← topP_start L p hp] at h
  exact (topP_ok h1 h).1
end Go.Proofs.Ytephhendkmhggaa

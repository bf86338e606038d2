/- What the laws share: clauses that are not great; a row of steps in parts. -/
import Derived.Test.YthnakfdiikidaaaRupO
namespace Go.Proofs.Ythnakfdiikidaaa
open Go.RowKit Go.Lib

/-- Clauses that came in and are not great. -/
structure TameG (w : World) (A : Option Addr) (c : Nat) (R : List (Option Addr × Nat × List Int)) : Prop where
  grid : Grid w A R
  nil : A = none → c = 0
  cap : R.length ≤ c
  r80 : R.length ≤ 80
  each : ∀ r ∈ R, r.2.2.length ≤ 20 ∧ ∀ x ∈ r.2.2, x ≤ 4096
theorem tameG {w : World} {a : Option Addr} {len cap : Nat} {A : Nat → Option Addr} {L C : Nat → Nat} {Z : Nat → List Int} (h : IsGrid w a len cap A L C Z) (hn : len ≤ 80 ∧ ∀ r, r < len → L r ≤ 20 ∧ ∀ c, c < L r → (Z r).getD c 0 ≤ 4096) :
    ∃ R, R.length = len ∧ TameG w a cap R := by
  obtain ⟨hl, hg⟩ := h.grid (by omega) (fun r hr => by have := (hn.2 r hr).1; omega)
  refine ⟨gridRows len A L C Z, hl, ⟨hg, ?_, ?_, by omega, ?_⟩⟩
  · intro ha
    rcases h with ⟨_, _, h2⟩ | ⟨x, h0, _⟩
    · exact h2
    · rw [ha] at h0; cases h0
  · rw [hl]
    rcases h with ⟨_, h1, h2⟩ | ⟨x, h0, h1, _⟩
    · omega
    · exact h1
  · intro r hr
    obtain ⟨k, hk, rfl⟩ := grid_mem hr
    have := hn.2 k hk
    exact ⟨by rw [List.length_take]; omega, take_le this.2⟩
theorem TameG.max {w : World} {A : Option Addr} {c : Nat} {R : List (Option Addr × Nat × List Int)} (h : TameG w A c R) : ∀ r ∈ R, ∀ x ∈ r.2.2, x ≤ 9223372036854775807 := fun r hr x hx => by have := (h.each r hr).2 x hx; omega
theorem TameG.short {w : World} {A : Option Addr} {c : Nat} {R : List (Option Addr × Nat × List Int)} (h : TameG w A c R) : ∀ r ∈ R, r.2.2.length ≤ 1000 := fun r hr => by have := (h.each r hr).1; omega
theorem TameG.below {w w' : World} {A : Option Addr} {c : Nat} {R : List (Option Addr × Nat × List Int)} (h : TameG w A c R) (hb : Below w.heap.size w w') : TameG w' A c R := ⟨h.grid.below hb, h.nil, h.cap, h.r80, h.each⟩

theorem tmod_mod (t : Int) (n : Nat) (hn : 0 < n) : ∃ (q : Int) (k : Nat), t.tmod n = q ∧ -(n : Int) < q ∧ q < n ∧ (q + n).tmod n = k ∧ k < n := by
  have hn0 : (n : Int) ≠ 0 := by omega
  have h1 := Int.tmod_lt_of_pos t (show (0 : Int) < n by omega)
  have h2 : -(n : Int) < t.tmod n := by
    have := Int.tmod_lt_of_pos (-t) (show (0 : Int) < n by omega)
    rw [Int.neg_tmod] at this
    omega
  have h3 := Int.tmod_nonneg (n : Int) (show 0 ≤ t.tmod n + n by omega)
  have h4 := Int.tmod_lt_of_pos (t.tmod n + n) (show (0 : Int) < n by omega)
  exact ⟨t.tmod n, ((t.tmod n + n).tmod n).toNat, rfl, h2, h1, by omega, by omega⟩

/-- The first step that does not follow: among the first k, none, or behind them. -/
theorem row_split (l s : List (List Int)) (k : Nat) (hk : k ≤ s.length) :
    (0 ≤ rowM l s 0 ∧ rowM l s 0 < k ∧ rowM l (s.take k) 0 = rowM l s 0) ∨
    (rowM l s 0 = -1 ∧ rowM l (s.take k) 0 = -1 ∧ rowM (l ++ s.take k) (s.drop k) 0 = -1) ∨
    ((k : Int) ≤ rowM l s 0 ∧ rowM l s 0 < s.length ∧ rowM l (s.take k) 0 = -1 ∧ rowM (l ++ s.take k) (s.drop k) 0 = rowM l s 0 - k) := by
  have hp := row_parts l (s.take k) (s.drop k) 0 (Int.le_refl _)
  rw [List.take_append_drop, Int.zero_add] at hp
  have hl : (s.take k).length = k := by rw [List.length_take]; omega
  rw [hl] at hp
  have i1 := row_index l (s.take k) 0 (Int.le_refl _)
  have i2 := row_index (l ++ s.take k) (s.drop k) 0 (Int.le_refl _)
  have i3 := row_index l s 0 (Int.le_refl _)
  have hs := row_shift (l ++ s.take k) (s.drop k) k (by omega)
  rw [hl] at i1
  generalize rowM l s 0 = at_ at *
  generalize rowM l (s.take k) 0 = first at *
  rw [hs] at hp
  generalize rowM (l ++ s.take k) (s.drop k) 0 = rest at *
  clear hs
  by_cases h1 : first = -1
  · rw [if_pos h1] at hp
    by_cases h2 : rest = -1
    · rw [if_pos h2] at hp
      exact .inr (.inl ⟨hp, h1, h2⟩)
    · rw [if_neg h2] at hp
      refine .inr (.inr ⟨by omega, by omega, h1, by omega⟩)
  · rw [if_neg h1] at hp
    exact .inl ⟨by omega, by omega, hp.symm⟩
theorem rows_take (R : List (Option Addr × Nat × List Int)) (k : Nat) : rowsOf (R.take k) = (rowsOf R).take k := by unfold rowsOf; rw [List.map_take]
theorem rows_drop (R : List (Option Addr × Nat × List Int)) (k : Nat) : rowsOf (R.drop k) = (rowsOf R).drop k := by unfold rowsOf; rw [List.map_drop]
theorem rows_append (R S : List (Option Addr × Nat × List Int)) : rowsOf (R ++ S) = rowsOf R ++ rowsOf S := by unfold rowsOf; rw [List.map_append]
/-- The others of a grid, as a slice expression leaves them. -/
theorem Grid.drop {w : World} {A : Option Addr} {rows : List (Option Addr × Nat × List Int)} (h : Grid w A rows) {k : Nat} (hk : k < rows.length) : ∃ b off, A = some ⟨b, off, none⟩ ∧ Grid w (some ⟨b, off + k, none⟩) (rows.drop k) := by
  obtain ⟨b, off, h1, h2, h3⟩ := h.at_.resolve_left (by omega)
  refine ⟨b, off, h1, ⟨by rw [List.length_drop]; have := h.len; omega, .inr ⟨b, off + k, rfl, h2, fun i hi => ?_⟩⟩⟩
  rw [List.length_drop] at hi
  simp only [List.getElem_drop]
  have := h3 (k + i) (by omega)
  rw [show off + k + i = off + (k + i) by omega]
  exact this
theorem slice_lo (A : Option Addr) (n c k : Nat) (hk : k ≤ n) (W : World) : (Instr.sliceAt 22 (.slice A n c) (some (.int .i64 (k : Int))) none none).run Try.prog W = .ok (.slice (if c = k then A else A.map (·.add k)) (n - k) (c - k)) W := by
  have t1 : (0 : Int) ≤ (k : Int) := by omega
  have t2 : (k : Int) ≤ (n : Int) := by omega
  simp [go_sem, t1, t2]
theorem slice_drop {A : Option Addr} {S : List (Option Addr × Nat × List Int)} {c k : Nat} (hk : k ≤ S.length) (hc : S.length ≤ c) : ∃ SB, (∀ W, (Instr.sliceAt 22 (.slice A S.length c) (some (.int .i64 (k : Int))) none none).run Try.prog W = .ok (.slice SB (S.length - k) (c - k)) W) ∧ ∀ W, Grid W A S → Grid W SB (S.drop k) := by
  refine ⟨_, slice_lo A S.length c k hk, fun W h => ?_⟩
  rcases Nat.lt_or_ge k S.length with h1 | h1
  · obtain ⟨b, off, rfl, hg⟩ := h.drop h1
    rw [if_neg (by omega)]
    have : (⟨b, off, none⟩ : Addr).add k = ⟨b, off + k, none⟩ := by unfold Addr.add; split <;> simp_all
    simp only [Option.map_some, this]
    exact hg
  · rw [List.drop_of_length_le h1]
    exact ⟨by simp, .inl rfl⟩
end Go.Proofs.Ythnakfdiikidaaa

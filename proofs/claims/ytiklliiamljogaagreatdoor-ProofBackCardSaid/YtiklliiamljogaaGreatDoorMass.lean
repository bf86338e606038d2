/- What is read of a text, with something ahead or behind. -/
import Derived.Test.YtiklliiamljogaaGreatDoorGlueA
namespace Go.Proofs.YtiklliiamljogaaGreatDoor
open Go.RowKit

def Rd.shift (n : Nat) : Rd → Rd
  | .ok x q => .ok x (n + q)
  | .err m c => .err (n + m) c
theorem closes_shift (pre b : List UInt8) (p : Nat) : closes (pre ++ b) (pre.length + p) = (closes b p).map (pre.length + ·) := by
  unfold closes
  rw [startL_shift, drop_shift]
  cases tok (b.drop (startL b p)) with
  | none => rfl
  | some r =>
    dsimp only
    split
    · simp [Nat.add_assoc]
    · rfl
theorem rd_shift (pre b : List UInt8) : ∀ f, (∀ p, readF (pre ++ b) f (pre.length + p) = (readF b f p).shift pre.length) ∧ (∀ p acc, listF (pre ++ b) f (pre.length + p) acc = (listF b f p acc).shift pre.length)
  | 0 => ⟨fun p => by simp [readF, Rd.shift], fun p acc => by simp [listF, Rd.shift]⟩
  | f + 1 => by
    obtain ⟨ih1, ih2⟩ := rd_shift pre b f
    refine ⟨fun p => ?_, fun p acc => ?_⟩
    · unfold readF
      rw [startL_shift, drop_shift]
      by_cases he : b.drop (startL b p) = []
      · rw [if_pos he, if_pos he, List.length_append]; rfl
      · rw [if_neg he, if_neg he]
        cases ht : tok (b.drop (startL b p)) with
        | none => rfl
        | some r =>
          dsimp only
          by_cases h1 : r.k = 1
          · rw [if_pos h1, if_pos h1]; rfl
          · rw [if_neg h1, if_neg h1]
            by_cases h0 : r.k = 0
            · rw [if_pos h0, if_pos h0, Nat.add_assoc]
              exact ih2 _ _
            · rw [if_neg h0, if_neg h0, Nat.add_assoc]; rfl
    · unfold listF
      rw [closes_shift]
      cases hc : closes b p with
      | some q => rfl
      | none =>
        dsimp only [Option.map]
        rw [ih1]
        cases hy : readF b f p with
        | err n e => rfl
        | ok y q => exact ih2 q (acc ++ [y])
theorem readP_shift (pre b : List UInt8) (p : Nat) : readP (pre ++ b) (pre.length + p) = (readP b p).shift pre.length := by
  unfold readP
  rw [show 2 * ((pre ++ b).length - (pre.length + p)) + 1 = 2 * (b.length - p) + 1 by rw [List.length_append]; omega]
  exact (rd_shift pre b _).1 p
theorem topP_shift (pre b : List UInt8) (p : Nat) : topP (pre ++ b) (pre.length + p) = (topP b p).shift pre.length := by
  unfold topP
  rw [readP_shift]
  cases readP b p with
  | err n e => rfl
  | ok x q =>
    dsimp only [Rd.shift]
    split <;> rfl
theorem topP_same {L : List UInt8} {p q : Nat} (hp : p ≤ L.length) (hq : q ≤ L.length) (h : startL L p = startL L q) : topP L p = topP L q := by
  rw [← topP_start L p hp, ← topP_start L q hq, h]

theorem next_behind {L : List UInt8} {p : Nat} {r : Raw} (M : List UInt8) (hp : p ≤ L.length) (h : tok (L.drop (startL L p)) = some r) :
    startL (L ++ 10 :: M) p = startL L p ∧ tok ((L ++ 10 :: M).drop (startL L p)) = some r := by
  have hl := tok_len h
  rw [List.length_drop] at hl
  have hle := startL_le L p hp
  have h1 : (L ++ 10 :: M).drop p = L.drop p ++ 10 :: M := by rw [List.drop_append_of_le_length hp]
  have h2 : (L ++ 10 :: M).drop (startL L p) = L.drop (startL L p) ++ 10 :: M := by rw [List.drop_append_of_le_length hle]
  refine ⟨?_, ?_⟩
  · unfold startL
    rw [h1, sk_more]
    rw [List.length_drop]
    unfold startL at hl
    omega
  · rw [h2]
    exact tok_nl h M
theorem rd_tok {L : List UInt8} {f p : Nat} {x : Sx} {q : Nat} (h : readF L f p = .ok x q) : ∃ r, tok (L.drop (startL L p)) = some r ∧ r.k ≠ 1 := by
  cases f with
  | zero => simp [readF] at h
  | succ f =>
    unfold readF at h
    split at h
    · cases h
    · split at h
      · cases h
      · rename_i r hr
        split at h
        · cases h
        · rename_i h1
          exact ⟨r, hr, h1⟩
theorem rd_behind (L M : List UInt8) : ∀ f, (∀ p x q, p ≤ L.length → readF L f p = .ok x q → readF (L ++ 10 :: M) f p = .ok x q) ∧ (∀ p acc x q, p ≤ L.length → listF L f p acc = .ok x q → listF (L ++ 10 :: M) f p acc = .ok x q)
  | 0 => ⟨fun p x q _ h => by simp [readF] at h, fun p acc x q _ h => by simp [listF] at h⟩
  | f + 1 => by
    obtain ⟨ih1, ih2⟩ := rd_behind L M f
    refine ⟨fun p x q hp h => ?_, fun p acc x q hp h => ?_⟩
    · obtain ⟨r, hr, h1⟩ := rd_tok h
      obtain ⟨e1, e2⟩ := next_behind M hp hr
      have hl := tok_len hr
      have := startL_le L p hp
      rw [List.length_drop] at hl
      unfold readF at h ⊢
      rw [e1, e2]
      rw [hr] at h
      have hne : L.drop (startL L p) ≠ [] := fun e => by rw [e] at hr; cases hr
      have hne2 : (L ++ 10 :: M).drop (startL L p) ≠ [] := fun e => by rw [e] at e2; cases e2
      rw [if_neg hne] at h
      rw [if_neg hne2]
      dsimp only at h ⊢
      rw [if_neg h1] at h ⊢
      by_cases h0 : r.k = 0
      · rw [if_pos h0] at h ⊢
        exact ih2 _ _ _ _ (by omega) h
      · rw [if_neg h0] at h ⊢
        exact h
    · unfold listF at h ⊢
      cases hc : closes L p with
      | some q' =>
        rw [hc] at h
        obtain ⟨r, hr, hk, hq', _, _⟩ := closes_some hc hp
        obtain ⟨e1, e2⟩ := next_behind M hp hr
        have : closes (L ++ 10 :: M) p = some q' := by
          unfold closes
          rw [e1, e2]
          dsimp only
          rw [if_pos hk, hq']
        rw [this]
        exact h
      | none =>
        rw [hc] at h
        dsimp only at h
        cases hy : readF L f p with
        | err n e => rw [hy] at h; cases h
        | ok y q' =>
          rw [hy] at h
          dsimp only at h
          obtain ⟨r, hr, h1⟩ := rd_tok hy
          obtain ⟨e1, e2⟩ := next_behind M hp hr
          have : closes (L ++ 10 :: M) p = none := by
            unfold closes
            rw [e1, e2]
            dsimp only
            rw [if_neg h1]
          rw [this]
          dsimp only
          rw [ih1 p y q' hp hy]
          exact ih2 q' _ _ _ ((rd_ok L f).1 p y q' hp hy).2 h
theorem topP_behind {L : List UInt8} {p q : Nat} {x : Sx} (M : List UInt8) (hp : p ≤ L.length) (h : topP L p = .ok x q) : topP (L ++ 10 :: M) p = .ok x q := by
  obtain ⟨_, _, h2, h3⟩ := topP_ok hp h
  have hlen : (L ++ 10 :: M).length = L.length + 1 + M.length := by simp; omega
  have h4 : readP (L ++ 10 :: M) p = .ok x q := by
    unfold readP at h2 ⊢
    rw [(rd_fuel (L ++ 10 :: M) _ (2 * ((L ++ 10 :: M).length - p) + 1)).1 p (by omega) (Nat.le_refl _) (Nat.le_refl _)]
    have h5 := (rd_fuel L (2 * (L.length - p) + 1) (2 * ((L ++ 10 :: M).length - p) + 1)).1 p hp (Nat.le_refl _) (by omega)
    rw [h5] at h2
    exact (rd_behind L M _).1 p x q hp h2
  unfold topP
  rw [h4]
  dsimp only
  rw [if_neg (by omega)]
theorem topP_begin {L : List UInt8} {p q : Nat} {x : Sx} (hp : p ≤ L.length) (h : topP L p = .ok x q) : startL L p < q := by
  have h1 := startL_le L p hp
  rw [← topP_start L p hp] at h
  exact (topP_ok h1 h).1
end Go.Proofs.YtiklliiamljogaaGreatDoor

/- All of two texts put together. -/
namespace Go.Proofs.YtiklliiamljogaaGreatDoor
open Go.RowKit

theorem allF_acc (L : List UInt8) : ∀ (f p : Nat) (acc : List Sx), allF L f p acc = (acc ++ (allF L f p []).1, (allF L f p []).2)
  | 0, p, acc => by unfold allF; simp
  | f + 1, p, acc => by
    unfold allF
    by_cases h : startL L p = L.length
    · rw [if_pos h, if_pos h]; simp
    · rw [if_neg h, if_neg h]
      cases ht : topP L p with
      | err n c => simp
      | ok x n =>
        dsimp only
        rw [allF_acc L f n (acc ++ [x]), allF_acc L f n ([] ++ [x])]
        simp
theorem allF_fuel (L : List UInt8) : ∀ (f g p : Nat) (acc : List Sx), p ≤ L.length → L.length + 1 ≤ f + p → L.length + 1 ≤ g + p → allF L f p acc = allF L g p acc
  | 0, _, p, _, hp, hf, _ => by omega
  | _ + 1, 0, p, _, hp, _, hg => by omega
  | f + 1, g + 1, p, acc, hp, hf, hg => by
    unfold allF
    by_cases h : startL L p = L.length
    · rw [if_pos h, if_pos h]
    · rw [if_neg h, if_neg h]
      cases ht : topP L p with
      | err n c => rfl
      | ok x n =>
        obtain ⟨h1, h2, _⟩ := topP_ok hp ht
        exact allF_fuel L f g n _ h2 (by omega) (by omega)
theorem allF_same {L : List UInt8} {p q : Nat} (f : Nat) (acc : List Sx) (hp : p ≤ L.length) (hq : q ≤ L.length) (h : startL L p = startL L q) : allF L (f + 1) p acc = allF L (f + 1) q acc := by
  unfold allF
  rw [h, topP_same hp hq h]
theorem allF_shift (pre b : List UInt8) : ∀ (f p : Nat) (acc : List Sx), allF (pre ++ b) f (pre.length + p) acc = ((allF b f p acc).1, pre.length + (allF b f p acc).2.1, (allF b f p acc).2.2)
  | 0, p, acc => by unfold allF; rfl
  | f + 1, p, acc => by
    unfold allF
    rw [startL_shift, topP_shift, List.length_append]
    by_cases h : startL b p = b.length
    · rw [if_pos h, if_pos (by omega)]
    · rw [if_neg h, if_neg (by omega)]
      cases ht : topP b p with
      | err n c => rfl
      | ok x n => exact allF_shift pre b f n (acc ++ [x])
theorem topP_tok {L : List UInt8} {p q : Nat} {x : Sx} (hp : p ≤ L.length) (h : topP L p = .ok x q) : ∃ r, tok (L.drop (startL L p)) = some r := by
  obtain ⟨_, _, h2, _⟩ := topP_ok hp h
  obtain ⟨r, hr, _⟩ := rd_tok h2
  exact ⟨r, hr⟩
theorem all_glue (L b : List UInt8) : ∀ (f p : Nat), p ≤ L.length → L.length + 1 ≤ f + p → (allF L f p []).2.2 = 0 → ∀ g, L.length + 1 + b.length + 1 ≤ g + p →
    allF (L ++ 10 :: b) g p [] = ((allF L f p []).1 ++ (allM b).1, L.length + 1 + (allM b).2.1, (allM b).2.2)
  | 0, p, hp, hf, _, _, _ => by omega
  | f + 1, p, hp, hf, h0, g, hg => by
    obtain ⟨g, rfl⟩ : ∃ g', g = g' + 1 := ⟨g - 1, by omega⟩
    have hL : L ++ 10 :: b = (L ++ [10]) ++ b := by simp
    have hlen : (L ++ 10 :: b).length = L.length + 1 + b.length := by simp; omega
    by_cases h : startL L p = L.length
    · have e1 : allF L (f + 1) p [] = ([], L.length, 0) := by unfold allF; rw [if_pos h, h]
      rw [e1]
      have hs1 : startL (L ++ 10 :: b) p = L.length + 1 + startL b 0 := by
        unfold startL at h ⊢
        rw [List.drop_append_of_le_length hp, sk_glue false (L.drop p) b (by rw [List.length_drop]; omega), List.length_drop, List.drop_zero]
        omega
      have hs2 : startL (L ++ 10 :: b) (L.length + 1) = L.length + 1 + startL b 0 := by
        have := startL_shift (L ++ [10]) b 0
        rw [← hL] at this
        simpa using this
      rw [allF_same g [] (by omega) (by omega : L.length + 1 ≤ _) (hs1.trans hs2.symm)]
      have h4 := allF_shift (L ++ [10]) b (g + 1) 0 []
      rw [← hL] at h4
      have h5 : (L ++ [10]).length + 0 = L.length + 1 := by simp
      rw [h5, allF_fuel b (g + 1) (b.length + 1) 0 [] (Nat.zero_le _) (by omega) (by omega)] at h4
      rw [h4]
      have h6 : (L ++ [10]).length = L.length + 1 := by simp
      rw [h6]
      rfl
    · cases ht : topP L p with
      | err n c =>
        exfalso
        unfold allF at h0
        rw [if_neg h, ht] at h0
        exact topP_err hp ht h0
      | ok x n =>
        obtain ⟨h1, h2, _⟩ := topP_ok hp ht
        obtain ⟨r, hr⟩ := topP_tok hp ht
        obtain ⟨e1, _⟩ := next_behind b hp hr
        have hle := startL_le L p hp
        have ea : allF L (f + 1) p [] = ([x] ++ (allF L f n []).1, (allF L f n []).2) := by
          conv => lhs; unfold allF
          rw [if_neg h, ht]
          dsimp only
          rw [allF_acc]
          rfl
        rw [ea] at h0 ⊢
        have ih := all_glue L b f n h2 (by omega) h0 g (by omega)
        conv => lhs; unfold allF
        rw [e1, if_neg (by omega), topP_behind b hp ht]
        dsimp only
        rw [allF_acc, ih]
        simp
theorem allM_glue (L b : List UInt8) (h : (allM L).2.2 = 0) : allM (L ++ 10 :: b) = ((allM L).1 ++ (allM b).1, L.length + 1 + (allM b).2.1, (allM b).2.2) := by
  unfold allM at h
  have := all_glue L b (L.length + 1) 0 (Nat.zero_le _) (Nat.le_refl _) h ((L ++ 10 :: b).length + 1) (by simp; omega)
  unfold allM at this ⊢
  exact this
theorem all_end (L : List UInt8) : ∀ (f p : Nat) (acc : List Sx), p ≤ L.length → L.length + 1 ≤ f + p → (allF L f p acc).2.2 = 0 → (allF L f p acc).2.1 = L.length
  | 0, p, _, hp, hf, _ => by omega
  | f + 1, p, acc, hp, hf, h0 => by
    unfold allF at h0 ⊢
    by_cases h : startL L p = L.length
    · rw [if_pos h]; exact h
    · rw [if_neg h] at h0 ⊢
      cases ht : topP L p with
      | err n c =>
        rw [ht] at h0
        exact absurd h0 (topP_err hp ht)
      | ok x n =>
        rw [ht] at h0
        obtain ⟨h1, h2, _⟩ := topP_ok hp ht
        exact all_end L f n _ h2 (by omega) h0
theorem allM_end (L : List UInt8) (h : (allM L).2.2 = 0) : (allM L).2.1 = L.length := all_end L _ 0 [] (Nat.zero_le _) (Nat.le_refl _) h
theorem allM_len (L : List UInt8) : (allM L).1.length ≤ L.length := allF_len L _ 0 [] (Nat.zero_le _) (Nat.zero_le _)
theorem allF_depth (L : List UInt8) : ∀ (f p : Nat) (acc : List Sx), p ≤ L.length → (∀ y ∈ acc, y.depth ≤ 60) → ∀ y ∈ (allF L f p acc).1, y.depth ≤ 60
  | 0, p, acc, _, h, y, hy => by unfold allF at hy; exact h y hy
  | f + 1, p, acc, hp, h, y, hy => by
    unfold allF at hy
    split at hy
    · exact h y hy
    · split at hy
      · rename_i x n ht
        obtain ⟨_, h2, _, h4⟩ := topP_ok hp ht
        refine allF_depth L f n (acc ++ [x]) h2 (fun z hz => ?_) y hy
        rcases List.mem_append.1 hz with hz | hz
        · exact h z hz
        · rw [List.mem_singleton.1 hz]; exact h4
      · exact h y hy
theorem allM_depth (L : List UInt8) : ∀ y ∈ (allM L).1, y.depth ≤ 60 := allF_depth L _ 0 [] (Nat.zero_le _) (fun _ h => nomatch h)
end Go.Proofs.YtiklliiamljogaaGreatDoor

/- How great an expression is in all. -/
namespace Go.Proofs.YtiklliiamljogaaGreatDoor
open Go.RowKit

mutual
def Sx.mass : Sx → Nat
  | .mk _ t l => 1 + t.length + Sx.masses l
def Sx.masses : List Sx → Nat
  | [] => 0
  | x :: r => x.mass + Sx.masses r
end
mutual
theorem depth_mass : ∀ x : Sx, x.depth ≤ x.mass
  | .mk k t l => by have := depths_mass l; rw [Sx.depth, Sx.mass]; split <;> omega
theorem depths_mass : ∀ l : List Sx, Sx.depths l ≤ Sx.masses l
  | [] => by rw [Sx.depths, Sx.masses]; exact Nat.le_refl _
  | x :: r => by have := depth_mass x; have := depths_mass r; rw [Sx.depths, Sx.masses]; omega
end
mutual
theorem fits_mass : ∀ x : Sx, x.mass ≤ 1000000 → x.fits
  | .mk k t l => by rw [Sx.fits, Sx.mass]; exact fun h => ⟨by omega, fitss_mass l (by omega)⟩
theorem fitss_mass : ∀ l : List Sx, Sx.masses l ≤ 1000000 → Sx.fitss l
  | [] => by rw [Sx.fitss]; exact fun _ => trivial
  | x :: r => by rw [Sx.fitss, Sx.masses]; exact fun h => ⟨fits_mass x (by omega), fitss_mass r (by omega)⟩
end
theorem quoteL_len (t : List UInt8) : (quoteL t).length ≤ t.length + 2 := by unfold quoteL; split <;> simp
mutual
theorem print_mass : ∀ x : Sx, x.print.length + 1 ≤ 4 * x.mass
  | .mk k t l => by
    have h1 := prints_mass l
    have h2 := quoteL_len t
    rw [Sx.print, Sx.mass]
    split
    · omega
    · split
      · rw [List.length_cons]; omega
      · split
        · rw [List.length_cons, List.length_append, List.length_singleton]; omega
        · omega
theorem prints_mass : ∀ l : List Sx, (Sx.prints l).length ≤ 4 * Sx.masses l
  | [] => by rw [Sx.prints]; exact Nat.zero_le _
  | x :: r => by
    have h1 := print_mass x
    have h2 := tails_mass r
    rw [Sx.prints, Sx.masses, List.length_append]
    omega
theorem tails_mass : ∀ l : List Sx, (Sx.tails l).length ≤ 4 * Sx.masses l
  | [] => by rw [Sx.tails]; exact Nat.zero_le _
  | x :: r => by
    have h1 := print_mass x
    have h2 := tails_mass r
    rw [Sx.tails, Sx.masses, List.length_cons, List.length_append]
    omega
end
end Go.Proofs.YtiklliiamljogaaGreatDoor

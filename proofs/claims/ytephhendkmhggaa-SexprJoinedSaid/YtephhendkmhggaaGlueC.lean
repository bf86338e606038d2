/- All of two texts put together. -/
import Derived.Test.YtephhendkmhggaaGlueB
namespace Go.Proofs.Ytephhendkmhggaa
open Go.RowKit

theorem allF_acc (L : List UInt8) : ∀ (f p : Nat) (acc : List Sx), allF L f p acc = (acc ++ (allF L f p []).1, (allF L f p []).2)
  | 0, p, acc => by unfold allF; simp
  | f + 1, p, acc => by
    unfold allF
    by_cases h : startL L p = L.length
    · rw [if_pos h, if_pos h]; simp
    · rw [if_neg h, if_neg h]
      cases ht : topP L p with
      | err n c => simp
      | ok x n =>
        dsimp only
        rw [allF_acc L f n (acc ++ [x]), allF_acc L f n ([] ++ [x])]
        simp
theorem allF_fuel (L : List UInt8) : ∀ (f g p : Nat) (acc : List Sx), p ≤ L.length → L.length + 1 ≤ f + p → L.length + 1 ≤ g + p → allF L f p acc = allF L g p acc
  | 0, _, p, _, hp, hf, _ => by omega
  | _ + 1, 0, p, _, hp, _, hg => by omega
  | f + 1, g + 1, p, acc, hp, hf, hg => by
    unfold allF
    by_cases h : startL L p = L.length
    · rw [if_pos h, if_pos h]
    · rw [if_neg h, if_neg h]
      cases ht : topP L p with
      | err n c => rfl
      | ok x n =>
        obtain ⟨h1, h2, _⟩ := topP_ok hp ht
        exact allF_fuel L f g n _ h2 (by omega) (by omega)
theorem allF_same {L : List UInt8} {p q : Nat} (f : Nat) (acc : List Sx) (hp : p ≤ L.length) (hq : q ≤ L.length) (h : startL L p = startL L q) : allF L (f + 1) p acc = allF L (f + 1) q acc := by
  unfold allF
  rw [h, topP_same hp hq h]
theorem allF_shift (pre b : List UInt8) : ∀ (f p : Nat) (acc : List Sx), allF (pre ++ b) f (pre.length + p) acc = ((allF b f p acc).1, pre.length + (allF b f p acc).2.1, (allF b f p acc).2.2)
  | 0, p, acc => by unfold allF; rfl
  | f + 1, p, acc => by
    unfold allF
    rw [startL_shift, topP_shift, List.length_append]
    by_cases h : startL b p = b.length
    · rw [if_pos h, if_pos (by omega)]
    · rw [if_neg h, if_neg (by omega)]
      cases ht : topP b p with
      | err n c => rfl
      | ok x n => exact allF_shift pre b f n (acc ++ [x])
theorem topP_tok {L : List UInt8} {p q : Nat} {x : Sx} (hp : p ≤ L.length) (h : topP L p = .ok x q) : ∃ r, tok (L.drop (startL L p)) = some r := by
  obtain ⟨_, _, h2, _⟩ := topP_ok hp h
  obtain ⟨r, hr, _⟩ := rd_tok h2
  exact ⟨r, hr⟩
theorem all_glue (L b : List UInt8) : ∀ (f p : Nat), p ≤ L.length → L.length + 1 ≤ f + p → (allF L f p []).2.2 = 0 → ∀ g, L.length + 1 + b.length + 1 ≤ g + p →
    allF (L ++ 10 :: b) g p [] = ((allF L f p []).1 ++ (allM b).1, L.length + 1 + (allM b).2.1, (allM b).2.2)
  | 0, p, hp, hf, _, _, _ => by omega
  | f + 1, p, hp, hf, h0, g, hg => by
    obtain ⟨g, rfl⟩ : ∃ g', g = g' + 1 := ⟨g - 1, by omega⟩
    have hL : L ++ 10 :: b = (L ++ [10]) ++ b := by simp
    have hlen : (L ++ 10 :: b).length = L.length + 1 + b.length := by simp; omega
    by_cases h : startL L p = L.length
    · have e1 : allF L (f + 1) p [] = ([], L.length, 0) := by unfold allF; rw [if_pos h, h]
      rw [e1]
      have hs1 : startL (L ++ 10 :: b) p = L.length + 1 + startL b 0 := by
        unfold startL at h ⊢
        rw [List.drop_append_of_le_length hp, sk_glue false (L.drop p) b (by rw [List.length_drop]; omega), List.length_drop, List.drop_zero]
        omega
      have hs2 : startL (L ++ 10 :: b) (L.length + 1) = L.length + 1 + startL b 0 := by
        have := startL_shift (L ++ [10]) b 0
        rw [← hL] at this
        simpa using this
      rw [allF_same g [] (by omega) (by omega : L.length + 1 ≤ _) (hs1.trans hs2.symm)]
      have h4 := allF_shift (L ++ [10]) b (g + 1) 0 []
      rw [← hL] at h4
      have h5 : (L ++ [10]).length + 0 = L.length + 1 := by simp
      rw [h5, allF_fuel b (g + 1) (b.length + 1) 0 [] (Nat.zero_le _) (by omega) (by omega)] at h4
      rw [h4]
      have h6 : (L ++ [10]).length = L.length + 1 := by simp
      rw [h6]
      rfl
    · cases ht : topP L p with
      | err n c =>
        exfalso
        unfold allF at h0
        rw [if_neg h, ht] at h0
        exact topP_err hp ht h0
      | ok x n =>
        obtain ⟨h1, h2, _⟩ := topP_ok hp ht
        obtain ⟨r, hr⟩ := topP_tok hp ht
        obtain ⟨e1, _⟩ := next_behind b hp hr
        have hle := startL_le L p hp
        have ea : allF L (f + 1) p [] = ([x] ++ (allF L f n []).1, (allF L f n []).2) := by
          conv => lhs; unfold allF
          rw [if_neg h, ht]
          dsimp only
          rw [allF_acc]
          rfl
        rw [ea] at h0 ⊢
        have ih := all_glue L b f n h2 (by omega) h0 g (by omega)
        conv => lhs; unfold allF
        rw [e1, if_neg (by omega), topP_behind b hp ht]
        dsimp only
        rw [allF_acc, ih]
        simp
theorem allM_glue (L b : List UInt8) (h : (allM L).2.2 = 0) : allM (L ++ 10 :: b) = ((allM L).1 ++ (allM b).1, L.length + 1 + (allM b).2.1, (allM b).2.2) := by
  unfold allM at h
  have := all_glue L b (L.length + 1) 0 (Nat.zero_le _) (Nat.le_refl _) h ((L ++ 10 :: b).length + 1) (by simp; omega)
  unfold allM at this ⊢
  exact this
theorem all_end (L : List UInt8) : ∀ (f p : Nat) (acc : List Sx), p ≤ L.length → L.length + 1 ≤ f + p → (allF L f p acc).2.2 = 0 → (allF L f p acc).2.1 = L.length
  | 0, p, _, hp, hf, _ => by omega
  | f + 1, p, acc, hp, hf, h0 => by
    unfold allF at h0 ⊢
    by_cases h : startL L p = L.length
    · rw [if_pos h]; exact h
    · rw [if_neg h] at h0 ⊢
      cases ht : topP L p with
      | err n c =>
        rw [ht] at h0
        exact absurd h0 (topP_err hp ht)
      | ok x n =>
        rw [ht] at h0
        obtain ⟨h1, h2, _⟩ := topP_ok hp ht
        exact all_end L f n _ h2 (by omega) h0
theorem allM_end (L : List UInt8) (h : (allM L).2.2 = 0) : (allM L).2.1 = L.length := all_end L _ 0 [] (Nat.zero_le _) (Nat.le_refl _) h
theorem allM_len (L : List UInt8) : (allM L).1.length ≤ L.length := allF_len L _ 0 [] (Nat.zero_le _) (Nat.zero_le _)
theorem allF_depth (L : List UInt8) : ∀ (f p : Nat) (acc : List Sx), p ≤ L.length → (∀ y ∈ acc, y.depth ≤ 60) → ∀ y ∈ (allF L f p acc).1, y.depth ≤ 60
  | 0, p, acc, _, h, y, hy => by unfold allF at hy; exact h y hy
  | f + 1, p, acc, hp, h, y, hy => by
    unfold allF at hy
    split at hy
    · exact h y hy
    · split at hy
      · rename_i x n ht
        obtain ⟨_, h2, _, h4⟩ := topP_ok hp ht
        refine allF_depth L f n (acc ++ [x]) h2 (fun z hz => ?_) y hy
        rcases List.mem_append.1 hz with hz | hz
        · exact h z hz
        · rw [List.mem_singleton.1 hz]; exact h4
      · exact h y hy
theorem allM_depth (L : List UInt8) : ∀ y ∈ (allM L).1, y.depth ≤ 60 := allF_depth L _ 0 [] (Nat.zero_le _) (fun _ h => nomatch h)
end Go.Proofs.Ytephhendkmhggaa

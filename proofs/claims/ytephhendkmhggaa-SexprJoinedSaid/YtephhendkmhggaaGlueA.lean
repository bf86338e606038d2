/- Tokens and what stands about them (the laws of layer 02's XLexO that need no iterator). -/
import Derived.Test.YtephhendkmhggaaReadsA
namespace Go.Proofs.Ytephhendkmhggaa
open Go.RowKit

theorem signs_append {l m : List UInt8} (h : signs m = []) : signs (signs l ++ m) = signs l := by
  have h1 : signs (signs l ++ m) = signs l ++ signs m := by
    unfold signs
    rw [List.takeWhile_append_of_pos]
    intro a ha
    exact List.all_eq_true.1 (List.all_takeWhile (p := fun c : UInt8 => signN c.toNat) (l := l)) a ha
  rw [h1, h, List.append_nil]
theorem signs_rest : ∀ l : List UInt8, signs (l.drop (signs l).length) = []
  | [] => rfl
  | c :: t => by
    unfold signs
    rw [List.takeWhile_cons]
    split
    · rw [List.length_cons, List.drop_succ_cons]
      exact signs_rest t
    · rename_i h
      rw [List.length_nil, List.drop_zero, List.takeWhile_cons, if_neg h]
theorem signs_nl {x : List UInt8} (h : signs x = []) (b : List UInt8) : signs (x ++ 10 :: b) = [] := by
  cases x with
  | nil => rfl
  | cons c t =>
    unfold signs at h ⊢
    rw [List.cons_append, List.takeWhile_cons]
    rw [List.takeWhile_cons] at h
    split
    · rename_i h2; rw [if_pos h2] at h; cases h
    · rfl
theorem raw_of {k : Nat} {t : List UInt8} {n : Nat} (h : t.length ≤ 100) : raw k t n = some ⟨k, t, n⟩ := by unfold raw; rw [if_pos h]
theorem raw_le {k : Nat} {t : List UInt8} {n : Nat} {r : Raw} (h : raw k t n = some r) : t.length ≤ 100 := by
  unfold raw at h
  split at h
  · assumption
  · cases h

theorem tok_first : ∀ x : Fin 256, byN x.val ≤ 5 → whiteN x.val = false ∧ x.val ≠ 59 := by decide +kernel
theorem sign_five : ∀ x : Fin 256, (byN x.val = 4 ∨ byN x.val = 5) → signN x.val = true := by decide +kernel

/-- A token is the same whatever stands behind it, or whatever stands behind it that begins with no sign. -/
theorem tok_pre {l : List UInt8} {r : Raw} (h : tok l = some r) :
    (∀ m, tok (l.take r.n ++ m) = some r) ∨ (signs (l.drop r.n) = [] ∧ ∀ m, signs m = [] → tok (l.take r.n ++ m) = some r) := by
  cases l with
  | nil => cases h
  | cons c t =>
    rw [tok_cons] at h
    have hcons : signN c.toNat = true → signs (c :: t) = c :: signs t := fun hs => by
      unfold signs
      rw [List.takeWhile_cons, if_pos hs]
    split at h
    · rename_i hk
      rw [raw_eq h]
      exact .inl fun m => by
        show tok (c :: m) = _
        rw [tok_cons, hk]; rfl
    · rename_i hk
      rw [raw_eq h]
      exact .inl fun m => by
        show tok (c :: m) = _
        rw [tok_cons, hk]; rfl
    · rename_i hk
      unfold tokBar at h
      split at h
      · rename_i hm
        simp only at h
        split at h
        · rename_i hall
          have hle := raw_le h
          rw [raw_eq h]
          simp only
          obtain ⟨u, v, huv, hu⟩ : ∃ u v, t = u ++ 124 :: v ∧ t.takeWhile (fun c => c != 124) = u := by
            have h1 : t = t.takeWhile (fun c => c != 124) ++ t.dropWhile (fun c => c != 124) := (List.takeWhile_append_dropWhile).symm
            cases hd : t.dropWhile (fun c => c != 124) with
            | nil =>
              exfalso
              rw [hd, List.append_nil] at h1
              rw [h1] at hm
              have := List.all_eq_true.1 (List.all_takeWhile (p := fun c : UInt8 => c != 124) (l := t)) _ hm
              simp at this
            | cons a v =>
              have h2 : ¬ (a != 124) = true := by
                have := List.head_dropWhile_not (fun c : UInt8 => c != 124) (l := t) (by rw [hd]; simp)
                simp only [hd, List.head_cons] at this
                simpa using this
              obtain rfl : a = 124 := by simpa using h2
              exact ⟨_, v, by rw [← hd]; exact h1, rfl⟩
          rw [hu] at hall hle ⊢
          refine .inl fun m => ?_
          have h3 : (c :: t).take (u.length + 2) = c :: (u ++ [124]) := by
            rw [huv, List.take_succ_cons, List.take_append, List.take_of_length_le (by omega)]
            have : u.length + 1 - u.length = 1 := by omega
            rw [this]
            rfl
          rw [h3, List.cons_append, tok_cons, hk]
          show tokBar (u ++ [124] ++ m) = _
          have h4 : (u ++ [124] ++ m).takeWhile (fun c => c != 124) = u := by
            rw [List.append_assoc, List.takeWhile_append_of_pos]
            · simp
            · intro a ha
              rw [← hu] at ha
              exact List.all_eq_true.1 (List.all_takeWhile (p := fun c : UInt8 => c != 124) (l := t)) a ha
          unfold tokBar
          rw [if_pos (by simp)]
          simp only [h4]
          rw [if_pos hall, raw_of hle]
        · cases h
      · cases h
    · rename_i hk
      rw [tokKey_eq h]
      refine .inr ⟨by rw [List.drop_succ_cons]; exact signs_rest t, fun m hm => ?_⟩
      simp only
      rw [List.take_succ_cons, take_signs, List.cons_append, tok_cons, hk]
      show tokKey (signs t ++ m) = _
      have := tokKey_eq h
      unfold tokKey at h ⊢
      simp only [signs_append hm]
      rw [h, this]
    · rename_i hk
      have hs := hcons (sign_five ⟨c.toNat, c.toNat_lt⟩ (.inl hk))
      have he := tokNum_eq h
      rw [he]
      refine .inr ⟨signs_rest _, fun m hm => ?_⟩
      simp only
      rw [take_signs]
      have h5 : signs (signs (c :: t) ++ m) = signs (c :: t) := signs_append hm
      have h6 : signs (c :: t) ++ m = c :: (signs t ++ m) := by rw [hs]; rfl
      have h7 : tok (signs (c :: t) ++ m) = tokNum (signs (c :: t) ++ m) := by rw [h6, tok_cons, hk]; rfl
      rw [h7]
      unfold tokNum at h ⊢
      simp only [h5]
      rw [h, he]
    · rename_i hk
      have hs := hcons (sign_five ⟨c.toNat, c.toNat_lt⟩ (.inr hk))
      have he : r = ⟨2, signs (c :: t), (signs (c :: t)).length⟩ := raw_eq h
      rw [he]
      refine .inr ⟨signs_rest _, fun m hm => ?_⟩
      simp only
      rw [take_signs]
      have h5 : signs (signs (c :: t) ++ m) = signs (c :: t) := signs_append hm
      have h6 : signs (c :: t) ++ m = c :: (signs t ++ m) := by rw [hs]; rfl
      have h7 : tok (signs (c :: t) ++ m) = tokName (signs (c :: t) ++ m) := by rw [h6, tok_cons, hk]; rfl
      rw [h7]
      unfold tokName at h ⊢
      simp only [h5]
      rw [h, he]
    · cases h

theorem tok_take {l : List UInt8} {r : Raw} (h : tok l = some r) : tok (l.take r.n) = some r := by
  rcases tok_pre h with h1 | ⟨_, h1⟩
  · have := h1 []; rwa [List.append_nil] at this
  · have := h1 [] rfl; rwa [List.append_nil] at this
theorem tok_nl {l : List UInt8} {r : Raw} (h : tok l = some r) (b : List UInt8) : tok (l ++ 10 :: b) = some r := by
  have hl := tok_len h
  have he : l ++ 10 :: b = l.take r.n ++ (l.drop r.n ++ 10 :: b) := by rw [← List.append_assoc, List.take_append_drop]
  rw [he]
  rcases tok_pre h with h1 | ⟨h2, h1⟩
  · exact h1 _
  · exact h1 _ (signs_nl h2 b)
theorem tok_sk {l : List UInt8} {r : Raw} (h : tok l = some r) (m : List UInt8) : sk false (l ++ m) = 0 := by
  cases l with
  | nil => cases h
  | cons c t =>
    have hb : byN c.toNat ≤ 5 := by
      have := byN_le c.toNat
      rcases Nat.lt_or_ge (byN c.toNat) 6 with h1 | h1
      · omega
      · have h6 : byN c.toNat = 6 := by omega
        rw [tok_cons, h6] at h
        cases h
    have := tok_first ⟨c.toNat, c.toNat_lt⟩ hb
    rw [List.cons_append, sk_f, if_neg this.2, if_neg (by rw [this.1]; decide)]

theorem startL_shift (pre b : List UInt8) (q : Nat) : startL (pre ++ b) (pre.length + q) = pre.length + startL b q := by
  unfold startL
  rw [List.drop_append, List.drop_of_length_le (by omega), List.nil_append]
  have : pre.length + q - pre.length = q := by omega
  rw [this]
  omega
theorem drop_shift (pre b : List UInt8) (q : Nat) : (pre ++ b).drop (pre.length + q) = b.drop q := by
  rw [List.drop_append, List.drop_of_length_le (by omega), List.nil_append]
  congr 1
  omega
theorem sk_glue : ∀ (c : Bool) (x b : List UInt8), sk c x = x.length → sk c (x ++ 10 :: b) = x.length + 1 + sk false b
  | false, [], b, _ => by
    rw [List.nil_append, sk_f, if_neg (by decide), if_pos (by decide)]
    simp
  | true, [], b, _ => by
    rw [List.nil_append, sk_c, if_pos (by decide)]
    simp
  | false, a :: x, b, h => by
    rw [sk_f, List.length_cons] at h
    rw [List.cons_append, sk_f, List.length_cons]
    split
    · rename_i h1
      rw [if_pos h1] at h
      rw [sk_glue true x b (by omega)]; omega
    · rename_i h1
      rw [if_neg h1] at h
      split
      · rename_i h2
        rw [if_pos h2] at h
        rw [sk_glue false x b (by omega)]; omega
      · rename_i h2
        rw [if_neg h2] at h
        omega
  | true, a :: x, b, h => by
    rw [sk_c, List.length_cons] at h
    rw [List.cons_append, sk_c, List.length_cons]
    split
    · rename_i h1
      rw [if_pos h1] at h
      rw [sk_glue false x b (by omega)]; omega
    · rename_i h1
      rw [if_neg h1] at h
      rw [sk_glue true x b (by omega)]; omega
theorem sk_more : ∀ (c : Bool) (x y : List UInt8), sk c x < x.length → sk c (x ++ y) = sk c x
  | c, [], y, h => by cases h
  | false, a :: x, y, h => by
    rw [sk_f, List.length_cons] at h
    rw [List.cons_append, sk_f, sk_f]
    split
    · rename_i h1
      rw [if_pos h1] at h
      rw [sk_more true x y (by omega)]
    · rename_i h1
      rw [if_neg h1] at h
      split
      · rename_i h2
        rw [if_pos h2] at h
        rw [sk_more false x y (by omega)]
      · rfl
  | true, a :: x, y, h => by
    rw [sk_c, List.length_cons] at h
    rw [List.cons_append, sk_c, sk_c]
    split
    · rename_i h1
      rw [if_pos h1] at h
      rw [sk_more false x y (by omega)]
    · rename_i h1
      rw [if_neg h1] at h
      rw [sk_more true x y (by omega)]
end Go.Proofs.Ytephhendkmhggaa

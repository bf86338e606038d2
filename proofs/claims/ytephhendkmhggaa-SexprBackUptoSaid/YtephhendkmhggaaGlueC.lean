/- Tokens and what stands about them (the laws of layer 02's XLexO that need no iterator). -/
import Derived.Test.YtephhendkmhggaaReadsA
namespace Go.Proofs.Ytephhendkmhggaa
open Go.RowKit

theorem signs_append {l m : List UInt8} (h : signs m = []) : signs (signs l ++ m) = signs l := by
  have h1 : signs (signs l ++ m) = signs l ++ signs m := by
    unfold signs
    rw [List.takeWhile_append_of_pos]
    intro a ha
    exact List.all_eq_true.1 (List.all_takeWhile (p := fun c : UInt8 => signN c.toNat) (l := l)) a ha
  rw [h1, h, List.append_nil]
theorem signs_rest : ∀ l : List UInt8, signs (l.drop (signs l).length) = []
  | [] => rfl
  | c :: t => by
    unfold signs
    rw [List.takeWhile_cons]
    split
    · rw [List.length_cons, List.drop_succ_cons]
      exact signs_rest t
    · rename_i h
      rw [List.length_nil, List.drop_zero, List.takeWhile_cons, if_neg h]
theorem signs_nl {x : List UInt8} (h : signs x = []) (b : List UInt8) : signs (x ++ 10 :: b) = [] := by
  cases x with
  | nil => rfl
  | cons c t =>
    unfold signs at h ⊢
    rw [List.cons_append, List.takeWhile_cons]
    rw [List.takeWhile_cons] at h
    split
    · rename_i h2; rw [if_pos h2] at h; cases h
    · rfl
theorem raw_of {k : Nat} {t : List UInt8} {n : Nat} (h : t.length ≤ 100) : raw k t n = some ⟨k, t, n⟩ := by unfold raw; rw [if_pos h]
theorem raw_le {k : Nat} {t : List UInt8} {n : Nat} {r : Raw} (h : raw k t n = some r) : t.length ≤ 100 := by
  unfold raw at h
  split at h
  · assumption
  · cases h

theorem tok_first : ∀ x : Fin 256, byN x.val ≤ 5 → whiteN x.val = false ∧ x.val ≠ 59 := by decide +kernel
theorem sign_five : ∀ x : Fin 256, (byN x.val = 4 ∨ byN x.val = 5) → signN x.val = true := by decide +kernel

/-- A token is the same whatever stands behind it, or whatever stands behind it that begins with no sign. -/
theorem tok_pre {l : List UInt8} {r : Raw} (h : tok l = some r) :
    (∀ m, tok (l.take r.n ++ m) = some r) ∨ (signs (l.drop r.n) = [] ∧ ∀ m, signs m = [] → tok (l.take r.n ++ m) = some r) := by
  cases l with
  | nil => cases h
  | cons c t =>
    rw [tok_cons] at h
    have hcons : signN c.toNat = true → signs (c :: t) = c :: signs t := fun hs => by
      unfold signs
      rw [List.takeWhile_cons, if_pos hs]
    split at h
    · rename_i hk
      rw [raw_eq h]
      exact .inl fun m => by
        show tok (c :: m) = _
        rw [tok_cons, hk]; rfl
    · rename_i hk
      rw [raw_eq h]
      exact .inl fun m => by
        show tok (c :: m) = _
        rw [tok_cons, hk]; rfl
    · rename_i hk
      unfold tokBar at h
      split at h
      · rename_i hm
        simp only at h
        split at h
        · rename_i hall
          have hle := raw_le h
          rw [raw_eq h]
          simp only
          obtain ⟨u, v, huv, hu⟩ : ∃ u v, t = u ++ 124 :: v ∧ t.takeWhile (fun c => c != 124) = u := by
            have h1 : t = t.takeWhile (fun c => c != 124) ++ t.dropWhile (fun c => c != 124) := (List.takeWhile_append_dropWhile).symm
            cases hd : t.dropWhile (fun c => c != 124) with
            | nil =>
              exfalso
              rw [hd, List.append_nil] at h1
              rw [h1] at hm
              have := List.all_eq_true.1 (List.all_takeWhile (p := fun c : UInt8 => c != 124) (l := t)) _ hm
              simp at this
            | cons a v =>
              have h2 : ¬ (a != 124) = true := by
                have := List.head_dropWhile_not (fun c : UInt8 => c != 124) (l := t) (by rw [hd]; simp)
                simp only [hd, List.head_cons] at this
                simpa using this
              obtain rfl : a = 124 := by simpa using h2
              exact ⟨_, v, by rw [← hd]; exact h1, rfl⟩
          rw [hu] at hall hle ⊢
          refine .inl fun m => ?_
          have h3 : (c :: t).take (u.length + 2) = c :: (u ++ [124]) := by
            rw [huv, List.take_succ_cons, List.take_append, List.take_of_length_le (by omega)]
            have : u.length + 1 - u.length = 1 := by omega
            rw [this]
            rfl
          rw [h3, List.cons_append, tok_cons, hk]
          show tokBar (u ++ [124] ++ m) = _
          have h4 : (u ++ [124] ++ m).takeWhile (fun c => c != 124) = u := by
            rw [List.append_assoc, List.takeWhile_append_of_pos]
            · simp
            · intro a ha
              rw [← hu] at ha
              exact List.all_eq_true.1 (List.all_takeWhile (p := fun c : UInt8 => c != 124) (l := t)) a ha
          unfold tokBar
          rw [if_pos (by simp)]
          simp only [h4]
          rw [if_pos hall, raw_of hle]
        · cases h
      · cases h
    · rename_i hk
      rw [tokKey_eq h]
      refine .inr ⟨by rw [List.drop_succ_cons]; exact signs_rest t, fun m hm => ?_⟩
      simp only
      rw [List.take_succ_cons, take_signs, List.cons_append, tok_cons, hk]
      show tokKey (signs t ++ m) = _
      have := tokKey_eq h
      unfold tokKey at h ⊢
      simp only [signs_append hm]
      rw [h, this]
    · rename_i hk
      have hs := hcons (sign_five ⟨c.toNat, c.toNat_lt⟩ (.inl hk))
      have he := tokNum_eq h
      rw [he]
      refine .inr ⟨signs_rest _, fun m hm => ?_⟩
      simp only
      rw [take_signs]
      have h5 : signs (signs (c :: t) ++ m) = signs (c :: t) := signs_append hm
      have h6 : signs (c :: t) ++ m = c :: (signs t ++ m) := by rw [hs]; rfl
      have h7 : tok (signs (c :: t) ++ m) = tokNum (signs (c :: t) ++ m) := by rw [h6, tok_cons, hk]; rfl
      rw [h7]
      unfold tokNum at h ⊢
      simp only [h5]
      rw [h, he]
    · rename_i hk
      have hs := hcons (sign_five ⟨c.toNat, c.toNat_lt⟩ (.inr hk))
      have he : r = ⟨2, signs (c :: t), (signs (c :: t)).length⟩ := raw_eq h
      rw [he]
      refine .inr ⟨signs_rest _, fun m hm => ?_⟩
      simp only
      rw [take_signs]
      have h5 : signs (signs (c :: t) ++ m) = signs (c :: t) := signs_append hm
      have h6 : signs (c :: t) ++ m = c :: (signs t ++ m) := by rw [hs]; rfl
      have h7 : tok (signs (c :: t) ++ m) = tokName (signs (c :: t) ++ m) := by rw [h6, tok_cons, hk]; rfl
      rw [h7]
      unfold tokName at h ⊢
      simp only [h5]
      rw [h, he]
    · cases h

theorem tok_take {l : List UInt8} {r : Raw} (h : tok l = some r) : tok (l.take r.n) = some r := by
  rcases tok_pre h with h1 | ⟨_, h1⟩
  · have := h1 []; rwa [List.append_nil] at this
  · have := h1 [] rfl; rwa [List.append_nil] at this
theorem tok_nl {l : List UInt8} {r : Raw} (h : tok l = some r) (b : List UInt8) : tok (l ++ 10 :: b) = some r := by
  have hl := tok_len h
  have he : l ++ 10 :: b = l.take r.n ++ (l.drop r.n ++ 10 :: b) := by rw [← List.append_assoc, List.take_append_drop]
  rw [he]
  rcases tok_pre h with h1 | ⟨h2, h1⟩
  · exact h1 _
  · exact h1 _ (signs_nl h2 b)
theorem tok_sk {l : List UInt8} {r : Raw} (h : tok l = some r) (m : List UInt8) : sk false (l ++ m) = 0 := by
  cases l with
  | nil => cases h
  | cons c t =>
    have hb : byN c.toNat ≤ 5 := by
      have := byN_le c.toNat
      rcases Nat.lt_or_ge (byN c.toNat) 6 with h1 | h1
      · omega
      · have h6 : byN c.toNat = 6 := by omega
        rw [tok_cons, h6] at h
        cases h
    have := tok_first ⟨c.toNat, c.toNat_lt⟩ hb
    rw [List.cons_append, sk_f, if_neg this.2, if_neg (by rw [this.1]; decide)]

theorem startL_shift (pre b : List UInt8) (q : Nat) : startL (pre ++ b) (pre.length + q) = pre.length + startL b q := by
  unfold startL
  rw [List.drop_append, List.drop_of_length_le (by omega), List.nil_append]
  have : pre.length + q - pre.length = q := by omega
  rw [this]
  omega
theorem drop_shift (pre b : List UInt8) (q : Nat) : (pre ++ b).drop (pre.length + q) = b.drop q := by
  rw [List.drop_append, List.drop_of_length_le (by omega), List.nil_append]
  congr 1
  omega
theorem sk_glue : ∀ (c : Bool) (x b : List UInt8), sk c x = x.length → sk c (x ++ 10 :: b) = x.length + 1 + sk false b
  | false, [], b, _ => by
    rw [List.nil_append, sk_f, if_neg (by decide), if_pos (by decide)]
    simp
  | true, [], b, _ => by
    rw [List.nil_append, sk_c, if_pos (by decide)]
    simp
  | false, a :: x, b, h => by
    rw [sk_f, List.length_cons] at h
    rw [List.cons_append, sk_f, List.length_cons]
    split
    · rename_i h1
      rw [if_pos h1] at h
      rw [sk_glue true x b (by omega)]; omega
    · rename_i h1
      rw [if_neg h1] at h
      split
      · rename_i h2
        rw [if_pos h2] at h
        rw [sk_glue false x b (by omega)]; omega
      · rename_i h2
        rw [if_neg h2] at h
        omega
  | true, a :: x, b, h => by
    rw [sk_c, List.length_cons] at h
    rw [List.cons_append, sk_c, List.length_cons]
    split
    · rename_i h1
      rw [if_pos h1] at h
      rw [sk_glue false x b (by omega)]; omega
    · rename_i h1
      rw [if_neg h1] at h
      rw [sk_glue true x b (by omega)]; omega
theorem sk_more : ∀ (c : Bool) (x y : List UInt8), sk c x < x.length → sk c (x ++ y) = sk c x
  | c, [], y, h => by cases h
  | false, a :: x, y, h => by
    rw [sk_f, List.length_cons] at h
    rw [List.cons_append, sk_f, sk_f]
    split
    · rename_i h1
      rw [if_pos h1] at h
      rw [sk_more true x y (by omega)]
    · rename_i h1
      rw [if_neg h1] at h
      split
      · rename_i h2
        rw [if_pos h2] at h
        rw [sk_more false x y (by omega)]
      · rfl
  | true, a :: x, y, h => by
    rw [sk_c, List.length_cons] at h
    rw [List.cons_append, sk_c, sk_c]
    split
    · rename_i h1
      rw [if_pos h1] at h
      rw [sk_more false x y (by omega)]
    · rename_i h1
      rw [if_neg h1] at h
      rw [sk_more true x y (by omega)]
end Go.Proofs.Ytephhendkmhggaa

/- What is read of a text, with something ahead or behind. -/
namespace Go.Proofs.Ytephhendkmhggaa
open Go.RowKit

def Rd.shift (n : Nat) : Rd → Rd
  | .ok x q => .ok x (n + q)
  | .err m c => .err (n + m) c
theorem closes_shift (pre b : List UInt8) (p : Nat) : closes (pre ++ b) (pre.length + p) = (closes b p).map (pre.length + ·) := by
  unfold closes
  rw [startL_shift, drop_shift]
  cases tok (b.drop (startL b p)) with
  | none => rfl
  | some r =>
    dsimp only
    split
    · simp [Nat.add_assoc]
    · rfl
theorem rd_shift (pre b : List UInt8) : ∀ f, (∀ p, readF (pre ++ b) f (pre.length + p) = (readF b f p).shift pre.length) ∧ (∀ p acc, listF (pre ++ b) f (pre.length + p) acc = (listF b f p acc).shift pre.length)
  | 0 => ⟨fun p => by simp [readF, Rd.shift], fun p acc => by simp [listF, Rd.shift]⟩
  | f + 1 => by
    obtain ⟨ih1, ih2⟩ := rd_shift pre b f
    refine ⟨fun p => ?_, fun p acc => ?_⟩
    · unfold readF
      rw [startL_shift, drop_shift]
      by_cases he : b.drop (startL b p) = []
      · rw [if_pos he, if_pos he, List.length_append]; rfl
      · rw [if_neg he, if_neg he]
        cases ht : tok (b.drop (startL b p)) with
        | none => rfl
        | some r =>
          dsimp only
          by_cases h1 : r.k = 1
          · rw [if_pos h1, if_pos h1]; rfl
          · rw [if_neg h1, if_neg h1]
            by_cases h0 : r.k = 0
            · rw [if_pos h0, if_pos h0, Nat.add_assoc]
              exact ih2 _ _
            · rw [if_neg h0, if_neg h0, Nat.add_assoc]; rfl
    · unfold listF
      rw [closes_shift]
      cases hc : closes b p with
      | some q => rfl
      | none =>
        dsimp only [Option.map]
        rw [ih1]
        cases hy : readF b f p with
        | err n e => rfl
        | ok y q => exact ih2 q (acc ++ [y])
theorem readP_shift (pre b : List UInt8) (p : Nat) : readP (pre ++ b) (pre.length + p) = (readP b p).shift pre.length := by
  unfold readP
  rw [show 2 * ((pre ++ b).length - (pre.length + p)) + 1 = 2 * (b.length - p) + 1 by rw [List.length_append]; omega]
  exact (rd_shift pre b _).1 p
theorem topP_shift (pre b : List UInt8) (p : Nat) : topP (pre ++ b) (pre.length + p) = (topP b p).shift pre.length := by
  unfold topP
  rw [readP_shift]
  cases readP b p with
  | err n e => rfl
  | ok x q =>
    dsimp only [Rd.shift]
    split <;> rfl
theorem topP_same {L : List UInt8} {p q : Nat} (hp : p ≤ L.length) (hq : q ≤ L.length) (h : startL L p = startL L q) : topP L p = topP L q := by
  rw [← topP_start L p hp, ← topP_start L q hq, h]

theorem next_behind {L : List UInt8} {p : Nat} {r : Raw} (M : List UInt8) (hp : p ≤ L.length) (h : tok (L.drop (startL L p)) = some r) :
    startL (L ++ 10 :: M) p = startL L p ∧ tok ((L ++ 10 :: M).drop (startL L p)) = some r := by
  have hl := tok_len h
  rw [List.length_drop] at hl
  have hle := startL_le L p hp
  have h1 : (L ++ 10 :: M).drop p = L.drop p ++ 10 :: M := by rw [List.drop_append_of_le_length hp]
  have h2 : (L ++ 10 :: M).drop (startL L p) = L.drop (startL L p) ++ 10 :: M := by rw [List.drop_append_of_le_length hle]
  refine ⟨?_, ?_⟩
  · unfold startL
    rw [h1, sk_more]
    rw [List.length_drop]
    unfold startL at hl
    omega
  · rw [h2]
    exact tok_nl h M
theorem rd_tok {L : List UInt8} {f p : Nat} {x : Sx} {q : Nat} (h : readF L f p = .ok x q) : ∃ r, tok (L.drop (startL L p)) = some r ∧ r.k ≠ 1 := by
  cases f with
  | zero => simp [readF] at h
  | succ f =>
    unfold readF at h
    split at h
    · cases h
    · split at h
      · cases h
      · rename_i r hr
        split at h
        · cases h
        · rename_i h1
          exact ⟨r, hr, h1⟩
theorem rd_behind (L M : List UInt8) : ∀ f, (∀ p x q, p ≤ L.length → readF L f p = .ok x q → readF (L ++ 10 :: M) f p = .ok x q) ∧ (∀ p acc x q, p ≤ L.length → listF L f p acc = .ok x q → listF (L ++ 10 :: M) f p acc = .ok x q)
  | 0 => ⟨fun p x q _ h => by simp [readF] at h, fun p acc x q _ h => by simp [listF] at h⟩
  | f + 1 => by
    obtain ⟨ih1, ih2⟩ := rd_behind L M f
    refine ⟨fun p x q hp h => ?_, fun p acc x q hp h => ?_⟩
    · obtain ⟨r, hr, h1⟩ := rd_tok h
      obtain ⟨e1, e2⟩ := next_behind M hp hr
      have hl := tok_len hr
      have := startL_le L p hp
      rw [List.length_drop] at hl
      unfold readF at h ⊢
      rw [e1, e2]
      rw [hr] at h
      have hne : L.drop (startL L p) ≠ [] := fun e => by rw [e] at hr; cases hr
      have hne2 : (L ++ 10 :: M).drop (startL L p) ≠ [] := fun e => by rw [e] at e2; cases e2
      rw [if_neg hne] at h
      rw [if_neg hne2]
      dsimp only at h ⊢
      rw [if_neg h1] at h ⊢
      by_cases h0 : r.k = 0
      · rw [if_pos h0] at h ⊢
        exact ih2 _ _ _ _ (by omega) h
      · rw [if_neg h0] at h ⊢
        exact h
    · unfold listF at h ⊢
      cases hc : closes L p with
      | some q' =>
        rw [hc] at h
        obtain ⟨r, hr, hk, hq', _, _⟩ := closes_some hc hp
        obtain ⟨e1, e2⟩ := next_behind M hp hr
        have : closes (L ++ 10 :: M) p = some q' := by
          unfold closes
          rw [e1, e2]
          dsimp only
          rw [if_pos hk, hq']
        rw [this]
        exact h
      | none =>
        rw [hc] at h
        dsimp only at h
        cases hy : readF L f p with
        | err n e => rw [hy] at h; cases h
        | ok y q' =>
          rw [hy] at h
          dsimp only at h
          obtain ⟨r, hr, h1⟩ := rd_tok hy
          obtain ⟨e1, e2⟩ := next_behind M hp hr
          have : closes (L ++ 10 :: M) p = none := by
            unfold closes
            rw [e1, e2]
            dsimp only
            rw [if_neg h1]
          rw [this]
          dsimp only
          rw [ih1 p y q' hp hy]
          exact ih2 q' _ _ _ ((rd_ok L f).1 p y q' hp hy).2 h
theorem topP_behind {L : List UInt8} {p q : Nat} {x : Sx} (M : List UInt8) (hp : p ≤ L.length) (h : topP L p = .ok x q) : topP (L ++ 10 :: M) p = .ok x q := by
  obtain ⟨_, _, h2, h3⟩ := topP_ok hp h
  have hlen : (L ++ 10 :: M).length = L.length + 1 + M.length := by simp; omega
  have h4 : readP (L ++ 10 :: M) p = .ok x q := by
    unfold readP at h2 ⊢
    rw [(rd_fuel (L ++ 10 :: M) _ (2 * ((L ++ 10 :: M).length - p) + 1)).1 p (by omega) (Nat.le_refl _) (Nat.le_refl _)]
    have h5 := (rd_fuel L (2 * (L.length - p) + 1) (2 * ((L ++ 10 :: M).length - p) + 1)).1 p hp (Nat.le_refl _) (by omega)
    rw [h5] at h2
    exact (rd_behind L M _).1 p x q hp h2
  unfold topP
  rw [h4]
  dsimp only
  rw [if_neg (by omega)]
theorem topP_begin {L : List UInt8} {p q : Nat} {x : Sx} (hp : p ≤ L.length) (h : topP L p = .ok x q) : startL L p < q := by
  have h1 := startL_le L p hp
  rw [← topP_start L p hp] at h
  exact (topP_ok h1 h).1
end Go.Proofs.Ytephhendkmhggaa

/- All of two texts put together. -/
namespace Go.Proofs.Ytephhendkmhggaa
open Go.RowKit

theorem allF_acc (L : List UInt8) : ∀ (f p : Nat) (acc : List Sx), allF L f p acc = (acc ++ (allF L f p []).1, (allF L f p []).2)
  | 0, p, acc => by unfold allF; simp
  | f + 1, p, acc => by
    unfold allF
    by_cases h : startL L p = L.length
    · rw [if_pos h, if_pos h]; simp
    · rw [if_neg h, if_neg h]
      cases ht : topP L p with
      | err n c => simp
      | ok x n =>
        dsimp only
        rw [allF_acc L f n (acc ++ [x]), allF_acc L f n ([] ++ [x])]
        simp
theorem allF_fuel (L : List UInt8) : ∀ (f g p : Nat) (acc : List Sx), p ≤ L.length → L.length + 1 ≤ f + p → L.length + 1 ≤ g + p → allF L f p acc = allF L g p acc
  | 0, _, p, _, hp, hf, _ => by omega
  | _ + 1, 0, p, _, hp, _, hg => by omega
  | f + 1, g + 1, p, acc, hp, hf, hg => by
    unfold allF
    by_cases h : startL L p = L.length
    · rw [if_pos h, if_pos h]
    · rw [if_neg h, if_neg h]
      cases ht : topP L p with
      | err n c => rfl
      | ok x n =>
        obtain ⟨h1, h2, _⟩ := topP_ok hp ht
        exact allF_fuel L f g n _ h2 (by omega) (by omega)
theorem allF_same {L : List UInt8} {p q : Nat} (f : Nat) (acc : List Sx) (hp : p ≤ L.length) (hq : q ≤ L.length) (h : startL L p = startL L q) : allF L (f + 1) p acc = allF L (f + 1) q acc := by
  unfold allF
  rw [h, topP_same hp hq h]
theorem allF_shift (pre b : List UInt8) : ∀ (f p : Nat) (acc : List Sx), allF (pre ++ b) f (pre.length + p) acc = ((allF b f p acc).1, pre.length + (allF b f p acc).2.1, (allF b f p acc).2.2)
  | 0, p, acc => by unfold allF; rfl
  | f + 1, p, acc => by
    unfold allF
    rw [startL_shift, topP_shift, List.length_append]
    by_cases h : startL b p = b.length
    · rw [if_pos h, if_pos (by omega)]
    · rw [if_neg h, if_neg (by omega)]
      cases ht : topP b p with
      | err n c => rfl
      | ok x n => exact allF_shift pre b f n (acc ++ [x])
theorem topP_tok {L : List UInt8} {p q : Nat} {x : Sx} (hp : p ≤ L.length) (h : topP L p = .ok x q) : ∃ r, tok (L.drop (startL L p)) = some r := by
  obtain ⟨_, _, h2, _⟩ := topP_ok hp h
  obtain ⟨r, hr, _⟩ := rd_tok h2
  exact ⟨r, hr⟩
theorem all_glue (L b : List UInt8) : ∀ (f p : Nat), p ≤ L.length → L.length + 1 ≤ f + p → (allF L f p []).2.2 = 0 → ∀ g, L.length + 1 + b.length + 1 ≤ g + p →
    allF (L ++ 10 :: b) g p [] = ((allF L f p []).1 ++ (allM b).1, L.length + 1 + (allM b).2.1, (allM b).2.2)
  | 0, p, hp, hf, _, _, _ => by omega
  | f + 1, p, hp, hf, h0, g, hg => by
    obtain ⟨g, rfl⟩ : ∃ g', g = g' + 1 := ⟨g - 1, by omega⟩
    have hL : L ++ 10 :: b = (L ++ [10]) ++ b := by simp
    have hlen : (L ++ 10 :: b).length = L.length + 1 + b.length := by simp; omega
    by_cases h : startL L p = L.length
    · have e1 : allF L (f + 1) p [] = ([], L.length, 0) := by unfold allF; rw [if_pos h, h]
      rw [e1]
      have hs1 : startL (L ++ 10 :: b) p = L.length + 1 + startL b 0 := by
        unfold startL at h ⊢
        rw [List.drop_append_of_le_length hp, sk_glue false (L.drop p) b (by rw [List.length_drop]; omega), List.length_drop, List.drop_zero]
        omega
      have hs2 : startL (L ++ 10 :: b) (L.length + 1) = L.length + 1 + startL b 0 := by
        have := startL_shift (L ++ [10]) b 0
        rw [← hL] at this
        simpa using this
      rw [allF_same g [] (by omega) (by omega : L.length + 1 ≤ _) (hs1.trans hs2.symm)]
      have h4 := allF_shift (L ++ [10]) b (g + 1) 0 []
      rw [← hL] at h4
      have h5 : (L ++ [10]).length + 0 = L.length + 1 := by simp
      rw [h5, allF_fuel b (g + 1) (b.length + 1) 0 [] (Nat.zero_le _) (by omega) (by omega)] at h4
      rw [h4]
      have h6 : (L ++ [10]).length = L.length + 1 := by simp
      rw [h6]
      rfl
    · cases ht : topP L p with
      | err n c =>
        exfalso
        unfold allF at h0
        rw [if_neg h, ht] at h0
        exact topP_err hp ht h0
      | ok x n =>
        obtain ⟨h1, h2, _⟩ := topP_ok hp ht
        obtain ⟨r, hr⟩ := topP_tok hp ht
        obtain ⟨e1, _⟩ := next_behind b hp hr
        have hle := startL_le L p hp
        have ea : allF L (f + 1) p [] = ([x] ++ (allF L f n []).1, (allF L f n []).2) := by
          conv => lhs; unfold allF
          rw [if_neg h, ht]
          dsimp only
          rw [allF_acc]
          rfl
        rw [ea] at h0 ⊢
        have ih := all_glue L b f n h2 (by omega) h0 g (by omega)
        conv => lhs; unfold allF
        rw [e1, if_neg (by omega), topP_behind b hp ht]
        dsimp only
        rw [allF_acc, ih]
        simp
theorem allM_glue (L b : List UInt8) (h : (allM L).2.2 = 0) : allM (L ++ 10 :: b) = ((allM L).1 ++ (allM b).1, L.length + 1 + (allM b).2.1, (allM b).2.2) := by
  unfold allM at h
  have := all_glue L b (L.length + 1) 0 (Nat.zero_le _) (Nat.le_refl _) h ((L ++ 10 :: b).length + 1) (by simp; omega)
  unfold allM at this ⊢
  exact this
theorem all_end (L : List UInt8) : ∀ (f p : Nat) (acc : List Sx), p ≤ L.length → L.length + 1 ≤ f + p → (allF L f p acc).2.2 = 0 → (allF L f p acc).2.1 = L.length
  | 0, p, _, hp, hf, _ => by omega
  | f + 1, p, acc, hp, hf, h0 => by
    unfold allF at h0 ⊢
    by_cases h : startL L p = L.length
    · rw [if_pos h]; exact h
    · rw [if_neg h] at h0 ⊢
      cases ht : topP L p with
      | err n c =>
        rw [ht] at h0
        exact absurd h0 (topP_err hp ht)
      | ok x n =>
        rw [ht] at h0
        obtain ⟨h1, h2, _⟩ := topP_ok hp ht
        exact all_end L f n _ h2 (by omega) h0
theorem allM_end (L : List UInt8) (h : (allM L).2.2 = 0) : (allM L).2.1 = L.length := all_end L _ 0 [] (Nat.zero_le _) (Nat.le_refl _) h
theorem allM_len (L : List UInt8) : (allM L).1.length ≤ L.length := allF_len L _ 0 [] (Nat.zero_le _) (Nat.zero_le _)
theorem allF_depth (L : List UInt8) : ∀ (f p : Nat) (acc : List Sx), p ≤ L.length → (∀ y ∈ acc, y.depth ≤ 60) → ∀ y ∈ (allF L f p acc).1, y.depth ≤ 60
  | 0, p, acc, _, h, y, hy => by unfold allF at hy; exact h y hy
  | f + 1, p, acc, hp, h, y, hy => by
    unfold allF at hy
    split at hy
    · exact h y hy
    · split at hy
      · rename_i x n ht
        obtain ⟨_, h2, _, h4⟩ := topP_ok hp ht
        refine allF_depth L f n (acc ++ [x]) h2 (fun z hz => ?_) y hy
        rcases List.mem_append.1 hz with hz | hz
        · exact h z hz
        · rw [List.mem_singleton.1 hz]; exact h4
      · exact h y hy
theorem allM_depth (L : List UInt8) : ∀ y ∈ (allM L).1, y.depth ≤ 60 := allF_depth L _ 0 [] (Nat.zero_le _) (fun _ h => nomatch h)
end Go.Proofs.Ytephhendkmhggaa

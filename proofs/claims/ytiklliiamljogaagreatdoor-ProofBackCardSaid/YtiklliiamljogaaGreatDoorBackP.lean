/- What is written is read; what is read stands. -/
import Derived.Test.YtiklliiamljogaaGreatDoorMass
namespace Go.Proofs.YtiklliiamljogaaGreatDoor
open Go.RowKit

theorem sign_name : ∀ x : Fin 256, signN x.val = true → digitN x.val = false → byN x.val = 5 := by decide +kernel
theorem digit_by : ∀ x : Fin 256, digitN x.val = true → byN x.val = 4 ∧ signN x.val = true := by decide +kernel
theorem signs_all {l : List UInt8} (h : (l.all fun c => signN c.toNat) = true) : signs l = l := by
  have h1 : signs (l ++ []) = l ++ signs [] := by
    unfold signs
    rw [List.takeWhile_append_of_pos]
    exact fun a ha => List.all_eq_true.1 h a ha
  rwa [List.append_nil, show signs [] = [] from rfl, List.append_nil] at h1

/-- Signs that begin with no digit are one token. -/
theorem tok_word {l : List UInt8} (h1 : l ≠ []) (h2 : l.length ≤ 100) (h3 : (l.all fun c => signN c.toNat) = true) (h4 : digitN (headB l) = false) : tok l = some ⟨2, l, l.length⟩ := by
  cases l with
  | nil => exact absurd rfl h1
  | cons c t =>
    have h5 : signN c.toNat = true := List.all_eq_true.1 h3 c (by simp)
    have h7 := sign_name ⟨c.toNat, c.toNat_lt⟩ h5 h4
    have h8 := signs_all h3
    rw [tok_cons, h7]
    show tokName (c :: t) = _
    unfold tokName
    simp only [h8]
    exact raw_of h2
theorem reserved_word {l : List UInt8} (h : reservedL l = true) : tok l = some ⟨2, l, l.length⟩ := by
  unfold reservedL at h
  simp only [Bool.or_eq_true, beq_iff_eq] at h
  rcases h with (((((((rfl | rfl) | rfl) | rfl) | rfl) | rfl) | rfl) | rfl) <;> exact tok_word (by decide) (by decide) (by decide) (by decide)
theorem tok_quoteL {l : List UInt8} (hm : mayL l = true) : tok (quoteL l) = some ⟨2, l, (quoteL l).length⟩ := by
  unfold mayL at hm
  rw [Bool.and_eq_true, decide_eq_true_eq] at hm
  unfold quoteL
  cases hr : reservedL l with
  | true => rw [Bool.or_true, if_pos rfl]; exact reserved_word hr
  | false =>
  rw [Bool.or_false]
  cases hp : plainL l with
  | true =>
    rw [if_pos rfl]
    unfold plainL at hp
    rw [Bool.and_eq_true, Bool.and_eq_true, Bool.and_eq_true, Bool.and_eq_true] at hp
    obtain ⟨h1, _, h3, h4, _⟩ := hp
    exact tok_word (by rintro rfl; cases h1) hm.1 h3 (by simpa using h4)
  | false =>
    rw [if_neg (by decide), tok_cons, show byN (124 : UInt8).toNat = 2 by decide]
    show tokBar (l ++ [124]) = _
    have h4 : (l ++ [124]).takeWhile (fun c => c != 124) = l := by
      rw [List.takeWhile_append_of_pos]
      · simp
      · intro a ha
        have h5 := List.all_eq_true.1 hm.2 a ha
        have h6 : a ≠ 124 := by
          rintro rfl
          exact absurd h5 (by decide)
        simpa using h6
    unfold tokBar
    rw [if_pos (by simp)]
    simp only [h4]
    rw [if_pos hm.2, raw_of hm.1]
    simp
theorem tok_numL {l : List UInt8} (hm : numL l = true) (h2 : l.length ≤ 100) : tok l = some ⟨3, l, l.length⟩ := by
  unfold numL at hm
  rw [Bool.and_eq_true, Bool.and_eq_true] at hm
  obtain ⟨⟨h1, h3⟩, h4⟩ := hm
  cases l with
  | nil => cases h1
  | cons c t =>
    have h5 : digitN c.toNat = true := List.all_eq_true.1 h4 c (by simp)
    have h7 := digit_by ⟨c.toNat, c.toNat_lt⟩ h5
    have h8 : signs (c :: t) = c :: t := signs_all (List.all_eq_true.2 fun a ha => (digit_by ⟨a.toNat, a.toNat_lt⟩ (List.all_eq_true.1 h4 a ha)).2)
    rw [tok_cons, h7.1]
    show tokNum (c :: t) = _
    unfold tokNum
    simp only [h8]
    rw [h4, Bool.true_and, if_pos]
    · exact raw_of h2
    · cases t with
      | nil =>
        by_cases hc : c = 48
        · subst hc; rfl
        · have : headB [c] ≠ 48 := fun h => hc (UInt8.toNat_inj.1 h)
          rw [bne_iff_ne.2 this, Bool.or_true]
      | cons d t =>
        have : decide (1 < (c :: d :: t).length) = true := decide_eq_true (by simp)
        rw [this, Bool.true_and] at h3
        have h9 : headB (c :: d :: t) != 48 := by simpa [bne] using h3
        rw [h9, Bool.or_true]
theorem tok_kwL {l : List UInt8} (hm : kwL l = true) : tok (58 :: l) = some ⟨4, l, (58 :: l : List UInt8).length⟩ := by
  unfold kwL at hm
  rw [Bool.and_eq_true, Bool.and_eq_true, decide_eq_true_eq] at hm
  obtain ⟨h1, h2, h3⟩ := hm
  rw [tok_cons, show byN (58 : UInt8).toNat = 3 by decide]
  show tokKey l = _
  unfold tokKey
  simp only [signs_all h1]
  rw [if_neg (by rintro rfl; cases h2)]
  exact raw_of h3
theorem tok_more {l : List UInt8} {k : Nat} {t : List UInt8} (h : tok l = some ⟨k, t, l.length⟩) (m : List UInt8) (hm : signs m = []) : tok (l ++ m) = some ⟨k, t, l.length⟩ := by
  rcases tok_pre h with h3 | ⟨_, h3⟩
  · have := h3 m
    rwa [List.take_of_length_le (Nat.le_refl _)] at this
  · have := h3 m hm
    rwa [List.take_of_length_le (Nat.le_refl _)] at this

theorem readF_P {L : List UInt8} {f p : Nat} (hp : p ≤ L.length) (hf : 2 * (L.length - p) + 1 ≤ f) : readF L f p = readP L p := (rd_fuel L f _).1 p hp hf (Nat.le_refl _)
def PrintRead (y : Sx) : Prop := ∀ m, signs m = [] → (∃ r, tok (y.print ++ m) = some r ∧ r.k ≠ 1) ∧ readP (y.print ++ m) 0 = .ok y y.print.length
theorem start_lead {lead b : List UInt8} (hl : lead = [] ∨ lead = [32]) {r : Raw} (h : tok b = some r) : startL (lead ++ b) 0 = lead.length := by
  have h1 := tok_sk h []
  rw [List.append_nil] at h1
  rcases hl with rfl | rfl
  · unfold startL; rw [List.drop_zero, List.nil_append, h1]; rfl
  · show 0 + sk false (32 :: b) = _
    rw [sk_f, if_neg (by decide), if_pos (by decide), h1]
    rfl
theorem close_now (m : List UInt8) : closes (41 :: m) 0 = some 1 := by
  have h : startL (41 :: m) 0 = 0 := by
    show 0 + sk false (41 :: m) = 0
    rw [sk_f, if_neg (by decide), if_neg (by decide)]
  unfold closes
  rw [h, List.drop_zero, tok_cons, show byN (41 : UInt8).toNat = 1 by decide]
  rfl
theorem signs_sp (m : List UInt8) : signs (32 :: m) = [] := by
  unfold signs
  rw [List.takeWhile_cons, if_neg (by decide)]
theorem signs_cl (m : List UInt8) : signs (41 :: m) = [] := by
  unfold signs
  rw [List.takeWhile_cons, if_neg (by decide)]
/-- One that stands in a list, and the rest of it. -/
theorem list_step {lead : List UInt8} (hl : lead = [] ∨ lead = [32]) {y : Sx} (hy : PrintRead y) (m : List UInt8) (hm : signs m = []) (f : Nat) (acc : List Sx) (hf : 2 * (lead ++ (y.print ++ m)).length + 2 ≤ f + 1) :
    listF (lead ++ (y.print ++ m)) (f + 1) 0 acc = (listF m f 0 (acc ++ [y])).shift (lead ++ y.print).length := by
  obtain ⟨⟨r, hr, hk⟩, hrd⟩ := hy m hm
  have hs := start_lead hl hr
  have hd : (lead ++ (y.print ++ m)).drop lead.length = y.print ++ m := List.drop_left
  have hc : closes (lead ++ (y.print ++ m)) 0 = none := by
    unfold closes
    rw [hs, hd, hr]
    dsimp only
    rw [if_neg hk]
  conv => lhs; unfold listF
  rw [hc]
  dsimp only
  have h1 : readF (lead ++ (y.print ++ m)) f 0 = .ok y (lead.length + y.print.length) := by
    rw [readF_P (Nat.zero_le _) (by omega), ← readP_start _ 0 (Nat.zero_le _), hs]
    have := readP_shift lead (y.print ++ m) 0
    rw [Nat.add_zero, hrd] at this
    exact this
  rw [h1]
  dsimp only
  have h2 := (rd_shift (lead ++ y.print) m f).2 0 (acc ++ [y])
  rw [Nat.add_zero, List.append_assoc] at h2
  rw [← h2, List.length_append]
theorem tails_read : ∀ (l : List Sx), (∀ y ∈ l, PrintRead y) → ∀ (f : Nat) (m : List UInt8) (acc : List Sx), 2 * (Sx.tails l ++ 41 :: m).length + 2 ≤ f → listF (Sx.tails l ++ 41 :: m) f 0 acc = .ok (.mk 3 [] (acc ++ l)) ((Sx.tails l).length + 1)
  | [], _, f, m, acc, hf => by
    obtain ⟨g, rfl⟩ : ∃ g, f = g + 1 := ⟨f - 1, by omega⟩
    rw [Sx.tails, List.nil_append]
    unfold listF
    rw [close_now, List.append_nil]
    rfl
  | y :: r, h, f, m, acc, hf => by
    obtain ⟨g, rfl⟩ : ∃ g, f = g + 1 := ⟨f - 1, by omega⟩
    have he : Sx.tails (y :: r) ++ 41 :: m = [32] ++ (y.print ++ (Sx.tails r ++ 41 :: m)) := by rw [Sx.tails]; simp
    have hsg : signs (Sx.tails r ++ 41 :: m) = [] := by
      cases r with
      | nil => rw [Sx.tails]; exact signs_cl m
      | cons z r => rw [Sx.tails]; exact signs_sp _
    have hfl : (Sx.tails r ++ 41 :: m).length + 1 ≤ (Sx.tails (y :: r) ++ 41 :: m).length := by rw [he]; simp
    rw [he] at hf ⊢
    rw [list_step (.inr rfl) (h y (by simp)) _ hsg g acc hf, tails_read r (fun z hz => h z (by simp [hz])) g m (acc ++ [y]) (by rw [he] at hfl; omega)]
    rw [Sx.tails]
    show Rd.ok _ _ = Rd.ok _ _
    congr 1
    · simp
    · simp; omega
theorem prints_read (l : List Sx) (h : ∀ y ∈ l, PrintRead y) (f : Nat) (m : List UInt8) (hf : 2 * (Sx.prints l ++ 41 :: m).length + 2 ≤ f) : listF (Sx.prints l ++ 41 :: m) f 0 [] = .ok (.mk 3 [] l) ((Sx.prints l).length + 1) := by
  obtain ⟨g, rfl⟩ : ∃ g, f = g + 1 := ⟨f - 1, by omega⟩
  cases l with
  | nil =>
    rw [Sx.prints, List.nil_append]
    unfold listF
    rw [close_now]
    rfl
  | cons y r =>
    have he : Sx.prints (y :: r) ++ 41 :: m = [] ++ (y.print ++ (Sx.tails r ++ 41 :: m)) := by rw [Sx.prints]; simp
    have hsg : signs (Sx.tails r ++ 41 :: m) = [] := by
      cases r with
      | nil => rw [Sx.tails]; exact signs_cl m
      | cons z r => rw [Sx.tails]; exact signs_sp _
    have hyl : 1 ≤ y.print.length := by
      obtain ⟨⟨r, hr, _⟩, _⟩ := h y (by simp) [] rfl
      have := tok_len hr
      rw [List.append_nil] at this
      omega
    have hfl : (Sx.tails r ++ 41 :: m).length + 1 ≤ (Sx.prints (y :: r) ++ 41 :: m).length := by rw [he]; simp; omega
    rw [he] at hf ⊢
    rw [list_step (.inl rfl) (h y (by simp)) _ hsg g [] (by omega), tails_read r (fun z hz => h z (by simp [hz])) g m ([] ++ [y]) (by rw [he] at hfl; omega)]
    rw [Sx.prints]
    show Rd.ok _ _ = Rd.ok _ _
    congr 1
    · simp; omega
theorem leaf_read {p t m : List UInt8} {k : Nat} (h : tok (p ++ m) = some ⟨k, t, p.length⟩) (h1 : k ≠ 1) (h0 : k ≠ 0) : readP (p ++ m) 0 = .ok (.mk (leafK k) t []) p.length := by
  have hs := start_lead (lead := []) (.inl rfl) h
  rw [List.nil_append, List.length_nil] at hs
  have hne : (p ++ m).drop 0 ≠ [] := fun e => by rw [List.drop_zero] at e; rw [e] at h; cases h
  unfold readP readF
  rw [hs, if_neg hne, List.drop_zero, h]
  dsimp only
  rw [if_neg h1, if_neg h0, Nat.zero_add]
theorem print_read (x : Sx) : x.stands = true → PrintRead x := by
  induction x using Sx.ind with
  | h k t l ih =>
  intro hst m hm
  rw [Sx.stands] at hst
  rw [Sx.print]
  by_cases h0 : k = 0
  · rw [if_pos h0] at hst ⊢
    rw [Bool.and_eq_true, List.isEmpty_iff] at hst
    obtain ⟨rfl, ht⟩ := hst
    subst h0
    have := tok_more (tok_quoteL ht) m hm
    exact ⟨⟨_, this, nofun⟩, leaf_read this (by decide) (by decide)⟩
  rw [if_neg h0] at hst ⊢
  by_cases h1 : k = 1
  · subst h1
    rw [if_pos rfl, Bool.and_eq_true, Bool.and_eq_true, List.isEmpty_iff, decide_eq_true_eq] at hst
    obtain ⟨rfl, ht, hl⟩ := hst
    rw [if_neg (by decide), if_neg (by decide)]
    have := tok_more (tok_numL ht hl) m hm
    exact ⟨⟨_, this, nofun⟩, leaf_read this (by decide) (by decide)⟩
  rw [if_neg h1] at hst
  by_cases h2 : k = 2
  · subst h2
    rw [if_pos rfl, Bool.and_eq_true, List.isEmpty_iff] at hst
    obtain ⟨rfl, ht⟩ := hst
    rw [if_pos rfl]
    have := tok_more (tok_kwL ht) m hm
    exact ⟨⟨_, this, nofun⟩, leaf_read this (by decide) (by decide)⟩
  rw [if_neg h2] at hst ⊢
  by_cases h3 : k = 3
  · subst h3
    rw [if_pos rfl, Bool.and_eq_true, List.isEmpty_iff] at hst
    obtain ⟨rfl, hl⟩ := hst
    rw [if_pos rfl]
    have ht : tok (40 :: (Sx.prints l ++ [41]) ++ m) = some ⟨0, [], 1⟩ := by
      rw [List.cons_append, tok_cons, show byN (40 : UInt8).toNat = 0 by decide]
      rfl
    refine ⟨⟨_, ht, by decide⟩, ?_⟩
    have hs := start_lead (lead := []) (.inl rfl) ht
    rw [List.nil_append, List.length_nil] at hs
    have he : 40 :: (Sx.prints l ++ [41]) ++ m = [40] ++ (Sx.prints l ++ 41 :: m) := by simp
    unfold readP readF
    rw [hs, if_neg (by rw [List.drop_zero]; simp), List.drop_zero, ht]
    dsimp only
    rw [if_neg (by decide), if_pos rfl, he]
    have h2 := (rd_shift [40] (Sx.prints l ++ 41 :: m) (2 * (([40] ++ (Sx.prints l ++ 41 :: m)).length - 0))).2 0 []
    rw [show 0 + 1 = ([40] : List UInt8).length + 0 from rfl, h2, prints_read l (fun y hy => ih y hy (standss_mem hl hy)) _ m (by simp; omega)]
    show Rd.ok _ _ = Rd.ok _ _
    congr 1
    simp
    omega
  · rw [if_neg h3] at hst; cases hst

theorem may_read {x : Sx} (h : x.may = true) (m : List UInt8) (hm : signs m = []) : topP (x.print ++ m) 0 = .ok x x.print.length := by
  unfold Sx.may at h
  rw [Bool.and_eq_true, decide_eq_true_eq] at h
  unfold topP
  rw [(print_read x h.2 m hm).2]
  dsimp only
  rw [if_neg (by omega)]
theorem may_all {x y : Sx} (hx : x.may = true) (hy : y.may = true) : allM (x.print ++ 32 :: y.print) = ([x, y], (x.print ++ 32 :: y.print).length, 0) := by
  obtain ⟨L, hL⟩ : ∃ L, x.print ++ 32 :: y.print = L := ⟨_, rfl⟩
  have hsx : x.stands = true := by unfold Sx.may at hx; rw [Bool.and_eq_true] at hx; exact hx.2
  have hsy : y.stands = true := by unfold Sx.may at hy; rw [Bool.and_eq_true] at hy; exact hy.2
  have h1 := may_read hx (32 :: y.print) (signs_sp _)
  have h2 := may_read hy [] rfl
  rw [List.append_nil] at h2
  obtain ⟨⟨r1, hr1, _⟩, _⟩ := print_read x hsx (32 :: y.print) (signs_sp _)
  obtain ⟨⟨r2, hr2, _⟩, _⟩ := print_read y hsy [] rfl
  rw [List.append_nil] at hr2
  have hs1 := start_lead (lead := []) (.inl rfl) hr1
  rw [List.nil_append, List.length_nil] at hs1
  have hs2 := start_lead (lead := []) (.inl rfl) hr2
  rw [List.nil_append, List.length_nil] at hs2
  have hy0 := tok_len hr2
  have hlen : L.length = x.print.length + 1 + y.print.length := by rw [← hL]; simp; omega
  have e1 : L = (x.print ++ [32]) ++ y.print := by rw [← hL]; simp
  have hsh : startL L (x.print.length + 1) = x.print.length + 1 := by
    have := startL_shift (x.print ++ [32]) y.print 0
    rw [← e1, hs2] at this
    simpa using this
  have hsp : startL L x.print.length = x.print.length + 1 := by
    have h3 : L.drop x.print.length = 32 :: y.print := by rw [← hL]; exact List.drop_left
    have h4 : L.drop (x.print.length + 1) = y.print := by
      have := drop_shift (x.print ++ [32]) y.print 0
      rw [← e1] at this
      simpa using this
    unfold startL at hsh ⊢
    rw [h4] at hsh
    rw [h3, sk_f, if_neg (by decide), if_pos (by decide)]
    omega
  have ht2 : topP L x.print.length = .ok y L.length := by
    rw [topP_same (q := x.print.length + 1) (by omega) (by omega) (hsp.trans hsh.symm)]
    have := topP_shift (x.print ++ [32]) y.print 0
    rw [← e1, h2] at this
    have h5 : (x.print ++ [32]).length + 0 = x.print.length + 1 := by simp
    rw [h5] at this
    rw [this]
    show Rd.ok _ _ = Rd.ok _ _
    rw [hlen]
    simp
  rw [hL] at h1 hs1 ⊢
  unfold allM
  obtain ⟨f, hf⟩ : ∃ f, L.length + 1 = f + 1 + 1 + 1 := ⟨L.length - 2, by have := tok_len hr1; rw [hL] at this; have := print_ne hsx; have := List.length_pos_iff.2 this; omega⟩
  rw [hf]
  unfold allF
  rw [hs1, if_neg (by omega), h1]
  dsimp only
  unfold allF
  rw [hsp, if_neg (by omega), ht2]
  dsimp only
  unfold allF
  have hse : startL L L.length = L.length := by
    unfold startL
    rw [List.drop_of_length_le (Nat.le_refl _)]
    rfl
  rw [hse, if_pos rfl]
  rfl

theorem sign_in : ∀ x : Fin 256, signN x.val = true → insideN x.val = true := by decide +kernel
theorem signs_sub (l : List UInt8) : ((signs l).all fun c => signN c.toNat) = true := List.all_takeWhile
theorem mayL_signs {l : List UInt8} (h : (signs l).length ≤ 100) : mayL (signs l) = true := by
  unfold mayL
  rw [decide_eq_true h, Bool.true_and]
  exact List.all_eq_true.2 fun c hc => sign_in ⟨c.toNat, c.toNat_lt⟩ (List.all_eq_true.1 (signs_sub l) c hc)
/-- What is read stands. -/
theorem leaf_stands {L : List UInt8} {r : Raw} (h : tok L = some r) (h1 : r.k ≠ 1) (h0 : r.k ≠ 0) : (Sx.mk (leafK r.k) r.t []).stands = true := by
  cases L with
  | nil => cases h
  | cons c m =>
    rw [tok_cons] at h
    split at h
    · exact absurd (by rw [raw_eq h]) h0
    · exact absurd (by rw [raw_eq h]) h1
    · unfold tokBar at h
      split at h
      · dsimp only at h
        split at h
        · rename_i hall
          have hle := raw_le h
          rw [raw_eq h]
          show (Sx.mk 0 (m.takeWhile fun c => c != 124) []).stands = true
          rw [Sx.stands, if_pos rfl]
          unfold mayL
          rw [hall, decide_eq_true hle]
          rfl
        · cases h
      · cases h
    · have hr := tokKey_eq h
      unfold tokKey at h
      dsimp only at h
      split at h
      · cases h
      · rename_i hne
        have hle := raw_le h
        rw [hr]
        show (Sx.mk 2 (signs m) []).stands = true
        rw [Sx.stands, if_neg (by decide), if_neg (by decide), if_pos rfl]
        unfold kwL
        rw [signs_sub, decide_eq_true hle, List.isEmpty_eq_false_iff.2 hne]
        rfl
    · rename_i hk
      have hr := tokNum_eq h
      unfold tokNum at h
      dsimp only at h
      split at h
      · rename_i hd
        have hle := raw_le h
        rw [Bool.and_eq_true] at hd
        have hc : signN c.toNat = true := sign_five ⟨c.toNat, c.toNat_lt⟩ (.inl hk)
        have hs : signs (c :: m) = c :: signs m := by unfold signs; rw [List.takeWhile_cons, if_pos hc]
        rw [hr]
        show (Sx.mk 1 (signs (c :: m)) []).stands = true
        rw [Sx.stands, if_neg (by decide), if_pos rfl]
        unfold numL
        rw [decide_eq_true hle, hd.1, hs]
        rw [hs] at hd
        obtain ⟨_, hd⟩ := hd
        show (true && ((!false && !(decide (1 < (c :: signs m).length) && (c.toNat == 48))) && true && true)) = true
        cases hm : signs m with
        | nil => rfl
        | cons a b =>
          rw [hm] at hd
          have h9 : (c :: a :: b == ([48] : List UInt8)) = false := beq_eq_false_iff_ne.2 (by simp)
          rw [h9, Bool.false_or] at hd
          have h10 : (c.toNat == 48) = false := by simpa [headB, bne] using hd
          rw [h10]
          simp
      · cases h
    · have hr : r = ⟨2, signs (c :: m), (signs (c :: m)).length⟩ := raw_eq h
      have hle := raw_le h
      rw [hr]
      show (Sx.mk 0 (signs (c :: m)) []).stands = true
      rw [Sx.stands, if_pos rfl]
      exact mayL_signs hle
    · cases h
theorem standss_snoc : ∀ (l : List Sx) (y : Sx), Sx.standss l = true → y.stands = true → Sx.standss (l ++ [y]) = true
  | [], y, _, hy => by show (y.stands && Sx.standss []) = true; rw [hy, Sx.standss]; rfl
  | x :: r, y, h, hy => by
    rw [Sx.standss, Bool.and_eq_true] at h
    show (x.stands && Sx.standss (r ++ [y])) = true
    rw [h.1, standss_snoc r y h.2 hy]
    rfl
theorem rd_stands (L : List UInt8) : ∀ f, (∀ p x q, readF L f p = .ok x q → x.stands = true) ∧ (∀ p acc x q, Sx.standss acc = true → listF L f p acc = .ok x q → x.stands = true)
  | 0 => ⟨fun p x q h => by simp [readF] at h, fun p acc x q _ h => by simp [listF] at h⟩
  | f + 1 => by
    obtain ⟨ih1, ih2⟩ := rd_stands L f
    refine ⟨fun p x q h => ?_, fun p acc x q ha h => ?_⟩
    · unfold readF at h
      split at h
      · cases h
      · split at h
        · cases h
        · rename_i r hr
          split at h
          · cases h
          · rename_i h1
            split at h
            · exact ih2 _ _ _ _ (by rw [Sx.standss]) h
            · rename_i h0
              injection h with h2 h3
              rw [← h2]
              exact leaf_stands hr h1 h0
    · unfold listF at h
      split at h
      · injection h with h2 h3
        rw [← h2, Sx.stands, if_neg (by decide), if_neg (by decide), if_neg (by decide), if_pos rfl, ha]
        rfl
      · split at h
        · rename_i y q' hy
          exact ih2 _ _ _ _ (standss_snoc _ _ ha (ih1 _ _ _ hy)) h
        · cases h
theorem topP_may {L : List UInt8} {q : Nat} {x : Sx} (h : topP L 0 = .ok x q) : x.may = true := by
  obtain ⟨_, _, h2, h3⟩ := topP_ok (Nat.zero_le _) h
  unfold Sx.may
  rw [decide_eq_true h3, (rd_stands L _).1 _ _ _ h2]
  rfl
end Go.Proofs.YtiklliiamljogaaGreatDoor

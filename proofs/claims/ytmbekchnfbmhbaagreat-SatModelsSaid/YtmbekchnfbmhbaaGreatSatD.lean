/- Where literals stand, and what a resolved clause holds. -/
import Derived.Test.YtmbekchnfbmhbaaGreatLrnI
namespace Go.Proofs.YtmbekchnfbmhbaaGreat
open Go.RowKit Go.Lib

theorem lits_ne {M : Tr} (h : M.Ok) : (litsM M).Pairwise (· ≠ ·) := by
  unfold litsM
  rw [List.pairwise_map]
  exact h.nodup.imp fun h e => h (by rw [e])
theorem lits_range {M : Tr} (h : M.Ok) {x : Int} (hx : x ∈ litsM M) : 0 ≤ x ∧ x ≤ 131071 := by
  unfold litsM at hx
  obtain ⟨p, hp, rfl⟩ := List.mem_map.1 hx
  have := h.lit p hp
  have := h.n
  omega
theorem posOf_at {l : List Int} (h : l.Pairwise (· ≠ ·)) {k : Nat} (hk : k < l.length) : posOf l l[k] = some k := by
  unfold posOf
  rw [List.findIdx?_eq_some_iff_getElem]
  refine ⟨hk, by simp, fun j hj => ?_⟩
  have := (List.pairwise_iff_getElem.1 h) j k (by omega) hk hj
  simpa using this
theorem posOf_none {l : List Int} {x : Int} (h : x ∉ l) : posOf l x = none := by
  unfold posOf
  rw [List.findIdx?_eq_none_iff]
  intro y hy
  simp only [beq_eq_false_iff_ne]
  rintro rfl
  exact h hy
theorem posOf_mem {l : List Int} {x : Int} {k : Nat} (h : posOf l x = some k) : x ∈ l := by
  false_or_by_contra
  rename_i hn
  rw [posOf_none hn] at h
  cases h
theorem posOf_succ {l : List Int} {i : Nat} (h : i < l.length) {x : Int} (hx : x ≠ l[i]) : posOf (l.take (i + 1)) x = posOf (l.take i) x := by
  unfold posOf
  rw [List.take_succ_eq_append_getElem h, List.findIdx?_append]
  have : ([l[i]].findIdx? fun y => y == x) = none := by
    rw [List.findIdx?_eq_none_iff]
    intro y hy
    rw [List.mem_singleton.1 hy, beq_eq_false_iff_ne]
    exact fun e => hx e.symm
  rw [this]
  simp
theorem posF_at {M : Tr} (hn : (litsM M).Pairwise (· ≠ ·)) {i : Nat} (h : i < (litsM M).length) : posF M (i + 1) (.int .i64 (litsM M)[i]) = some (.int .i64 (i : Nat)) := by
  have h1 := posOf_at (l := (litsM M).take (i + 1)) (hn.sublist (List.take_sublist _ _)) (k := i) (by rw [List.length_take]; omega)
  rw [List.getElem_take] at h1
  show (posOf _ _).map _ = _
  rw [h1]
  rfl
theorem posF_far {M : Tr} {i : Nat} (h : i < (litsM M).length) (x : Value) (hx : x ≠ .int .i64 (litsM M)[i]) : posF M (i + 1) x = posF M i x := by
  unfold posF
  split
  · rename_i y
    rw [posOf_succ h (fun e => hx (by rw [e]))]
  · rfl
theorem posF_zero (M : Tr) (x : Value) : posF M 0 x = none := by
  unfold posF
  split
  · rfl
  · rfl
theorem litsM_len (M : Tr) : (litsM M).length = M.L.length := by unfold litsM; rw [List.length_map]

/-- A clause of literals that are all false on the trail. -/
structure FalseC (M : Tr) (c : List Int) : Prop where
  neg : ∀ x ∈ c, 0 ≤ x ∧ negM x ∈ litsM M
  len : c.length ≤ 131072

theorem negM_neg {x : Int} (_h : 0 ≤ x) : negM (negM x) = x := by
  unfold negM
  split <;> split <;> omega
theorem negM_range {x : Int} (h : 0 ≤ x) (h1 : x ≤ 131071) : 0 ≤ negM x ∧ negM x ≤ 131071 := by
  unfold negM
  split <;> omega
theorem FalseC.range {M : Tr} {c : List Int} (hM : M.Ok) (h : FalseC M c) {x : Int} (hx : x ∈ c) : 0 ≤ x ∧ x ≤ 131071 := by
  have h1 := h.neg x hx
  have h2 := lits_range hM h1.2
  have h3 := negM_range h2.1 h2.2
  rw [negM_neg h1.1] at h3
  exact h3
theorem ord_len {c : List Int} (h : c.Pairwise (· < ·)) (hr : ∀ x ∈ c, 0 ≤ x ∧ x ≤ 131071) : c.length ≤ 131072 := by
  have := nodup_bound 131072 (c.map Int.toNat) (by
    unfold List.Nodup
    rw [List.pairwise_map]
    refine (h.imp_of_mem (S := fun a b => a.toNat ≠ b.toNat) fun ha hb hlt => ?_)
    have := hr _ ha
    have := hr _ hb
    omega) (by
    intro x hx
    obtain ⟨y, hy, rfl⟩ := List.mem_map.1 hx
    have := hr y hy
    omega)
  rwa [List.length_map] at this
theorem makeM_ord (l : List Int) : (makeM l).Pairwise (· < ·) := made_ord _
theorem mem_makeM {l : List Int} {x : Int} : x ∈ makeM l ↔ x ∈ l ∧ 0 ≤ x := by
  unfold makeM
  rw [made_mem, List.mem_filter]
  simp
theorem mem_resM {cl c : List Int} {put x : Int} : x ∈ resM cl c put ↔ ((x ∈ cl ∧ x ≠ put) ∨ (x ∈ c ∧ x ≠ negM put)) ∧ 0 ≤ x := by
  unfold resM
  rw [mem_makeM, List.mem_append]
  unfold woM
  simp
theorem FalseC.res {M : Tr} {cl c : List Int} {put : Int} {kp : Nat} (hM : M.Ok) (h : FalseC M c) (hm : mayRes M kp put cl = true) : FalseC M (resM cl c put) := by
  have hneg : ∀ x ∈ resM cl c put, 0 ≤ x ∧ negM x ∈ litsM M := by
    intro x hx
    obtain ⟨h1, h2⟩ := mem_resM.1 hx
    refine ⟨h2, ?_⟩
    rcases h1 with ⟨h3, h4⟩ | ⟨h3, _⟩
    · unfold mayRes at hm
      rw [Bool.and_eq_true, List.all_eq_true] at hm
      have := hm.1 x h3
      rw [Bool.or_eq_true] at this
      rcases this with h5 | h5
      · exact absurd (by simpa using h5) h4
      · unfold ahead at h5
        split at h5
        · rename_i k hk
          exact posOf_mem hk
        · cases h5
    · exact (h.neg x h3).2
  refine ⟨hneg, ord_len (makeM_ord _) fun x hx => ?_⟩
  have h1 := hneg x hx
  have h2 := lits_range hM h1.2
  have h3 := negM_range h2.1 h2.2
  rw [negM_neg h1.1] at h3
  exact h3
theorem valOf_two {M : Tr} {x : Int} (h : valOf M.L x = 2) (_h0 : 0 ≤ x) : negM x ∈ litsM M := by
  unfold valOf at h
  split at h
  · rename_i p hp
    unfold find at hp
    have h1 := List.mem_of_find?_eq_some hp
    have h2 := List.find?_some hp
    unfold isAt at h2
    have h3 : p.lit / 2 = x / 2 := by simpa using h2
    unfold valAt at h
    unfold litsM
    refine List.mem_map.2 ⟨p, h1, ?_⟩
    unfold negM
    split at h
    · omega
    · split <;> omega
  · omega
theorem FalseC.of_level {M : Tr} (hM : M.Ok) {c : List Int} {lv : Int} (h : levelM M c = some lv) : FalseC M c := by
  unfold levelM at h
  split at h
  · rename_i hc
    have h0 := isC_nonneg hc
    have hall : ∀ (c : List Int) (n m : Int), levelGo M c n = some m → ∀ x ∈ c, valOf M.L x = 2 := by
      intro c
      induction c with
      | nil => intro n m _ x hx; cases hx
      | cons y r ih =>
        intro n m hm x hx
        unfold levelGo at hm
        split at hm
        · rename_i hv
          rcases List.mem_cons.1 hx with rfl | hx
          · exact hv
          · exact ih _ _ hm x hx
        · cases hm
    have hneg : ∀ x ∈ c, 0 ≤ x ∧ negM x ∈ litsM M := fun x hx => ⟨h0 x hx, valOf_two (hall c 0 lv h x hx) (h0 x hx)⟩
    refine ⟨hneg, ord_len ?_ fun x hx => ?_⟩
    · have : c = makeM c := by unfold isC at hc; exact eq_of_beq hc
      rw [this]
      exact makeM_ord _
    · have h1 := hneg x hx
      have h2 := lits_range hM h1.2
      have h3 := negM_range h2.1 h2.2
      rw [negM_neg h1.1] at h3
      exact h3
  · cases h
end Go.Proofs.YtmbekchnfbmhbaaGreat

/- What is learnt is learnt of itself: on lists. -/
namespace Go.Proofs.YtmbekchnfbmhbaaGreat

/-- A trail on which the levels do not fall. -/
structure Sorted (M : Tr) : Prop where
  up : M.L.Pairwise fun p q => p.level ≤ q.level
  top : ∀ p ∈ M.L, p.level ≤ M.lv

theorem posOf_some {l : List Int} {x : Int} {k : Nat} (h : posOf l x = some k) : ∃ hk : k < l.length, l[k] = x := by
  unfold posOf at h
  rw [List.findIdx?_eq_some_iff_getElem] at h
  obtain ⟨hk, h1, _⟩ := h
  exact ⟨hk, by simpa using h1⟩
theorem find_at {M : Tr} (hM : M.Ok) {k : Nat} (hk : k < M.L.length) {nd : Int} (h : M.L[k].lit / 2 = nd) : find M.L nd = some M.L[k] := by
  unfold find
  rw [List.find?_eq_some_iff_getElem]
  refine ⟨by unfold isAt; simp [h], k, hk, rfl, fun j hj => ?_⟩
  have := (List.pairwise_iff_getElem.1 hM.nodup) j k (by omega) hk hj
  unfold isAt
  simp
  omega
theorem lits_at {M : Tr} {k : Nat} (hk : k < (litsM M).length) : (litsM M)[k] = (M.L[k]'(by rw [litsM_len] at hk; exact hk)).lit := by
  simp [litsM]
theorem negM_half {x : Int} : negM x / 2 = x / 2 := by
  unfold negM
  split <;> omega
theorem levOf_negM (M : Tr) (x : Int) : levOf M (negM x) = levOf M x := by
  unfold levOf
  rw [negM_half]
/-- A literal whose other one stands at k has its level from there. -/
theorem levOf_pos {M : Tr} (hM : M.Ok) {x : Int} {k : Nat} (h : posOf (litsM M) (negM x) = some k) : ∃ hk : k < M.L.length, levOf M x = M.L[k].level := by
  obtain ⟨hk, e⟩ := posOf_some h
  have hk' : k < M.L.length := by rw [litsM_len] at hk; exact hk
  rw [lits_at hk] at e
  refine ⟨hk', ?_⟩
  rw [← levOf_negM, ← e]
  unfold levOf levelOf
  rw [find_at hM hk' rfl]
theorem neg_val {M : Tr} (hM : M.Ok) {x : Int} (h : negM x ∈ litsM M) : valOf M.L x = 2 := by
  obtain ⟨k, hk, e⟩ := List.mem_iff_getElem.1 h
  have hk' : k < M.L.length := by rw [litsM_len] at hk; exact hk
  rw [lits_at hk] at e
  unfold valOf
  rw [find_at hM hk' (by rw [e, negM_half])]
  show valAt M.L[k] x = 2
  unfold valAt
  rw [if_neg]
  rw [e]
  unfold negM
  split <;> omega

theorem isC_make (l : List Int) : isC (makeM l) = true := by
  unfold isC
  have : makeM (makeM l) = makeM l := ord_ext (makeM_ord _) (makeM_ord _) fun x => by
    rw [mem_makeM]
    exact ⟨fun h => h.1, fun h => ⟨h, (mem_makeM.1 h).2⟩⟩
  rw [this]
  simp
theorem isC_ord {c : List Int} (h : isC c = true) : c.Pairwise (· < ·) := by
  have : c = makeM c := by unfold isC at h; exact eq_of_beq h
  rw [this]
  exact makeM_ord _
theorem cnt_one {M : Tr} {c : List Int} {lv : Int} (h : ∃ x ∈ c, levOf M x = lv) : 1 ≤ cntM M c lv := by
  obtain ⟨x, hx, e⟩ := h
  unfold cntM
  exact List.countP_pos_iff.2 ⟨x, hx, by simp [e]⟩
theorem cnt_ex {M : Tr} {c : List Int} {lv : Int} (h : 1 ≤ cntM M c lv) : ∃ x ∈ c, levOf M x = lv := by
  unfold cntM at h
  obtain ⟨x, hx, e⟩ := List.countP_pos_iff.1 (show 0 < _ from h)
  exact ⟨x, hx, by simpa using e⟩
/-- Of two that are of the level one is another than y. -/
theorem cnt_two {M : Tr} {c : List Int} {lv : Int} (hc : c.Pairwise (· < ·)) (h : 2 ≤ cntM M c lv) (y : Int) : ∃ x ∈ c, levOf M x = lv ∧ x ≠ y := by
  false_or_by_contra
  rename_i hn
  have h1 : ∀ x ∈ c, levOf M x = lv → x = y := fun x hx e => by
    false_or_by_contra
    rename_i h2
    exact hn ⟨x, hx, e, h2⟩
  unfold cntM at h
  rw [List.countP_eq_length_filter] at h
  have hp : (c.filter fun x => levOf M x == lv).Pairwise (· < ·) := hc.sublist List.filter_sublist
  have hm : ∀ x ∈ c.filter fun x => levOf M x == lv, x = y := fun x hx => by
    rw [List.mem_filter] at hx
    exact h1 x hx.1 (by simpa using hx.2)
  generalize c.filter (fun x => levOf M x == lv) = f at *
  match f, h, hp, hm with
  | a :: b :: r, _, hp, hm =>
    have e1 := hm a (by simp)
    have e2 := hm b (by simp)
    have := (List.pairwise_cons.1 hp).1 b (by simp)
    omega

/-- What holds of the clause with k literals ahead. -/
structure Inv (M : Tr) (lv : Int) (k : Nat) (c : List Int) : Prop where
  isC : isC c = true
  false_ : FalseC M c
  low : ∀ x ∈ c, levOf M x ≤ lv
  pos : ∀ x ∈ c, levOf M x = lv → ∃ j, posOf (litsM M) (negM x) = some j ∧ j < k
  one : 1 ≤ cntM M c lv

theorem resolves_is {M : Tr} {rows : List (List Int)} {kp : Nat} {put : Int} {c : List Int} {q : List Int × Int} (h : resolvesM M rows kp put c = some q) : ∃ cl, mayRes M kp put cl = true ∧ q.1 = resM cl c put := by
  unfold resolvesM at h
  split at h
  · cases h
  · split at h
    · cases h
    · rename_i cl _
      split at h
      · split at h
        · rename_i hm
          injection h with h
          exact ⟨cl, hm, by rw [← h]⟩
        · cases h
      · cases h
theorem mayRes_mem {M : Tr} {kp : Nat} {put x : Int} {cl : List Int} (h : mayRes M kp put cl = true) (hx : x ∈ cl) (hne : x ≠ put) : ∃ j, posOf (litsM M) (negM x) = some j ∧ j < kp := by
  unfold mayRes at h
  rw [Bool.and_eq_true, List.all_eq_true] at h
  have := h.1 x hx
  rw [Bool.or_eq_true] at this
  rcases this with h5 | h5
  · exact absurd (by simpa using h5) hne
  · unfold ahead at h5
    split at h5
    · rename_i k hk
      exact ⟨k, hk, by simpa using h5⟩
    · cases h5

theorem Inv.next {M : Tr} (hM : M.Ok) (hs : Sorted M) {lv : Int} {rows : List (List Int)} {k : Nat} {c : List Int} (h : Inv M lv (k + 1) c) (hk : k < (litsM M).length) (h2 : 2 ≤ cntM M c lv) {q : List Int × Int}
    (hlv : levOf M (litsM M)[k] = lv) (hr : resolvesM M rows k (litsM M)[k] c = some q) : Inv M lv k q.1 := by
  obtain ⟨cl, hm, hq⟩ := resolves_is hr
  have hn0 := (lits_range hM (List.getElem_mem hk)).1
  have hposk := posOf_at (lits_ne hM) hk
  have hfalse := h.false_.res hM hm
  rw [← hq] at hfalse
  have hin : ∀ x, x ∈ q.1 ↔ ((x ∈ cl ∧ x ≠ (litsM M)[k]) ∨ (x ∈ c ∧ x ≠ negM (litsM M)[k])) ∧ 0 ≤ x := fun x => by rw [hq]; exact mem_resM
  refine ⟨by rw [hq]; unfold resM; exact isC_make _, hfalse, ?_, ?_, ?_⟩
  · intro x hx
    rcases ((hin x).1 hx).1 with ⟨h3, h4⟩ | ⟨h3, _⟩
    · obtain ⟨j, hj, hjk⟩ := mayRes_mem hm h3 h4
      obtain ⟨hj1, hj2⟩ := levOf_pos hM hj
      have hk' : k < M.L.length := by rw [litsM_len] at hk; exact hk
      have hput : levOf M (litsM M)[k] = M.L[k].level := by
        obtain ⟨hk2, e⟩ := levOf_pos hM (x := negM (litsM M)[k]) (k := k) (by rw [negM_neg hn0]; exact hposk)
        rw [levOf_negM] at e
        exact e
      have := (List.pairwise_iff_getElem.1 hs.up) j k hj1 hk' hjk
      omega
    · exact h.low x h3
  · intro x hx hl
    rcases ((hin x).1 hx).1 with ⟨h3, h4⟩ | ⟨h3, h4⟩
    · exact mayRes_mem hm h3 h4
    · obtain ⟨j, hj, hjk⟩ := h.pos x h3 hl
      refine ⟨j, hj, ?_⟩
      rcases Nat.lt_or_ge j k with h5 | h5
      · exact h5
      · exfalso
        obtain rfl : j = k := by omega
        obtain ⟨_, e⟩ := posOf_some hj
        apply h4
        rw [e, negM_neg (h.false_.neg x h3).1]
  · obtain ⟨x, hx, hl, hne⟩ := cnt_two (isC_ord h.isC) h2 (negM (litsM M)[k])
    exact cnt_one ⟨x, (hin x).2 ⟨.inr ⟨hx, hne⟩, (h.false_.neg x hx).1⟩, hl⟩
theorem Inv.skip {M : Tr} {lv : Int} {k : Nat} {c : List Int} (h : Inv M lv (k + 1) c) (hk : k < (litsM M).length) (hn : ¬ (negM (litsM M)[k] ∈ c ∧ levOf M (litsM M)[k] = lv)) : Inv M lv k c := by
  refine ⟨h.isC, h.false_, h.low, fun x hx hl => ?_, h.one⟩
  obtain ⟨j, hj, hjk⟩ := h.pos x hx hl
  refine ⟨j, hj, ?_⟩
  rcases Nat.lt_or_ge j k with h5 | h5
  · exact h5
  · exfalso
    obtain rfl : j = k := by omega
    obtain ⟨_, e⟩ := posOf_some hj
    apply hn
    rw [e, negM_neg (h.false_.neg x hx).1, levOf_negM]
    exact ⟨hx, hl⟩
theorem goM_ends {M : Tr} (hM : M.Ok) (hs : Sorted M) {lv : Int} {rows : List (List Int)} : ∀ (k : Nat) (c ch : List Int) (r : List Int × List Int), k ≤ (litsM M).length → Inv M lv k c → goM M rows lv k c ch = some r → ∃ k', Inv M lv k' r.1 ∧ cntM M r.1 lv = 1
  | 0, c, ch, r, _, h, _ => by
    obtain ⟨x, hx, hl⟩ := cnt_ex h.one
    obtain ⟨j, _, hj⟩ := h.pos x hx hl
    omega
  | k + 1, c, ch, r, hk, h, hr => by
    rw [goM] at hr
    by_cases h1 : cntM M c lv = 1
    · rw [if_pos h1] at hr
      injection hr with hr
      subst hr
      exact ⟨_, h, h1⟩
    · have h2 : 2 ≤ cntM M c lv := by have := h.one; omega
      rw [if_neg h1, List.getElem?_eq_getElem (by omega : k < (litsM M).length)] at hr
      simp only at hr
      split at hr
      · rename_i hc
        rw [Bool.and_eq_true, decide_eq_true_iff, beq_iff_eq] at hc
        split at hr
        · cases hr
        · rename_i q hq
          exact goM_ends hM hs k _ _ r (by omega) (h.next hM hs (by omega) h2 hc.2 hq) hr
      · rename_i hc
        rw [Bool.and_eq_true, decide_eq_true_iff, beq_iff_eq] at hc
        exact goM_ends hM hs k _ _ r (by omega) (h.skip (by omega) hc) hr

theorem levelGo_is {M : Tr} {lv : Int} : ∀ (c : List Int) (n : Int), n ≤ lv → (∀ x ∈ c, valOf M.L x = 2 ∧ levOf M x ≤ lv) → (n = lv ∨ ∃ x ∈ c, levOf M x = lv) → levelGo M c n = some lv
  | [], n, _, _, h => by
    rcases h with rfl | ⟨x, hx, _⟩
    · rfl
    · cases hx
  | x :: r, n, hn, hv, h => by
    have h1 := hv x (by simp)
    rw [levelGo, if_pos h1.1]
    refine levelGo_is r _ (by omega) (fun y hy => hv y (by simp [hy])) ?_
    rcases h with rfl | ⟨y, hy, e⟩
    · exact .inl (by omega)
    · rcases List.mem_cons.1 hy with rfl | hy
      · exact .inl (by omega)
      · exact .inr ⟨y, hy, e⟩
theorem levelGo_all {M : Tr} : ∀ (c : List Int) (n lv : Int), levelGo M c n = some lv → n ≤ lv ∧ (∀ x ∈ c, valOf M.L x = 2 ∧ levOf M x ≤ lv) ∧ (n = lv ∨ ∃ x ∈ c, levOf M x = lv)
  | [], n, lv, h => by
    injection h with h
    exact ⟨by omega, (fun x hx => by cases hx), .inl h⟩
  | x :: r, n, lv, h => by
    rw [levelGo] at h
    split at h
    · rename_i hv
      obtain ⟨h1, h2, h3⟩ := levelGo_all r _ lv h
      refine ⟨by omega, fun y hy => ?_, ?_⟩
      · rcases List.mem_cons.1 hy with rfl | hy
        · exact ⟨hv, by omega⟩
        · exact h2 y hy
      · rcases h3 with h3 | ⟨y, hy, e⟩
        · rcases Int.le_total n (levOf M x) with h4 | h4
          · exact .inr ⟨x, by simp, by omega⟩
          · exact .inl (by omega)
        · exact .inr ⟨y, by simp [hy], e⟩
    · cases h
theorem learn_again {M : Tr} (hM : M.Ok) (hs : Sorted M) {rows : List (List Int)} {c p ch : List Int} {b : Int} (h : learnM M rows c = some (p, b, ch)) : learnM M rows p = some (p, b, []) := by
  unfold learnM at h
  cases hl : levelM M c with
  | none => rw [hl] at h; cases h
  | some lv =>
    rw [hl] at h
    simp only at h
    by_cases h0 : lv = 0
    · rw [if_pos h0] at h
      injection h with h
      injection h with h1 h2
      injection h2 with h2 h3
      subst h1 h2
      have : levelM M [] = some 0 := by
        unfold levelM
        rw [if_pos (by have := isC_make []; rwa [show makeM [] = [] from ord_ext (makeM_ord _) List.Pairwise.nil (fun x => by rw [mem_makeM]; simp)] at this)]
        rfl
      unfold learnM
      rw [this]
      rfl
    · rw [if_neg h0] at h
      have hfc := FalseC.of_level hM hl
      have hlv := hl
      unfold levelM at hlv
      split at hlv
      case isFalse => cases hlv
      rename_i hic
      obtain ⟨h1, h2, h3⟩ := levelGo_all c 0 lv hlv
      have hex : ∃ x ∈ c, levOf M x = lv := h3.resolve_left (fun e => h0 e.symm)
      have hinv : Inv M lv (litsM M).length c := by
        refine ⟨hic, hfc, fun x hx => (h2 x hx).2, fun x hx _ => ?_, cnt_one hex⟩
        obtain ⟨k, hk, e⟩ := List.mem_iff_getElem.1 (hfc.neg x hx).2
        exact ⟨k, by rw [← e]; exact posOf_at (lits_ne hM) hk, hk⟩
      cases hg : goM M rows lv M.L.length c [] with
      | none => rw [hg] at h; cases h
      | some r =>
        rw [hg] at h
        simp only at h
        injection h with h
        injection h with e1 e2
        injection e2 with e2 e3
        obtain ⟨k', hi, hc1⟩ := goM_ends hM hs M.L.length c [] r (by rw [litsM_len]; exact Nat.le_refl _) (by rw [← litsM_len]; exact hinv) hg
        rw [e1] at hi hc1 e2
        have hlp : levelM M p = some lv := by
          unfold levelM
          rw [if_pos hi.isC]
          exact levelGo_is p 0 h1 (fun x hx => ⟨neg_val hM (hi.false_.neg x hx).2, hi.low x hx⟩) (.inr (cnt_ex hi.one))
        have hgp : goM M rows lv M.L.length p [] = some (p, []) := by
          cases M.L.length with
          | zero => rfl
          | succ n => rw [goM, if_pos hc1]
        unfold learnM
        rw [hlp]
        simp only
        rw [if_neg h0, hgp]
        simp only
        rw [e2]

theorem Sorted.new (n : Nat) : Sorted ⟨n, [], 0⟩ := ⟨List.Pairwise.nil, fun p hp => by cases hp⟩
theorem Sorted.put {M : Tr} (h : Sorted M) (lit reason : Int) : Sorted (putM M lit reason) := by
  unfold putM
  split
  · exact h
  · split
    · exact h
    · refine ⟨?_, ?_⟩
      · show (M.L ++ [_]).Pairwise _
        rw [List.pairwise_append]
        exact ⟨h.up, by simp, fun p hp q hq => by rw [List.mem_singleton.1 hq]; exact h.top p hp⟩
      · intro p hp
        rcases List.mem_append.1 (show p ∈ M.L ++ [_] from hp) with hp | hp
        · exact h.top p hp
        · rw [List.mem_singleton.1 hp]
          exact Int.le_refl _
theorem Sorted.begin_ {M : Tr} (h : Sorted M) : Sorted (beginM M) := by
  unfold beginM
  split
  · exact h
  · exact ⟨h.up, fun p hp => by have := h.top p hp; show p.level ≤ ((M.lv + 1 : Nat) : Int); omega⟩
end Go.Proofs.YtmbekchnfbmhbaaGreat

/- What is learnt follows by units: on lists, over a set that is closed. -/
namespace Go.Proofs.YtmbekchnfbmhbaaGreat

/-- A set of literals in which no clause is false, and no clause has its last literal open. -/
structure Shut21 (rows : List (List Int)) (T : Int → Prop) : Prop where
  notFalse : ∀ cl ∈ rows, isC cl = true → ¬ ∀ x ∈ cl, T (negM x)
  unit : ∀ cl ∈ rows, isC cl = true → ∀ x ∈ cl, (∀ y ∈ cl, y ≠ x → T (negM y)) → T x

theorem resolves_row {M : Tr} {rows : List (List Int)} {kp : Nat} {put : Int} {c : List Int} {q : List Int × Int} (h : resolvesM M rows kp put c = some q) : ∃ cl ∈ rows, isC cl = true ∧ mayRes M kp put cl = true ∧ q.1 = resM cl c put := by
  unfold resolvesM at h
  split at h
  · cases h
  · split at h
    · cases h
    · rename_i cl hcl
      split at h
      · rename_i hc
        split at h
        · rename_i hm
          injection h with h
          exact ⟨cl, List.mem_of_getElem? hcl, hc, hm, by rw [← h]⟩
        · cases h
      · cases h
theorem goM_shut {M : Tr} {rows : List (List Int)} {lv : Int} {T : Int → Prop} (hT : Shut21 rows T) : ∀ (k : Nat) (c ch : List Int) (r : List Int × List Int), (∀ x ∈ c, 0 ≤ x) → goM M rows lv k c ch = some r → (∀ x ∈ r.1, T (negM x)) → ∀ x ∈ c, T (negM x)
  | 0, c, ch, r, _, h, hr => by
    injection h with h
    rw [← h] at hr
    exact hr
  | k + 1, c, ch, r, h0, h, hr => by
    rw [goM] at h
    by_cases h1 : cntM M c lv = 1
    · rw [if_pos h1] at h
      injection h with h
      rw [← h] at hr
      exact hr
    · rw [if_neg h1] at h
      split at h
      · injection h with h
        rw [← h] at hr
        exact hr
      · rename_i put _
        split at h
        · rename_i hc
          rw [Bool.and_eq_true, decide_eq_true_iff] at hc
          split at h
          · cases h
          · rename_i q hq
            obtain ⟨cl, hcl, hic, hm, hq1⟩ := resolves_row hq
            have hnn : ∀ x ∈ q.1, 0 ≤ x := fun x hx => by rw [hq1] at hx; exact (mem_resM.1 hx).2
            have ih := goM_shut hT k q.1 _ r hnn h hr
            have hcn := isC_nonneg hic
            have hput : put ∈ cl := by
              unfold mayRes at hm
              rw [Bool.and_eq_true, decide_eq_true_iff] at hm
              exact hm.2
            have hTp : T put := hT.unit cl hcl hic put hput fun y hy hne => ih y (by rw [hq1]; exact mem_resM.2 ⟨.inl ⟨hy, hne⟩, hcn y hy⟩)
            intro x hx
            by_cases e : x = negM put
            · rw [e, negM_neg (hcn put hput)]
              exact hTp
            · exact ih x (by rw [hq1]; exact mem_resM.2 ⟨.inr ⟨hx, e⟩, h0 x hx⟩)
        · exact goM_shut hT k c ch r h0 h hr
/-- Over a closed set what is learnt of a clause of the rows, at a level above 0, is not false. -/
theorem learn_shut {M : Tr} {rows : List (List Int)} {c p ch : List Int} {b lv : Int} {T : Int → Prop} (hT : Shut21 rows T) (hc : c ∈ rows) (hl : levelM M c = some lv) (h0 : lv ≠ 0) (h : learnM M rows c = some (p, b, ch)) : ¬ ∀ x ∈ p, T (negM x) := by
  intro hp
  have hic : isC c = true := by
    unfold levelM at hl
    split at hl
    · assumption
    · cases hl
  unfold learnM at h
  rw [hl] at h
  simp only at h
  rw [if_neg h0] at h
  cases hg : goM M rows lv M.L.length c [] with
  | none => rw [hg] at h; cases h
  | some r =>
    rw [hg] at h
    simp only at h
    injection h with h
    injection h with e1 e2
    exact hT.notFalse c hc hic (goM_shut hT _ _ _ r (isC_nonneg hic) hg (by rw [e1]; exact hp))
end Go.Proofs.YtmbekchnfbmhbaaGreat

/- Learning never fails where each put has its reason; a conflict of level 0 is one of the clauses alone. -/
namespace Go.Proofs.YtmbekchnfbmhbaaGreat

/-- Each put has a reason among the clauses, or is the first of a level above 0. -/
structure Reasons (M : Tr) (rows : List (List Int)) : Prop where
  why : ∀ (k : Nat) (hk : k < M.L.length), 0 ≤ M.L[k].reason → ∃ cl, rows[M.L[k].reason.toNat]? = some cl ∧ isC cl = true ∧ mayRes M k M.L[k].lit cl = true
  first : ∀ (k : Nat) (hk : k < M.L.length), M.L[k].reason < 0 → 1 ≤ M.L[k].level ∧ ∀ (j : Nat) (hj : j < k), (M.L[j]'(by omega)).level < M.L[k].level

theorem reason_at {M : Tr} (hM : M.Ok) {k : Nat} (hk : k < M.L.length) : reasonOf M.L (M.L[k].lit / 2) = M.L[k].reason := by
  unfold reasonOf
  rw [find_at hM hk rfl]
theorem lev_at {M : Tr} (hM : M.Ok) {k : Nat} (hk : k < M.L.length) : levOf M M.L[k].lit = M.L[k].level := by
  unfold levOf levelOf
  rw [find_at hM hk rfl]
theorem goM_works {M : Tr} (hM : M.Ok) (hs : Sorted M) {rows : List (List Int)} (hr : Reasons M rows) {lv : Int} : ∀ (k : Nat) (c ch : List Int), k ≤ (litsM M).length → Inv M lv k c → goM M rows lv k c ch ≠ none
  | 0, c, ch, _, _ => by
    rw [goM]
    simp
  | k + 1, c, ch, hk, h => by
    rw [goM]
    by_cases h1 : cntM M c lv = 1
    · rw [if_pos h1]
      simp
    · have h2 : 2 ≤ cntM M c lv := by have := h.one; omega
      have hk' : k < M.L.length := by rw [litsM_len] at hk; omega
      have hkl : k < (litsM M).length := by omega
      rw [if_neg h1, List.getElem?_eq_getElem hkl]
      simp only
      split
      · rename_i hc
        rw [Bool.and_eq_true, decide_eq_true_iff, beq_iff_eq] at hc
        have hlit := lits_at hkl
        have hre : 0 ≤ M.L[k].reason := by
          false_or_by_contra
          rename_i hneg
          have hf := (hr.first k hk' (by omega)).2
          obtain ⟨x, hx, hl, hne⟩ := cnt_two (isC_ord h.isC) h2 (negM (litsM M)[k])
          obtain ⟨j, hj, hjk⟩ := h.pos x hx hl
          have hjne : j ≠ k := by
            rintro rfl
            obtain ⟨_, e⟩ := posOf_some hj
            apply hne
            rw [e, negM_neg (h.false_.neg x hx).1]
          obtain ⟨hj1, hj2⟩ := levOf_pos hM hj
          have := hf j (by omega)
          have h3 : levOf M (litsM M)[k] = M.L[k].level := by rw [hlit]; exact lev_at hM hk'
          rw [hl] at hj2
          rw [hc.2] at h3
          omega
        obtain ⟨cl, hcl, hic, hm⟩ := hr.why k hk' hre
        have hres : resolvesM M rows k (litsM M)[k] c = some (resM cl c (litsM M)[k], M.L[k].reason) := by
          unfold resolvesM
          rw [hlit, reason_at hM hk', if_neg (by omega), hcl]
          simp only
          rw [if_pos hic, if_pos hm]
        rw [hres]
        simp only
        exact goM_works hM hs hr k _ _ (by omega) (h.next hM hs hkl h2 hc.2 hres)
      · rename_i hc
        rw [Bool.and_eq_true, decide_eq_true_iff, beq_iff_eq] at hc
        exact goM_works hM hs hr k _ _ (by omega) (h.skip hkl hc)

/-- What is put at level 0 is in each closed set. -/
theorem zero_shut {M : Tr} (hM : M.Ok) (hs : Sorted M) {rows : List (List Int)} (hr : Reasons M rows) {T : Int → Prop} (hT : Shut21 rows T) : ∀ (k : Nat) (hk : k < M.L.length), M.L[k].level = 0 → T M.L[k].lit
  | k, hk, h0 => by
    have hre : 0 ≤ M.L[k].reason := by
      false_or_by_contra
      have := (hr.first k hk (by omega)).1
      omega
    obtain ⟨cl, hcl, hic, hm⟩ := hr.why k hk hre
    have hput : M.L[k].lit ∈ cl := by
      unfold mayRes at hm
      rw [Bool.and_eq_true, decide_eq_true_iff] at hm
      exact hm.2
    refine hT.unit cl (List.mem_of_getElem? hcl) hic _ hput fun y hy hne => ?_
    obtain ⟨j, hj, hjk⟩ := mayRes_mem hm hy hne
    obtain ⟨hj1, e⟩ := posOf_some hj
    have hj2 : j < M.L.length := by omega
    rw [← e, lits_at hj1]
    have hup := (List.pairwise_iff_getElem.1 hs.up) j k hj2 hk hjk
    have hlo := (hM.level M.L[j] (List.getElem_mem hj2)).1
    exact zero_shut hM hs hr hT j hj2 (by omega)
/-- A clause that is false at level 0 is false in no closed set; so there is none. -/
theorem zero_none {M : Tr} (hM : M.Ok) (hs : Sorted M) {rows : List (List Int)} (hr : Reasons M rows) {T : Int → Prop} (hT : Shut21 rows T) {c : List Int} (hc : c ∈ rows) (hl : levelM M c = some 0) : False := by
  have hf := FalseC.of_level hM hl
  unfold levelM at hl
  split at hl
  case isFalse => cases hl
  rename_i hic
  obtain ⟨_, h2, _⟩ := levelGo_all c 0 0 hl
  refine hT.notFalse c hc hic fun x hx => ?_
  obtain ⟨k, hk, e⟩ := List.mem_iff_getElem.1 (hf.neg x hx).2
  have hk' : k < M.L.length := by rw [litsM_len] at hk; exact hk
  rw [lits_at hk] at e
  have hlv : M.L[k].level = 0 := by
    have h3 := (h2 x hx).2
    rw [← levOf_negM, ← e, lev_at hM hk'] at h3
    have := (hM.level M.L[k] (List.getElem_mem hk')).1
    omega
  rw [← e]
  exact zero_shut hM hs hr hT k hk' hlv
end Go.Proofs.YtmbekchnfbmhbaaGreat

/- What a learnt clause is, for the search. -/
namespace Go.Proofs.YtmbekchnfbmhbaaGreat

theorem backGo_spec {M : Tr} {lv : Int} : ∀ (c : List Int) (n : Int), n ≤ backGo M lv c n ∧ (∀ x ∈ c, levOf M x < lv → levOf M x ≤ backGo M lv c n) ∧ (backGo M lv c n = n ∨ ∃ x ∈ c, levOf M x < lv ∧ levOf M x = backGo M lv c n)
  | [], n => ⟨Int.le_refl _, (fun x hx => by cases hx), .inl rfl⟩
  | x :: r, n => by
    rw [backGo]
    obtain ⟨h1, h2, h3⟩ := backGo_spec (M := M) (lv := lv) r (if levOf M x < lv then max n (levOf M x) else n)
    by_cases hx : levOf M x < lv
    · rw [if_pos hx] at h1 h2 h3 ⊢
      refine ⟨by omega, fun y hy hl => ?_, ?_⟩
      · rcases List.mem_cons.1 hy with rfl | hy
        · omega
        · exact h2 y hy hl
      · rcases h3 with h3 | ⟨y, hy, hl, e⟩
        · rcases Int.le_total n (levOf M x) with h4 | h4
          · exact .inr ⟨x, by simp, hx, by omega⟩
          · exact .inl (by omega)
        · exact .inr ⟨y, by simp [hy], hl, e⟩
    · rw [if_neg hx] at h1 h2 h3 ⊢
      refine ⟨h1, fun y hy hl => ?_, ?_⟩
      · rcases List.mem_cons.1 hy with rfl | hy
        · exact absurd hl hx
        · exact h2 y hy hl
      · rcases h3 with h3 | ⟨y, hy, hl, e⟩
        · exact .inl h3
        · exact .inr ⟨y, by simp [hy], hl, e⟩

/-- A learnt clause, of a conflict of level lv. -/
structure Learnt (M : Tr) (lv : Int) (p : List Int) (b : Int) : Prop where
  isC : isC p = true
  false_ : FalseC M p
  low : ∀ x ∈ p, levOf M x ≤ lv
  one : cntM M p lv = 1
  back : 0 ≤ b ∧ b < lv
  rest : ∀ x ∈ p, levOf M x < lv → levOf M x ≤ b
  at_ : b = 0 ∨ ∃ x ∈ p, levOf M x = b

theorem start_inv {M : Tr} (hM : M.Ok) {c : List Int} {lv : Int} (hl : levelM M c = some lv) (h0 : lv ≠ 0) : Inv M lv (litsM M).length c ∧ 0 < lv := by
  have hfc := FalseC.of_level hM hl
  unfold levelM at hl
  split at hl
  case isFalse => cases hl
  rename_i hic
  obtain ⟨h1, h2, h3⟩ := levelGo_all c 0 lv hl
  refine ⟨⟨hic, hfc, fun x hx => (h2 x hx).2, fun x hx _ => ?_, cnt_one (h3.resolve_left (fun e => h0 e.symm))⟩, by omega⟩
  obtain ⟨k, hk, e⟩ := List.mem_iff_getElem.1 (hfc.neg x hx).2
  exact ⟨k, by rw [← e]; exact posOf_at (lits_ne hM) hk, hk⟩
/-- Learning tells a clause, of a conflict of a level above 0. -/
theorem learn_some {M : Tr} (hM : M.Ok) (hs : Sorted M) {rows : List (List Int)} (hr : Reasons M rows) {c : List Int} {lv : Int} (hl : levelM M c = some lv) (h0 : lv ≠ 0) : ∃ p b ch, learnM M rows c = some (p, b, ch) ∧ Learnt M lv p b := by
  obtain ⟨hi, hlv⟩ := start_inv hM hl h0
  have hn := goM_works hM hs hr (litsM M).length c [] (Nat.le_refl _) hi
  rw [litsM_len] at hn hi
  cases hg : goM M rows lv M.L.length c [] with
  | none => exact absurd hg hn
  | some r =>
    obtain ⟨k, h1, h2⟩ := goM_ends hM hs M.L.length c [] r (by rw [litsM_len]; exact Nat.le_refl _) hi hg
    refine ⟨r.1, backN M r.1 lv, r.2, ?_, h1.isC, h1.false_, h1.low, h2, ?_, ?_, ?_⟩
    · unfold learnM
      rw [hl]
      simp only
      rw [if_neg h0, hg]
    · obtain ⟨g1, _, g3⟩ := backGo_spec (M := M) (lv := lv) r.1 0
      refine ⟨g1, ?_⟩
      show backGo M lv r.1 0 < lv
      rcases g3 with g3 | ⟨x, _, hx, e⟩ <;> omega
    · exact (backGo_spec (M := M) (lv := lv) r.1 0).2.1
    · rcases (backGo_spec (M := M) (lv := lv) r.1 0).2.2 with g3 | ⟨x, hx, _, e⟩
      · exact .inl g3
      · exact .inr ⟨x, hx, e⟩
end Go.Proofs.YtmbekchnfbmhbaaGreat

/- The trail's reasons, kept by what the search does. -/
namespace Go.Proofs.YtmbekchnfbmhbaaGreat

theorem posOf_left {l m : List Int} {x : Int} {k : Nat} (h : posOf l x = some k) : posOf (l ++ m) x = some k := by
  unfold posOf at h ⊢
  rw [List.findIdx?_append, h]
  rfl
theorem posOf_take {l : List Int} {x : Int} {k m : Nat} (h : posOf l x = some k) (hk : k < m) : posOf (l.take m) x = some k := by
  unfold posOf at h ⊢
  rw [List.findIdx?_eq_some_iff_getElem] at h ⊢
  obtain ⟨h1, h2, h3⟩ := h
  refine ⟨by rw [List.length_take]; omega, by rw [List.getElem_take]; exact h2, fun j hj => ?_⟩
  rw [List.getElem_take]
  exact h3 j hj
theorem mayRes_of {M : Tr} {k : Nat} {put : Int} {cl : List Int} (h : put ∈ cl) (ho : ∀ x ∈ cl, x ≠ put → ∃ j, posOf (litsM M) (negM x) = some j ∧ j < k) : mayRes M k put cl = true := by
  unfold mayRes
  rw [Bool.and_eq_true, List.all_eq_true, decide_eq_true_iff]
  refine ⟨fun x hx => ?_, h⟩
  by_cases e : x = put
  · simp [e]
  · obtain ⟨j, hj, hjk⟩ := ho x hx e
    have : ahead M k x = true := by
      unfold ahead
      rw [hj]
      exact decide_eq_true hjk
    rw [this]
    simp
theorem mayRes_put {M : Tr} {k : Nat} {put : Int} {cl : List Int} (h : mayRes M k put cl = true) : put ∈ cl := by
  unfold mayRes at h
  rw [Bool.and_eq_true, decide_eq_true_iff] at h
  exact h.2

/-- A unit clause's literal is put. -/
theorem Reasons.unit {M : Tr} {rows : List (List Int)} (h : Reasons M rows) {lit : Int} {r : Nat} {cl : List Int} (hcl : rows[r]? = some cl) (hic : isC cl = true) (hin : lit ∈ cl) (ho : ∀ y ∈ cl, y ≠ lit → negM y ∈ litsM M) :
    Reasons ⟨M.n, M.L ++ [⟨lit, M.lv, (r : Int)⟩], M.lv⟩ rows := by
  have hl : litsM ⟨M.n, M.L ++ [⟨lit, M.lv, (r : Int)⟩], M.lv⟩ = litsM M ++ [lit] := by simp [litsM]
  refine ⟨fun k hk hre => ?_, fun k hk hre => ?_⟩
  · rcases Nat.lt_or_ge k M.L.length with h1 | h1
    · have e : (M.L ++ [(⟨lit, M.lv, (r : Int)⟩ : Pt)])[k]'hk = M.L[k] := List.getElem_append_left h1
      simp only [e] at hre ⊢
      obtain ⟨c2, g1, g2, g3⟩ := h.why k h1 hre
      refine ⟨c2, g1, g2, mayRes_of (mayRes_put g3) fun x hx hne => ?_⟩
      obtain ⟨j, hj, hjk⟩ := mayRes_mem g3 hx hne
      exact ⟨j, by rw [hl]; exact posOf_left hj, hjk⟩
    · have hkl : k = M.L.length := by
        have : k < (M.L ++ [(⟨lit, M.lv, (r : Int)⟩ : Pt)]).length := hk
        rw [List.length_append, List.length_singleton] at this
        omega
      subst hkl
      have e : (M.L ++ [(⟨lit, M.lv, (r : Int)⟩ : Pt)])[M.L.length]'hk = ⟨lit, M.lv, (r : Int)⟩ := by simp
      simp only [e] at hre ⊢
      refine ⟨cl, by simpa using hcl, hic, mayRes_of hin fun x hx hne => ?_⟩
      obtain ⟨j, hj, e2⟩ := List.mem_iff_getElem.1 (ho x hx hne)
      cases hp : posOf (litsM M) (negM x) with
      | none =>
        exfalso
        unfold posOf at hp
        rw [List.findIdx?_eq_none_iff] at hp
        have := hp _ (ho x hx hne)
        simp at this
      | some q =>
        obtain ⟨hq, _⟩ := posOf_some hp
        exact ⟨q, by rw [hl]; exact posOf_left hp, by rw [litsM_len] at hq; exact hq⟩
  · rcases Nat.lt_or_ge k M.L.length with h1 | h1
    · have e : (M.L ++ [(⟨lit, M.lv, (r : Int)⟩ : Pt)])[k]'hk = M.L[k] := List.getElem_append_left h1
      simp only [e] at hre ⊢
      refine ⟨(h.first k h1 hre).1, fun j hj => ?_⟩
      have e2 : (M.L ++ [(⟨lit, M.lv, (r : Int)⟩ : Pt)])[j]'(Nat.lt_trans hj hk) = M.L[j] := List.getElem_append_left (by omega)
      rw [e2]
      exact (h.first k h1 hre).2 j hj
    · have hkl : k = M.L.length := by
        have : k < (M.L ++ [(⟨lit, M.lv, (r : Int)⟩ : Pt)]).length := hk
        rw [List.length_append, List.length_singleton] at this
        omega
      subst hkl
      have e : (M.L ++ [(⟨lit, M.lv, (r : Int)⟩ : Pt)])[M.L.length]'hk = ⟨lit, M.lv, (r : Int)⟩ := by simp
      simp only [e] at hre
      omega
/-- A literal of its own choice, at a level of its own. -/
theorem Reasons.decide {M : Tr} {rows : List (List Int)} (h : Reasons M rows) (hs : Sorted M) (lit : Int) : Reasons ⟨M.n, M.L ++ [⟨lit, ((M.lv + 1 : Nat) : Int), -1⟩], M.lv + 1⟩ rows := by
  have hl : litsM ⟨M.n, M.L ++ [⟨lit, ((M.lv + 1 : Nat) : Int), -1⟩], M.lv + 1⟩ = litsM M ++ [lit] := by simp [litsM]
  refine ⟨fun k hk hre => ?_, fun k hk hre => ?_⟩
  · rcases Nat.lt_or_ge k M.L.length with h1 | h1
    · have e : (M.L ++ [(⟨lit, ((M.lv + 1 : Nat) : Int), -1⟩ : Pt)])[k]'hk = M.L[k] := List.getElem_append_left h1
      simp only [e] at hre ⊢
      obtain ⟨c2, g1, g2, g3⟩ := h.why k h1 hre
      refine ⟨c2, g1, g2, mayRes_of (mayRes_put g3) fun x hx hne => ?_⟩
      obtain ⟨j, hj, hjk⟩ := mayRes_mem g3 hx hne
      exact ⟨j, by rw [hl]; exact posOf_left hj, hjk⟩
    · have hkl : k = M.L.length := by
        have : k < (M.L ++ [(⟨lit, ((M.lv + 1 : Nat) : Int), -1⟩ : Pt)]).length := hk
        rw [List.length_append, List.length_singleton] at this
        omega
      subst hkl
      have e : (M.L ++ [(⟨lit, ((M.lv + 1 : Nat) : Int), -1⟩ : Pt)])[M.L.length]'hk = ⟨lit, ((M.lv + 1 : Nat) : Int), -1⟩ := by simp
      simp only [e] at hre
      omega
  · rcases Nat.lt_or_ge k M.L.length with h1 | h1
    · have e : (M.L ++ [(⟨lit, ((M.lv + 1 : Nat) : Int), -1⟩ : Pt)])[k]'hk = M.L[k] := List.getElem_append_left h1
      simp only [e] at hre ⊢
      refine ⟨(h.first k h1 hre).1, fun j hj => ?_⟩
      have e2 : (M.L ++ [(⟨lit, ((M.lv + 1 : Nat) : Int), -1⟩ : Pt)])[j]'(Nat.lt_trans hj hk) = M.L[j] := List.getElem_append_left (by omega)
      rw [e2]
      exact (h.first k h1 hre).2 j hj
    · have hkl : k = M.L.length := by
        have : k < (M.L ++ [(⟨lit, ((M.lv + 1 : Nat) : Int), -1⟩ : Pt)]).length := hk
        rw [List.length_append, List.length_singleton] at this
        omega
      subst hkl
      have e : (M.L ++ [(⟨lit, ((M.lv + 1 : Nat) : Int), -1⟩ : Pt)])[M.L.length]'hk = ⟨lit, ((M.lv + 1 : Nat) : Int), -1⟩ := by simp
      simp only [e]
      refine ⟨by omega, fun j hj => ?_⟩
      have e2 : (M.L ++ [(⟨lit, ((M.lv + 1 : Nat) : Int), -1⟩ : Pt)])[j]'(Nat.lt_trans hj hk) = M.L[j] := List.getElem_append_left (by omega)
      rw [e2]
      have := hs.top M.L[j] (List.getElem_mem _)
      omega
/-- What is left behind Back. -/
theorem Reasons.take {M : Tr} {rows : List (List Int)} (h : Reasons M rows) (m lv : Nat) : Reasons ⟨M.n, M.L.take m, lv⟩ rows := by
  have hl : litsM ⟨M.n, M.L.take m, lv⟩ = (litsM M).take m := by simp [litsM, List.map_take]
  refine ⟨fun k hk hre => ?_, fun k hk hre => ?_⟩
  · have hk2 : k < (M.L.take m).length := hk
    rw [List.length_take] at hk2
    have e : (M.L.take m)[k]'hk = M.L[k]'(by omega) := List.getElem_take
    simp only [e] at hre ⊢
    obtain ⟨c2, g1, g2, g3⟩ := h.why k (by omega) hre
    refine ⟨c2, g1, g2, mayRes_of (mayRes_put g3) fun x hx hne => ?_⟩
    obtain ⟨j, hj, hjk⟩ := mayRes_mem g3 hx hne
    exact ⟨j, by rw [hl]; exact posOf_take hj (by omega), hjk⟩
  · have hk2 : k < (M.L.take m).length := hk
    rw [List.length_take] at hk2
    have e : (M.L.take m)[k]'hk = M.L[k]'(by omega) := List.getElem_take
    simp only [e] at hre ⊢
    refine ⟨(h.first k (by omega) hre).1, fun j hj => ?_⟩
    have e2 : (M.L.take m)[j]'(Nat.lt_trans hj hk) = M.L[j]'(by omega) := List.getElem_take
    rw [e2]
    exact (h.first k (by omega) hre).2 j hj
/-- More clauses behind. -/
theorem Reasons.more {M : Tr} {rows : List (List Int)} (h : Reasons M rows) (more : List (List Int)) : Reasons M (rows ++ more) :=
  ⟨fun k hk hre => by
    obtain ⟨cl, g1, g2⟩ := h.why k hk hre
    refine ⟨cl, ?_, g2⟩
    obtain ⟨hi, e⟩ := List.getElem?_eq_some_iff.1 g1
    rw [List.getElem?_append_left hi]
    exact g1, h.first⟩
end Go.Proofs.YtmbekchnfbmhbaaGreat

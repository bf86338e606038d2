/- What is learnt is learnt of itself: on lists. -/
import Derived.Test.YtnfeggeahnjdeaaLrnJ
namespace Go.Proofs.Ytnfeggeahnjdeaa

/-- A trail on which the levels do not fall. -/
structure Sorted (M : Tr) : Prop where
  up : M.L.Pairwise fun p q => p.level ≤ q.level
  top : ∀ p ∈ M.L, p.level ≤ M.lv

theorem posOf_some {l : List Int} {x : Int} {k : Nat} (h : posOf l x = some k) : ∃ hk : k < l.length, l[k] = x := by
  unfold posOf at h
  rw [List.findIdx?_eq_some_iff_getElem] at h
  obtain ⟨hk, h1, _⟩ := h
  exact ⟨hk, by simpa using h1⟩
theorem find_at {M : Tr} (hM : M.Ok) {k : Nat} (hk : k < M.L.length) {nd : Int} (h : M.L[k].lit / 2 = nd) : find M.L nd = some M.L[k] := by
  unfold find
  rw [List.find?_eq_some_iff_getElem]
  refine ⟨by unfold isAt; simp [h], k, hk, rfl, fun j hj => ?_⟩
  have := (List.pairwise_iff_getElem.1 hM.nodup) j k (by omega) hk hj
  unfold isAt
  simp
  omega
theorem lits_at {M : Tr} {k : Nat} (hk : k < (litsM M).length) : (litsM M)[k] = (M.L[k]'(by rw [litsM_len] at hk; exact hk)).lit := by
  simp [litsM]
theorem negM_half {x : Int} : negM x / 2 = x / 2 := by
  unfold negM
  split <;> omega
theorem levOf_negM (M : Tr) (x : Int) : levOf M (negM x) = levOf M x := by
  unfold levOf
  rw [negM_half]
/-- A literal whose other one stands at k has its level from there. -/
theorem levOf_pos {M : Tr} (hM : M.Ok) {x : Int} {k : Nat} (h : posOf (litsM M) (negM x) = some k) : ∃ hk : k < M.L.length, levOf M x = M.L[k].level := by
  obtain ⟨hk, e⟩ := posOf_some h
  have hk' : k < M.L.length := by rw [litsM_len] at hk; exact hk
  rw [lits_at hk] at e
  refine ⟨hk', ?_⟩
  rw [← levOf_negM, ← e]
  unfold levOf levelOf
  rw [find_at hM hk' rfl]
theorem neg_val {M : Tr} (hM : M.Ok) {x : Int} (h : negM x ∈ litsM M) : valOf M.L x = 2 := by
  obtain ⟨k, hk, e⟩ := List.mem_iff_getElem.1 h
  have hk' : k < M.L.length := by rw [litsM_len] at hk; exact hk
  rw [lits_at hk] at e
  unfold valOf
  rw [find_at hM hk' (by rw [e, negM_half])]
  show valAt M.L[k] x = 2
  unfold valAt
  rw [if_neg]
  rw [e]
  unfold negM
  split <;> omega

theorem isC_make (l : List Int) : isC (makeM l) = true := by
  unfold isC
  have : makeM (makeM l) = makeM l := ord_ext (makeM_ord _) (makeM_ord _) fun x => by
    rw [mem_makeM]
    exact ⟨fun h => h.1, fun h => ⟨h, (mem_makeM.1 h).2⟩⟩
  rw [this]
  simp
theorem isC_ord {c : List Int} (h : isC c = true) : c.Pairwise (· < ·) := by
  have : c = makeM c := by unfold isC at h; exact eq_of_beq h
  rw [this]
  exact makeM_ord _
theorem cnt_one {M : Tr} {c : List Int} {lv : Int} (h : ∃ x ∈ c, levOf M x = lv) : 1 ≤ cntM M c lv := by
  obtain ⟨x, hx, e⟩ := h
  unfold cntM
  exact List.countP_pos_iff.2 ⟨x, hx, by simp [e]⟩
theorem cnt_ex {M : Tr} {c : List Int} {lv : Int} (h : 1 ≤ cntM M c lv) : ∃ x ∈ c, levOf M x = lv := by
  unfold cntM at h
  obtain ⟨x, hx, e⟩ := List.countP_pos_iff.1 (show 0 < _ from h)
  exact ⟨x, hx, by simpa using e⟩
/-- Of two that are of the level one is another than y. -/
theorem cnt_two {M : Tr} {c : List Int} {lv : Int} (hc : c.Pairwise (· < ·)) (h : 2 ≤ cntM M c lv) (y : Int) : ∃ x ∈ c, levOf M x = lv ∧ x ≠ y := by
  false_or_by_contra
  rename_i hn
  have h1 : ∀ x ∈ c, levOf M x = lv → x = y := fun x hx e => by
    false_or_by_contra
    rename_i h2
    exact hn ⟨x, hx, e, h2⟩
  unfold cntM at h
  rw [List.countP_eq_length_filter] at h
  have hp : (c.filter fun x => levOf M x == lv).Pairwise (· < ·) := hc.sublist List.filter_sublist
  have hm : ∀ x ∈ c.filter fun x => levOf M x == lv, x = y := fun x hx => by
    rw [List.mem_filter] at hx
    exact h1 x hx.1 (by simpa using hx.2)
  generalize c.filter (fun x => levOf M x == lv) = f at *
  match f, h, hp, hm with
  | a :: b :: r, _, hp, hm =>
    have e1 := hm a (by simp)
    have e2 := hm b (by simp)
    have := (List.pairwise_cons.1 hp).1 b (by simp)
    omega

/-- What holds of the clause with k literals ahead. -/
structure Inv (M : Tr) (lv : Int) (k : Nat) (c : List Int) : Prop where
  isC : isC c = true
  false_ : FalseC M c
  low : ∀ x ∈ c, levOf M x ≤ lv
  pos : ∀ x ∈ c, levOf M x = lv → ∃ j, posOf (litsM M) (negM x) = some j ∧ j < k
  one : 1 ≤ cntM M c lv

theorem resolves_is {M : Tr} {rows : List (List Int)} {kp : Nat} {put : Int} {c : List Int} {q : List Int × Int} (h : resolvesM M rows kp put c = some q) : ∃ cl, mayRes M kp put cl = true ∧ q.1 = resM cl c put := by
  unfold resolvesM at h
  split at h
  · cases h
  · split at h
    · cases h
    · rename_i cl _
      split at h
      · split at h
        · rename_i hm
          injection h with h
          exact ⟨cl, hm, by rw [← h]⟩
        · cases h
      · cases h
theorem mayRes_mem {M : Tr} {kp : Nat} {put x : Int} {cl : List Int} (h : mayRes M kp put cl = true) (hx : x ∈ cl) (hne : x ≠ put) : ∃ j, posOf (litsM M) (negM x) = some j ∧ j < kp := by
  unfold mayRes at h
  rw [Bool.and_eq_true, List.all_eq_true] at h
  have := h.1 x hx
  rw [Bool.or_eq_true] at this
  rcases this with h5 | h5
  · exact absurd (by simpa using h5) hne
  · unfold ahead at h5
    split at h5
    · rename_i k hk
      exact ⟨k, hk, by simpa using h5⟩
    · cases h5

theorem Inv.next {M : Tr} (hM : M.Ok) (hs : Sorted M) {lv : Int} {rows : List (List Int)} {k : Nat} {c : List Int} (h : Inv M lv (k + 1) c) (hk : k < (litsM M).length) (h2 : 2 ≤ cntM M c lv) {q : List Int × Int}
    (hlv : levOf M (litsM M)[k] = lv) (hr : resolvesM M rows k (litsM M)[k] c = some q) : Inv M lv k q.1 := by
  obtain ⟨cl, hm, hq⟩ := resolves_is hr
  have hn0 := (lits_range hM (List.getElem_mem hk)).1
  have hposk := posOf_at (lits_ne hM) hk
  have hfalse := h.false_.res hM hm
  rw [← hq] at hfalse
  have hin : ∀ x, x ∈ q.1 ↔ ((x ∈ cl ∧ x ≠ (litsM M)[k]) ∨ (x ∈ c ∧ x ≠ negM (litsM M)[k])) ∧ 0 ≤ x := fun x => by rw [hq]; exact mem_resM
  refine ⟨by rw [hq]; unfold resM; exact isC_make _, hfalse, ?_, ?_, ?_⟩
  · intro x hx
    rcases ((hin x).1 hx).1 with ⟨h3, h4⟩ | ⟨h3, _⟩
    · obtain ⟨j, hj, hjk⟩ := mayRes_mem hm h3 h4
      obtain ⟨hj1, hj2⟩ := levOf_pos hM hj
      have hk' : k < M.L.length := by rw [litsM_len] at hk; exact hk
      have hput : levOf M (litsM M)[k] = M.L[k].level := by
        obtain ⟨hk2, e⟩ := levOf_pos hM (x := negM (litsM M)[k]) (k := k) (by rw [negM_neg hn0]; exact hposk)
        rw [levOf_negM] at e
        exact e
      have := (List.pairwise_iff_getElem.1 hs.up) j k hj1 hk' hjk
      omega
    · exact h.low x h3
  · intro x hx hl
    rcases ((hin x).1 hx).1 with ⟨h3, h4⟩ | ⟨h3, h4⟩
    · exact mayRes_mem hm h3 h4
    · obtain ⟨j, hj, hjk⟩ := h.pos x h3 hl
      refine ⟨j, hj, ?_⟩
      rcases Nat.lt_or_ge j k with h5 | h5
      · exact h5
      · exfalso
        obtain rfl : j = k := by omega
        obtain ⟨_, e⟩ := posOf_some hj
        apply h4
        rw [e, negM_neg (h.false_.neg x h3).1]
  · obtain ⟨x, hx, hl, hne⟩ := cnt_two (isC_ord h.isC) h2 (negM (litsM M)[k])
    exact cnt_one ⟨x, (hin x).2 ⟨.inr ⟨hx, hne⟩, (h.false_.neg x hx).1⟩, hl⟩
theorem Inv.skip {M : Tr} {lv : Int} {k : Nat} {c : List Int} (h : Inv M lv (k + 1) c) (hk : k < (litsM M).length) (hn : ¬ (negM (litsM M)[k] ∈ c ∧ levOf M (litsM M)[k] = lv)) : Inv M lv k c := by
  refine ⟨h.isC, h.false_, h.low, fun x hx hl => ?_, h.one⟩
  obtain ⟨j, hj, hjk⟩ := h.pos x hx hl
  refine ⟨j, hj, ?_⟩
  rcases Nat.lt_or_ge j k with h5 | h5
  · exact h5
  · exfalso
    obtain rfl : j = k := by omega
    obtain ⟨_, e⟩ := posOf_some hj
    apply hn
    rw [e, negM_neg (h.false_.neg x hx).1, levOf_negM]
    exact ⟨hx, hl⟩
theorem goM_ends {M : Tr} (hM : M.Ok) (hs : Sorted M) {lv : Int} {rows : List (List Int)} : ∀ (k : Nat) (c ch : List Int) (r : List Int × List Int), k ≤ (litsM M).length → Inv M lv k c → goM M rows lv k c ch = some r → ∃ k', Inv M lv k' r.1 ∧ cntM M r.1 lv = 1
  | 0, c, ch, r, _, h, _ => by
    obtain ⟨x, hx, hl⟩ := cnt_ex h.one
    obtain ⟨j, _, hj⟩ := h.pos x hx hl
    omega
  | k + 1, c, ch, r, hk, h, hr => by
    rw [goM] at hr
    by_cases h1 : cntM M c lv = 1
    · rw [if_pos h1] at hr
      injection hr with hr
      subst hr
      exact ⟨_, h, h1⟩
    · have h2 : 2 ≤ cntM M c lv := by have := h.one; omega
      rw [if_neg h1, List.getElem?_eq_getElem (by omega : k < (litsM M).length)] at hr
      simp only at hr
      split at hr
      · rename_i hc
        rw [Bool.and_eq_true, decide_eq_true_iff, beq_iff_eq] at hc
        split at hr
        · cases hr
        · rename_i q hq
          exact goM_ends hM hs k _ _ r (by omega) (h.next hM hs (by omega) h2 hc.2 hq) hr
      · rename_i hc
        rw [Bool.and_eq_true, decide_eq_true_iff, beq_iff_eq] at hc
        exact goM_ends hM hs k _ _ r (by omega) (h.skip (by omega) hc) hr

theorem levelGo_is {M : Tr} {lv : Int} : ∀ (c : List Int) (n : Int), n ≤ lv → (∀ x ∈ c, valOf M.L x = 2 ∧ levOf M x ≤ lv) → (n = lv ∨ ∃ x ∈ c, levOf M x = lv) → levelGo M c n = some lv
  | [], n, _, _, h => by
    rcases h with rfl | ⟨x, hx, _⟩
    · rfl
    · cases hx
  | x :: r, n, hn, hv, h => by
    have h1 := hv x (by simp)
    rw [levelGo, if_pos h1.1]
    refine levelGo_is r _ (by omega) (fun y hy => hv y (by simp [hy])) ?_
    rcases h with rfl | ⟨y, hy, e⟩
    · exact .inl (by omega)
    · rcases List.mem_cons.1 hy with rfl | hy
      · exact .inl (by omega)
      · exact .inr ⟨y, hy, e⟩
theorem levelGo_all {M : Tr} : ∀ (c : List Int) (n lv : Int), levelGo M c n = some lv → n ≤ lv ∧ (∀ x ∈ c, valOf M.L x = 2 ∧ levOf M x ≤ lv) ∧ (n = lv ∨ ∃ x ∈ c, levOf M x = lv)
  | [], n, lv, h => by
    injection h with h
    exact ⟨by omega, (fun x hx => by cases hx), .inl h⟩
  | x :: r, n, lv, h => by
    rw [levelGo] at h
    split at h
    · rename_i hv
      obtain ⟨h1, h2, h3⟩ := levelGo_all r _ lv h
      refine ⟨by omega, fun y hy => ?_, ?_⟩
      · rcases List.mem_cons.1 hy with rfl | hy
        · exact ⟨hv, by omega⟩
        · exact h2 y hy
      · rcases h3 with h3 | ⟨y, hy, e⟩
        · rcases Int.le_total n (levOf M x) with h4 | h4
          · exact .inr ⟨x, by simp, by omega⟩
          · exact .inl (by omega)
        · exact .inr ⟨y, by simp [hy], e⟩
    · cases h
theorem learn_again {M : Tr} (hM : M.Ok) (hs : Sorted M) {rows : List (List Int)} {c p ch : List Int} {b : Int} (h : learnM M rows c = some (p, b, ch)) : learnM M rows p = some (p, b, []) := by
  unfold learnM at h
  cases hl : levelM M c with
  | none => rw [hl] at h; cases h
  | some lv =>
    rw [hl] at h
    simp only at h
    by_cases h0 : lv = 0
    · rw [if_pos h0] at h
      injection h with h
      injection h with h1 h2
      injection h2 with h2 h3
      subst h1 h2
      have : levelM M [] = some 0 := by
        unfold levelM
        rw [if_pos (by have := isC_make []; rwa [show makeM [] = [] from ord_ext (makeM_ord _) List.Pairwise.nil (fun x => by rw [mem_makeM]; simp)] at this)]
        rfl
      unfold learnM
      rw [this]
      rfl
    · rw [if_neg h0] at h
      have hfc := FalseC.of_level hM hl
      have hlv := hl
      unfold levelM at hlv
      split at hlv
      case isFalse => cases hlv
      rename_i hic
      obtain ⟨h1, h2, h3⟩ := levelGo_all c 0 lv hlv
      have hex : ∃ x ∈ c, levOf M x = lv := h3.resolve_left (fun e => h0 e.symm)
      have hinv : Inv M lv (litsM M).length c := by
        refine ⟨hic, hfc, fun x hx => (h2 x hx).2, fun x hx _ => ?_, cnt_one hex⟩
        obtain ⟨k, hk, e⟩ := List.mem_iff_getElem.1 (hfc.neg x hx).2
        exact ⟨k, by rw [← e]; exact posOf_at (lits_ne hM) hk, hk⟩
      cases hg : goM M rows lv M.L.length c [] with
      | none => rw [hg] at h; cases h
      | some r =>
        rw [hg] at h
        simp only at h
        injection h with h
        injection h with e1 e2
        injection e2 with e2 e3
        obtain ⟨k', hi, hc1⟩ := goM_ends hM hs M.L.length c [] r (by rw [litsM_len]; exact Nat.le_refl _) (by rw [← litsM_len]; exact hinv) hg
        rw [e1] at hi hc1 e2
        have hlp : levelM M p = some lv := by
          unfold levelM
          rw [if_pos hi.isC]
          exact levelGo_is p 0 h1 (fun x hx => ⟨neg_val hM (hi.false_.neg x hx).2, hi.low x hx⟩) (.inr (cnt_ex hi.one))
        have hgp : goM M rows lv M.L.length p [] = some (p, []) := by
          cases M.L.length with
          | zero => rfl
          | succ n => rw [goM, if_pos hc1]
        unfold learnM
        rw [hlp]
        simp only
        rw [if_neg h0, hgp]
        simp only
        rw [e2]

theorem Sorted.new (n : Nat) : Sorted ⟨n, [], 0⟩ := ⟨List.Pairwise.nil, fun p hp => by cases hp⟩
theorem Sorted.put {M : Tr} (h : Sorted M) (lit reason : Int) : Sorted (putM M lit reason) := by
  unfold putM
  split
  · exact h
  · split
    · exact h
    · refine ⟨?_, ?_⟩
      · show (M.L ++ [_]).Pairwise _
        rw [List.pairwise_append]
        exact ⟨h.up, by simp, fun p hp q hq => by rw [List.mem_singleton.1 hq]; exact h.top p hp⟩
      · intro p hp
        rcases List.mem_append.1 (show p ∈ M.L ++ [_] from hp) with hp | hp
        · exact h.top p hp
        · rw [List.mem_singleton.1 hp]
          exact Int.le_refl _
theorem Sorted.begin_ {M : Tr} (h : Sorted M) : Sorted (beginM M) := by
  unfold beginM
  split
  · exact h
  · exact ⟨h.up, fun p hp => by have := h.top p hp; show p.level ≤ ((M.lv + 1 : Nat) : Int); omega⟩
end Go.Proofs.Ytnfeggeahnjdeaa

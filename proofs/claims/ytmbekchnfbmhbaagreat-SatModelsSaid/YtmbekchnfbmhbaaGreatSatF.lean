/- The search's invariant, on lists. -/
import Derived.Test.YtmbekchnfbmhbaaGreatSatD
import Derived.Test.YtmbekchnfbmhbaaGreatRfE
import Derived.Test.YtmbekchnfbmhbaaGreatRfI
namespace Go.Proofs.YtmbekchnfbmhbaaGreat

/-- What is put below a level. -/
def TB (M : Tr) (i : Int) (x : Int) : Prop := ∃ p ∈ M.L, p.lit = x ∧ p.level < i

theorem TB_lev {M : Tr} (hM : M.Ok) {i x : Int} (h : TB M i x) : levOf M x < i := by
  obtain ⟨p, hp, rfl, hl⟩ := h
  obtain ⟨k, hk, rfl⟩ := List.mem_iff_getElem.1 hp
  rw [lev_at hM hk]
  exact hl
theorem TB_of {M : Tr} (hM : M.Ok) {i x : Int} (h : x ∈ litsM M) (hl : levOf M x < i) : TB M i x := by
  obtain ⟨k, hk, rfl⟩ := List.mem_iff_getElem.1 h
  have hk' : k < M.L.length := by rw [litsM_len] at hk; exact hk
  rw [lits_at hk, lev_at hM hk'] at hl
  exact ⟨M.L[k], List.getElem_mem hk', (lits_at hk).symm, hl⟩
theorem Shut21.congr {rows : List (List Int)} {T T' : Int → Prop} (h : Shut21 rows T) (e : ∀ x, T x ↔ T' x) : Shut21 rows T' :=
  ⟨fun cl h1 h2 h3 => h.notFalse cl h1 h2 fun x hx => (e _).2 (h3 x hx), fun cl h1 h2 x hx ho => (e _).1 (h.unit cl h1 h2 x hx fun y hy hne => (e _).2 (ho y hy hne))⟩

structure Inv21 (n : Nat) (M : Tr) (rows : List (List Int)) : Prop where
  mn : M.n = n
  ok : M.Ok
  sorted : Sorted M
  why : Reasons M rows
  each : ∀ i : Nat, 1 ≤ i → i ≤ M.lv → ∃ p ∈ M.L, p.level = i
  calm : ∀ i : Int, 1 ≤ i → i ≤ M.lv → Shut21 rows (TB M i)

theorem Inv21.start {n : Nat} (hn : n ≤ 65536) (rows : List (List Int)) : Inv21 n ⟨n, [], 0⟩ rows :=
  ⟨rfl, ⟨hn, by simp, by simp, by simp, by simp⟩, Sorted.new n, ⟨fun k hk => by simp at hk, fun k hk => by simp at hk⟩, fun i h1 h2 => by simp at h2; omega, fun i h1 h2 => by simp at h2; omega⟩
theorem Inv21.lv_le {n : Nat} {M : Tr} {rows : List (List Int)} (h : Inv21 n M rows) : M.lv ≤ M.L.length := by
  have := len_le_of_sub ((List.range M.lv).map fun i => ((i + 1 : Nat) : Int)) (M.L.map Pt.level) (by
    rw [List.nodup_iff_pairwise_ne, List.pairwise_map]
    exact List.pairwise_lt_range.imp fun {a b} hab => by omega) (by
    intro x hx
    obtain ⟨i, hi, rfl⟩ := List.mem_map.1 hx
    rw [List.mem_range] at hi
    obtain ⟨p, hp, e⟩ := h.each (i + 1) (by omega) (by omega)
    exact List.mem_map.2 ⟨p, hp, e⟩)
  simpa using this
theorem Inv21.len {n : Nat} {M : Tr} {rows : List (List Int)} (h : Inv21 n M rows) : M.L.length ≤ n := by
  have := h.ok.len
  rw [h.mn] at this
  exact this

theorem TB_push {M : Tr} {q : Pt} {lv : Nat} {i x : Int} (hq : i ≤ q.level) : TB ⟨M.n, M.L ++ [q], lv⟩ i x ↔ TB M i x := by
  constructor
  · rintro ⟨p, hp, e, hl⟩
    rcases List.mem_append.1 hp with hp | hp
    · exact ⟨p, hp, e, hl⟩
    · rw [List.mem_singleton.1 hp] at hl; omega
  · rintro ⟨p, hp, e, hl⟩
    exact ⟨p, List.mem_append_left _ hp, e, hl⟩

theorem Inv21.unit {n : Nat} {M : Tr} {rows : List (List Int)} (h : Inv21 n M rows) {r : Nat} {cl : List Int} {lit : Int} (hcl : rows[r]? = some cl) (hic : isC cl = true) (hin : lit ∈ cl) (h0 : 0 ≤ lit) (hn : lit / 2 < n) (hf : find M.L (lit / 2) = none)
    (ho : ∀ y ∈ cl, y ≠ lit → negM y ∈ litsM M) : Inv21 n ⟨M.n, M.L ++ [⟨lit, M.lv, (r : Int)⟩], M.lv⟩ rows := by
  refine ⟨h.mn, h.ok.push _ h0 (by rw [h.mn]; exact hn) hf rfl, ⟨?_, ?_⟩, h.why.unit hcl hic hin ho, fun i h1 h2 => ?_, fun i h1 h2 => (h.calm i h1 h2).congr fun x => (TB_push h2).symm⟩
  · show (M.L ++ [_]).Pairwise _
    rw [List.pairwise_append]
    refine ⟨h.sorted.up, by simp, fun a ha b hb => ?_⟩
    rw [List.mem_singleton.1 hb]
    exact h.sorted.top a ha
  · intro p hp
    rcases List.mem_append.1 hp with hp | hp
    · exact h.sorted.top p hp
    · rw [List.mem_singleton.1 hp]; exact Int.le_refl _
  · obtain ⟨p, hp, e⟩ := h.each i h1 h2
    exact ⟨p, List.mem_append_left _ hp, e⟩
theorem Inv21.decide {n : Nat} {M : Tr} {rows : List (List Int)} (h : Inv21 n M rows) (hs : Shut21 rows (fun x => x ∈ litsM M)) {lit : Int} (h0 : 0 ≤ lit) (hn : lit / 2 < n) (hf : find M.L (lit / 2) = none) (hlv : M.lv < 65536) :
    Inv21 n ⟨M.n, M.L ++ [⟨lit, ((M.lv + 1 : Nat) : Int), -1⟩], M.lv + 1⟩ rows := by
  have hok : (⟨M.n, M.L, M.lv + 1⟩ : Tr).Ok := ⟨h.ok.n, by show M.lv + 1 ≤ 65536; omega, h.ok.lit, h.ok.level, h.ok.nodup⟩
  refine ⟨h.mn, hok.push ⟨lit, ((M.lv + 1 : Nat) : Int), -1⟩ h0 (by show lit / 2 < M.n; rw [h.mn]; exact hn) hf rfl, ⟨?_, ?_⟩, h.why.decide h.sorted lit, fun i h1 h2 => ?_, fun i h1 h2 => ?_⟩
  · show (M.L ++ [_]).Pairwise _
    rw [List.pairwise_append]
    refine ⟨h.sorted.up, by simp, fun a ha b hb => ?_⟩
    rw [List.mem_singleton.1 hb]
    have := h.sorted.top a ha
    show a.level ≤ ((M.lv + 1 : Nat) : Int)
    omega
  · intro p hp
    rcases List.mem_append.1 hp with hp | hp
    · have := h.sorted.top p hp
      show p.level ≤ ((M.lv + 1 : Nat) : Int)
      omega
    · rw [List.mem_singleton.1 hp]; exact Int.le_refl _
  · have h2' : i ≤ M.lv + 1 := h2
    by_cases e : i = M.lv + 1
    · exact ⟨_, List.mem_append_right _ (List.mem_singleton.2 rfl), by rw [e]⟩
    · obtain ⟨p, hp, e⟩ := h.each i h1 (by omega)
      exact ⟨p, List.mem_append_left _ hp, e⟩
  · have h2' : i ≤ ((M.lv + 1 : Nat) : Int) := h2
    by_cases e : i = ((M.lv + 1 : Nat) : Int)
    · refine hs.congr fun x => ?_
      rw [TB_push (M := M) (q := ⟨lit, ((M.lv + 1 : Nat) : Int), -1⟩) h2']
      constructor
      · intro hx
        obtain ⟨p, hp, e2⟩ := List.mem_map.1 (show x ∈ M.L.map Pt.lit from hx)
        have := h.sorted.top p hp
        exact ⟨p, hp, e2, by omega⟩
      · rintro ⟨p, hp, e2, _⟩
        exact List.mem_map.2 ⟨p, hp, e2⟩
    · exact (h.calm i h1 (by omega)).congr fun x => (TB_push h2').symm

/-- What is left behind Back. -/
theorem take_low {M : Tr} (hs : Sorted M) (b : Int) {p : Pt} (hp : p ∈ M.L.take (M.L.length - above b M.L)) : p.level ≤ b := by
  obtain ⟨k, hk, rfl⟩ := List.mem_iff_getElem.1 hp
  rw [List.length_take] at hk
  have ha := above_le b M.L
  rw [List.getElem_take]
  have h1 := above_at (lev := b) (L := M.L) (by omega)
  rcases Nat.eq_or_lt_of_le (show k ≤ M.L.length - 1 - above b M.L by omega) with e | e
  · subst e; omega
  · have := (List.pairwise_iff_getElem.1 hs.up) k (M.L.length - 1 - above b M.L) (by omega) (by omega) e
    omega
theorem take_has {M : Tr} (b : Int) {p : Pt} (hp : p ∈ M.L) (hl : p.level ≤ b) : p ∈ M.L.take (M.L.length - above b M.L) := by
  obtain ⟨k, hk, rfl⟩ := List.mem_iff_getElem.1 hp
  rw [List.mem_take_iff_getElem]
  refine ⟨k, ?_, rfl⟩
  have ha := above_le b M.L
  rcases Nat.lt_or_ge k (M.L.length - above b M.L) with h | h
  · omega
  · exfalso
    have h1 : M.L.length - 1 - k < above b M.L := by omega
    have h2 : M.L.length - 1 - (M.L.length - 1 - k) = k := by omega
    have := above_lt h1 (by omega)
    simp only [h2] at this
    omega
theorem TB_back {M : Tr} (hs : Sorted M) {b lv : Nat} {i x : Int} (hi : i ≤ b) : TB ⟨M.n, M.L.take (M.L.length - above b M.L), lv⟩ i x ↔ TB M i x := by
  constructor
  · rintro ⟨p, hp, e, hl⟩
    exact ⟨p, List.mem_of_mem_take hp, e, hl⟩
  · rintro ⟨p, hp, e, hl⟩
    exact ⟨p, take_has b hp (by omega), e, hl⟩
theorem Inv21.back {n : Nat} {M : Tr} {rows : List (List Int)} (h : Inv21 n M rows) {b : Nat} (hb : b ≤ M.lv) : Inv21 n ⟨M.n, M.L.take (M.L.length - above b M.L), b⟩ rows := by
  have hlv := h.ok.lv
  refine ⟨h.mn, ⟨h.ok.n, by show b ≤ 65536; omega, fun p hp => h.ok.lit p (List.mem_of_mem_take hp), fun p hp => h.ok.level p (List.mem_of_mem_take hp), h.ok.nodup.sublist (List.take_sublist _ _)⟩, ⟨h.sorted.up.sublist (List.take_sublist _ _), fun p hp => take_low h.sorted b hp⟩, h.why.take _ _, fun i h1 h2 => ?_, fun i h1 h2 => ?_⟩
  · have h2' : i ≤ b := h2
    obtain ⟨p, hp, e⟩ := h.each i h1 (by omega)
    exact ⟨p, take_has b hp (by omega), e⟩
  · have h2' : i ≤ (b : Int) := h2
    exact (h.calm i h1 (by omega)).congr fun x => (TB_back h.sorted h2').symm
theorem Inv21.add {n : Nat} {M : Tr} {rows : List (List Int)} (h : Inv21 n M rows) {p : List Int} (hp : ∀ i : Int, 1 ≤ i → i ≤ M.lv → (¬ ∀ y ∈ p, TB M i (negM y)) ∧ ∀ x ∈ p, (∀ y ∈ p, y ≠ x → TB M i (negM y)) → TB M i x) : Inv21 n M (rows ++ [p]) := by
  refine ⟨h.mn, h.ok, h.sorted, h.why.more [p], h.each, fun i h1 h2 => ⟨fun cl hc hic => ?_, fun cl hc hic => ?_⟩⟩
  · rcases List.mem_append.1 hc with hc | hc
    · exact (h.calm i h1 h2).notFalse cl hc hic
    · rw [List.mem_singleton.1 hc]; exact (hp i h1 h2).1
  · rcases List.mem_append.1 hc with hc | hc
    · exact (h.calm i h1 h2).unit cl hc hic
    · rw [List.mem_singleton.1 hc]; exact (hp i h1 h2).2

theorem lev_le {M : Tr} (hM : M.Ok) (hs : Sorted M) {x : Int} (h : x ∈ litsM M) : levOf M x ≤ M.lv := by
  obtain ⟨k, hk, rfl⟩ := List.mem_iff_getElem.1 h
  have hk' : k < M.L.length := by rw [litsM_len] at hk; exact hk
  rw [lits_at hk, lev_at hM hk']
  exact hs.top _ (List.getElem_mem hk')
theorem cnt_only {M : Tr} {p : List Int} {lv : Int} (h : cntM M p lv = 1) {y z : Int} (hy : y ∈ p) (hz : z ∈ p) (hne : z ≠ y) (ly : levOf M y = lv) : levOf M z ≠ lv := by
  intro lz
  obtain ⟨a, b, rfl⟩ := List.append_of_mem hy
  unfold cntM at h
  rw [List.countP_append, List.countP_cons_of_pos (by simp [ly])] at h
  rcases List.mem_append.1 hz with hz | hz
  · have : 0 < List.countP (fun x => levOf M x == lv) a := List.countP_pos_iff.2 ⟨z, hz, by simp [lz]⟩
    omega
  · rcases List.mem_cons.1 hz with hz | hz
    · exact hne hz
    · have : 0 < List.countP (fun x => levOf M x == lv) b := List.countP_pos_iff.2 ⟨z, hz, by simp [lz]⟩
      omega
/-- What is learnt is none of the clauses. -/
theorem Inv21.fresh {n : Nat} {M : Tr} {rows : List (List Int)} (h : Inv21 n M rows) {p : List Int} {lv b : Int} (hl : Learnt M lv p b) : p ∉ rows := by
  intro hp
  obtain ⟨y, hy, ly⟩ := cnt_ex (by rw [hl.one]; exact Nat.le_refl _)
  have hny := (hl.false_.neg y hy).2
  have hle := lev_le h.ok h.sorted hny
  rw [levOf_negM, ly] at hle
  have hb := hl.back
  have := (h.calm lv (by omega) hle).unit p hp hl.isC y hy fun z hz hne => by
    have h1 := hl.low z hz
    have h2 := cnt_only hl.one hy hz hne ly
    exact TB_of h.ok (hl.false_.neg z hz).2 (by rw [levOf_negM]; omega)
  have := TB_lev h.ok this
  omega
/-- Behind a conflict: back, and one clause more. -/
theorem Inv21.learn {n : Nat} {M : Tr} {rows : List (List Int)} (h : Inv21 n M rows) {p : List Int} {lv b : Int} (hl : Learnt M lv p b) {b' : Nat} (hb' : (b' : Int) = b ∨ b' = 0) : b' ≤ M.lv ∧ Inv21 n ⟨M.n, M.L.take (M.L.length - above b' M.L), b'⟩ (rows ++ [p]) := by
  obtain ⟨y, hy, ly⟩ := cnt_ex (by rw [hl.one]; exact Nat.le_refl _)
  have hle := lev_le h.ok h.sorted (hl.false_.neg y hy).2
  rw [levOf_negM, ly] at hle
  have hb := hl.back
  have hbl : b' ≤ M.lv := by omega
  refine ⟨hbl, (h.back hbl).add fun i h1 h2 => ?_⟩
  have h2' : i ≤ (b' : Int) := h2
  have hy2 : ¬ TB ⟨M.n, M.L.take (M.L.length - above b' M.L), b'⟩ i (negM y) := fun ht => by
    have := TB_lev h.ok ((TB_back h.sorted h2').1 ht)
    rw [levOf_negM] at this
    omega
  refine ⟨fun ha => hy2 (ha y hy), fun x hx ho => ?_⟩
  by_cases e : x = y
  · subst e
    rcases hl.at_ with e0 | ⟨z, hz, ez⟩
    · omega
    · exfalso
      have hne : z ≠ x := fun e => by rw [e] at ez; omega
      have := TB_lev h.ok ((TB_back h.sorted h2').1 (ho z hz hne))
      rw [levOf_negM] at this
      omega
  · exact absurd (ho y hy (fun e2 => e e2.symm)) hy2
end Go.Proofs.YtmbekchnfbmhbaaGreat

/- What is learnt follows, and holds where the clauses do; how many may be learnt. -/
namespace Go.Proofs.YtmbekchnfbmhbaaGreat
open Go.Lib

/-- Clauses of n nodes. -/
def CL (n : Nat) (rows : List (List Int)) : Prop := ∀ cl ∈ rows, isC cl = true ∧ ∀ x ∈ cl, 0 ≤ x ∧ x / 2 < n
/-- An assignment of n nodes. -/
def Model (n : Nat) (T : Int → Prop) : Prop := ∀ x : Int, 0 ≤ x → x / 2 < n → (T x ↔ ¬ T (negM x))
def HoldsT (T : Int → Prop) (rows : List (List Int)) : Prop := ∀ cl ∈ rows, ∃ x ∈ cl, T x

theorem model_shut {n : Nat} {T : Int → Prop} {rows : List (List Int)} (hm : Model n T) (hc : CL n rows) (hh : HoldsT T rows) : Shut21 rows T := by
  refine ⟨fun cl h1 _ h3 => ?_, fun cl h1 _ x hx ho => ?_⟩
  · obtain ⟨x, hx, ht⟩ := hh cl h1
    have hr := (hc cl h1).2 x hx
    exact (hm x hr.1 hr.2).1 ht (h3 x hx)
  · obtain ⟨z, hz, ht⟩ := hh cl h1
    by_cases e : z = x
    · exact e ▸ ht
    · have hr := (hc cl h1).2 z hz
      exact absurd (ho z hz e) ((hm z hr.1 hr.2).1 ht)
theorem Learnt.lits {M : Tr} {lv b : Int} {p : List Int} (h : Learnt M lv p b) (hM : M.Ok) : ∀ x ∈ p, 0 ≤ x ∧ x / 2 < M.n := by
  intro x hx
  obtain ⟨h0, hn⟩ := h.false_.neg x hx
  refine ⟨h0, ?_⟩
  obtain ⟨q, hq, e⟩ := List.mem_map.1 (show negM x ∈ M.L.map Pt.lit from hn)
  have := (hM.lit q hq).2
  rw [e, negM_half] at this
  exact this
theorem Learnt.pair {M : Tr} {lv b : Int} {p : List Int} (h : Learnt M lv p b) (hM : M.Ok) : ∀ x ∈ p, negM x ∉ p := by
  intro x hx hn
  have h1 := (h.false_.neg x hx).2
  have h2 := (h.false_.neg _ hn).2
  rw [negM_neg (h.false_.neg x hx).1] at h2
  obtain ⟨i, hi, e1⟩ := List.mem_iff_getElem.1 h1
  obtain ⟨j, hj, e2⟩ := List.mem_iff_getElem.1 h2
  have hi' : i < M.L.length := by rw [litsM_len] at hi; exact hi
  have hj' : j < M.L.length := by rw [litsM_len] at hj; exact hj
  rw [lits_at hi] at e1
  rw [lits_at hj] at e2
  have hne : i ≠ j := by
    rintro rfl
    rw [e1] at e2
    exact negM_ne x e2
  have hnd := List.pairwise_iff_getElem.1 hM.nodup
  rcases Nat.lt_or_gt_of_ne hne with h | h
  · exact hnd i j hi' hj' h (by rw [e1, e2, negM_half])
  · exact hnd j i hj' hi' h (by rw [e1, e2, negM_half])
theorem Learnt.ne {M : Tr} {lv b : Int} {p : List Int} (h : Learnt M lv p b) : p ≠ [] := by
  rintro rfl
  have := h.one
  unfold cntM at this
  simp at this
theorem CL.add {n : Nat} {rows : List (List Int)} (h : CL n rows) {p : List Int} (hc : isC p = true) (hl : ∀ x ∈ p, 0 ≤ x ∧ x / 2 < n) : CL n (rows ++ [p]) := by
  intro cl hcl
  rcases List.mem_append.1 hcl with hcl | hcl
  · exact h cl hcl
  · rw [List.mem_singleton.1 hcl]; exact ⟨hc, hl⟩
/-- A model of the clauses is one of what is learnt. -/
theorem learn_holds {n : Nat} {T : Int → Prop} {M : Tr} {rows : List (List Int)} {c p ch : List Int} {b lv : Int} (hm : Model n T) (hc : CL n rows) (hh : HoldsT T rows) (hcr : c ∈ rows) (hl : levelM M c = some lv) (h0 : lv ≠ 0) (h : learnM M rows c = some (p, b, ch)) (hp : ∀ x ∈ p, 0 ≤ x ∧ x / 2 < n) : HoldsT T (rows ++ [p]) := by
  intro cl hcl
  rcases List.mem_append.1 hcl with hcl | hcl
  · exact hh cl hcl
  · rw [List.mem_singleton.1 hcl]
    have := learn_shut (model_shut hm hc hh) hcr hl h0 h
    refine Classical.byContradiction fun hno => this fun x hx => ?_
    refine Classical.byContradiction fun hnx => hno ⟨x, hx, (hm x (hp x hx).1 (hp x hx).2).2 hnx⟩

theorem cl_plain {n : Nat} (hn : n ≤ 500000) {rows : List (List Int)} (hc : CL n rows) {cl : List Int} (h : cl ∈ rows) : plainM cl = cl :=
  plain_of_ord (isC_ord (hc cl h).1) fun x hx => by have := (hc cl h).2 x hx; omega
/-- What propagation ends with, no conflict met, is closed. -/
theorem run_shut {n : Nat} (hn : n ≤ 500000) {rows : List (List Int)} {given : List Int} (hc : CL n rows) (h : (runM rows given).2 = -1) : Shut21 rows (fun x => x ∈ (runM rows given).1) := by
  have hcl := (run_none h).2
  have hok := run_lits rows given
  refine ⟨fun cl h1 _ h3 => ?_, fun cl h1 h2 x hx ho => ?_⟩
  · refine (hcl cl (List.mem_map.2 ⟨cl, h1, cl_plain hn hc h1⟩)).1 fun x hx => ?_
    have hnx := h3 x hx
    have : x ∉ (runM rows given).1 := fun hx2 => hok.not_both hx2 hnx
    rw [valL_two.2 ⟨this, hnx⟩]
    exact ⟨by decide, by decide⟩
  · refine Classical.byContradiction fun hnx => ?_
    have hcc := hcl cl (List.mem_map.2 ⟨cl, h1, cl_plain hn hc h1⟩)
    have ho2 : ∀ y ∈ cl, y = x ∨ (valL (runM rows given).1 y ≠ 1 ∧ valL (runM rows given).1 y ≠ 0) := by
      intro y hy
      by_cases e : y = x
      · exact .inl e
      · have hny := ho y hy e
        have : y ∉ (runM rows given).1 := fun hy2 => hok.not_both hy2 hny
        rw [valL_two.2 ⟨this, hny⟩]
        exact .inr ⟨by decide, by decide⟩
    by_cases hng : negM x ∈ (runM rows given).1
    · refine hcc.1 fun y hy => ?_
      by_cases e : y = x
      · subst e
        rw [valL_two.2 ⟨hnx, hng⟩]
        exact ⟨by decide, by decide⟩
      · exact (ho2 y hy).resolve_left e
    · exact hcc.2 (by rw [st_two_of (ord_nodup (isC_ord h2)) hx (valL_zero.2 ⟨hnx, hng⟩) ho2])
theorem negs_given {n : Nat} (hn : n ≤ 500000) {p : List Int} (hp : ∀ x ∈ p, 0 ≤ x ∧ x / 2 < n) : ∀ x ∈ p, negM x ∈ negsM p ∧ wideM (negM x) = false := by
  intro x hx
  have hr := hp x hx
  refine ⟨mem_negs.2 ⟨x, hx, hr.1, rfl⟩, (wide_iff _).2 ?_⟩
  have := @negM_half x
  omega
/-- What is learnt follows by units. -/
theorem learn_follows {n : Nat} (hn : n ≤ 500000) {M : Tr} {rows : List (List Int)} {c p ch : List Int} {b lv : Int} (hc : CL n rows) (hcr : c ∈ rows) (hl : levelM M c = some lv) (h0 : lv ≠ 0) (h : learnM M rows c = some (p, b, ch)) (hp : ∀ x ∈ p, 0 ≤ x ∧ x / 2 < n) : followsM rows p = true := by
  cases hf : followsM rows p with
  | true => rfl
  | false =>
    exfalso
    have hk : (runM rows (negsM p)).2 = -1 := by simpa [followsM] using hf
    refine learn_shut (run_shut hn hc hk) hcr hl h0 h fun x hx => ?_
    have := negs_given hn hp x hx
    exact (run_none hk).1 _ this.1 this.2
/-- A conflict of level 0: nothing is left. -/
theorem zero_follows {n : Nat} (hn : n ≤ 500000) {M : Tr} (hM : M.Ok) (hs : Sorted M) {rows : List (List Int)} (hr : Reasons M rows) {c : List Int} (hc : CL n rows) (hcr : c ∈ rows) (hl : levelM M c = some 0) : followsM rows [] = true := by
  cases hf : followsM rows [] with
  | true => rfl
  | false =>
    have hk : (runM rows (negsM [])).2 = -1 := by simpa [followsM] using hf
    exact (zero_none hM hs hr (run_shut hn hc hk) hcr hl).elim
theorem row_snoc {l s : List (List Int)} {c : List Int} (h : rowM l s 0 = -1) (hf : followsM (l ++ s) c = true) : rowM l (s ++ [c]) 0 = -1 := by
  rw [row_parts l s [c] 0 (Int.le_refl _), if_pos h, row_cons, if_pos hf]
  rfl
theorem row_more {l l' : List (List Int)} : ∀ (s : List (List Int)) (i : Int), 0 ≤ i → (∀ d ∈ l, d ∈ l') → rowM l s i = -1 → rowM l' s i = -1
  | [], _, _, _, _ => rfl
  | c :: r, i, hi, hd, h => by
    rw [row_cons] at h ⊢
    by_cases hf : followsM l c = true
    · rw [if_pos hf] at h
      rw [if_pos (follows_more hd hf)]
      have : ∀ (l l' : List (List Int)), (∀ d ∈ l, d ∈ l') → rowM l r (i + 1) = -1 → rowM l' r (i + 1) = -1 := fun l l' hd h => row_more (l := l) (l' := l') r (i + 1) (by omega) hd h
      refine this _ _ (fun d hx => ?_) h
      rcases List.mem_append.1 hx with hx | hx
      · exact List.mem_append_left _ (hd d hx)
      · exact List.mem_append_right _ hx
    · rw [if_neg hf] at h
      omega

/-- A clause as a number: each node absent, true or false. -/
def dig3 (c : List Int) (v : Nat) : Nat := if (2 * (v : Int)) ∈ c then 1 else if (2 * (v : Int) + 1) ∈ c then 2 else 0
def enc3 (c : List Int) : Nat → Nat
  | 0 => 0
  | n + 1 => enc3 c n * 3 + dig3 c n
theorem dig3_lt (c : List Int) (v : Nat) : dig3 c v < 3 := by unfold dig3; split <;> (try split) <;> omega
theorem enc3_lt (c : List Int) : ∀ n, enc3 c n < 3 ^ n
  | 0 => by simp [enc3]
  | n + 1 => by
    have := enc3_lt c n
    have := dig3_lt c n
    rw [enc3, Nat.pow_succ]
    omega
theorem enc3_dig {c d : List Int} : ∀ n, enc3 c n = enc3 d n → ∀ v, v < n → dig3 c v = dig3 d v
  | 0, _, v, hv => by omega
  | n + 1, h, v, hv => by
    rw [enc3, enc3] at h
    have h1 := dig3_lt c n
    have h2 := dig3_lt d n
    by_cases e : v = n
    · subst e; omega
    · exact enc3_dig n (by omega) v (by omega)
theorem enc3_pos {c : List Int} : ∀ n, enc3 c n = 0 → ∀ v, v < n → dig3 c v = 0
  | 0, _, v, hv => by omega
  | n + 1, h, v, hv => by
    rw [enc3] at h
    by_cases e : v = n
    · subst e; omega
    · exact enc3_pos n (by omega) v (by omega)
/-- A clause without a node twice. -/
def Thin (n : Nat) (c : List Int) : Prop := isC c = true ∧ c ≠ [] ∧ (∀ x ∈ c, 0 ≤ x ∧ x / 2 < n) ∧ ∀ x ∈ c, negM x ∉ c
theorem dig3_mem {n : Nat} {c : List Int} (h : Thin n c) {x : Int} (h0 : 0 ≤ x) : x ∈ c ↔ dig3 c (x / 2).toNat = if x % 2 = 0 then 1 else 2 := by
  have e : (((x / 2).toNat : Nat) : Int) = x / 2 := by omega
  unfold dig3
  rw [e]
  by_cases hp : x % 2 = 0
  · rw [if_pos hp, show 2 * (x / 2) = x by omega]
    by_cases hx : x ∈ c
    · simp [hx]
    · rw [if_neg hx]
      simp only [hx, false_iff]
      split <;> omega
  · rw [if_neg hp, show 2 * (x / 2) + 1 = x by omega]
    by_cases hx : x ∈ c
    · have hn : 2 * (x / 2) ∉ c := by
        have := h.2.2.2 x hx
        unfold negM at this
        rw [if_neg hp, show x - 1 = 2 * (x / 2) by omega] at this
        exact this
      simp [hx, hn]
    · simp only [hx, false_iff, if_false]
      split <;> omega
theorem enc3_inj {n : Nat} {c d : List Int} (hc : Thin n c) (hd : Thin n d) (h : enc3 c n = enc3 d n) : c = d := by
  refine ord_ext (isC_ord hc.1) (isC_ord hd.1) fun x => ?_
  have hh := enc3_dig n h
  constructor
  · intro hx
    have hr := hc.2.2.1 x hx
    rw [dig3_mem hd hr.1, ← hh _ (by omega)]
    exact (dig3_mem hc hr.1).1 hx
  · intro hx
    have hr := hd.2.2.1 x hx
    rw [dig3_mem hc hr.1, hh _ (by omega)]
    exact (dig3_mem hd hr.1).1 hx
theorem enc3_ne {n : Nat} {c : List Int} (hc : Thin n c) : enc3 c n ≠ 0 := by
  intro h
  obtain ⟨x, hx⟩ := List.exists_mem_of_ne_nil c hc.2.1
  have hr := hc.2.2.1 x hx
  have h1 := (dig3_mem hc hr.1).1 hx
  rw [enc3_pos n h _ (by omega)] at h1
  split at h1 <;> omega
/-- So many clauses there are at most. -/
theorem thin_count {n : Nat} {l : List (List Int)} (hn : l.Nodup) (h : ∀ c ∈ l, Thin n c) : l.length + 1 ≤ 3 ^ n := by
  have := nodup_bound (3 ^ n - 1) (l.map fun c => enc3 c n - 1) (by
    rw [List.nodup_iff_pairwise_ne, List.pairwise_map]
    rw [List.nodup_iff_pairwise_ne] at hn
    refine List.Pairwise.imp_of_mem ?_ hn
    intro a b ha hb hne e
    have h1 := enc3_ne (h a ha)
    have h2 := enc3_ne (h b hb)
    exact hne (enc3_inj (h a ha) (h b hb) (by omega))) (by
    intro x hx
    obtain ⟨c, hc, rfl⟩ := List.mem_map.1 hx
    have h1 := enc3_ne (h c hc)
    have h2 := enc3_lt c n
    omega)
  have h3 : 0 < 3 ^ n := Nat.pow_pos (by decide)
  rw [List.length_map] at this
  omega
end Go.Proofs.YtmbekchnfbmhbaaGreat

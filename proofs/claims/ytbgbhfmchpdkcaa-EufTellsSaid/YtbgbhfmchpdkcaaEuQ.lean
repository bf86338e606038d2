/- The plain side of layer 23: joins that are sound and closed give the classes. -/
import Derived.Test.YtbgbhfmchpdkcaaEuP
namespace Go.Proofs.Ytbgbhfmchpdkcaa

section
variable {T : List Nd} {S : Int → Prop} {J : List Jn}
/-- Each join is of two that must be one. -/
def Snd (T : List Nd) (S : Int → Prop) (J : List Jn) : Prop := ∀ j ∈ J, Cg T S j.a j.b
theorem Snd.nil : Snd T S [] := fun _ h => by cases h
theorem Snd.conn (h : Snd T S J) {a b : Int} (c : Conn J a b) : Cg T S a b := by
  induction c with
  | refl => exact .refl _
  | step e _ ih =>
    obtain ⟨j, hj, e⟩ := e
    rcases e with ⟨rfl, rfl, _⟩ | ⟨rfl, rfl, _⟩
    · exact (h j hj).trans ih
    · exact (h j hj).symm.trans ih
theorem Snd.cls (h : Snd T S J) {a b : Int} (c : cls J a = cls J b) : Cg T S a b := h.conn (conn_cls J c)
theorem Snd.join (h : Snd T S J) {n a b r : Int} (g : Cg T S a b) : Snd T S (joinM n J a b r) := by
  unfold joinM
  split
  · intro j hj
    rcases List.mem_append.1 hj with hj | hj
    · exact h j hj
    · obtain rfl := List.mem_singleton.1 hj
      exact g
  · exact h
/-- What is one stays so. -/
theorem cls_join {n a b r u v : Int} (h : cls J u = cls J v) : cls (joinM n J a b r) u = cls (joinM n J a b r) v := by
  obtain ⟨X, hX⟩ := join_prefix n J a b r
  rw [hX]
  exact cls_conn ((conn_cls J h).mono fun j hj => List.mem_append_left _ hj)
/-- What was joined is one. -/
theorem cls_joined {n a b r : Int} (ha : 0 ≤ a ∧ a < n) (hb : 0 ≤ b ∧ b < n) : cls (joinM n J a b r) a = cls (joinM n J a b r) b := by
  unfold joinM
  split
  · rename_i hc
    rw [cls_snoc, cls_snoc]
    simp only
    split <;> split <;> first | rfl | assumption | simp_all
  · rename_i hc
    refine Classical.byContradiction fun hne => hc ⟨ha, hb, hne⟩
theorem Has.join {n a b r : Int} (h : Has T S (cls J)) : Has T S (cls (joinM n J a b r)) :=
  ⟨fun x h1 h2 => cls_join (h.neg x h1 h2), fun x h1 h2 => cls_join (h.pos x h1 h2), fun x m h1 h2 h3 h4 => cls_join (h.side x m h1 h2 h3 h4)⟩
theorem join_len {n a b r : Int} (h : ¬ cls J a = cls J b) (ha : 0 ≤ a ∧ a < n) (hb : 0 ≤ b ∧ b < n) : (joinM n J a b r).length = J.length + 1 := by
  unfold joinM
  rw [if_pos ⟨ha, hb, h⟩, List.length_append]
  rfl
theorem join_same {n a b r : Int} (h : cls J a = cls J b) : joinM n J a b r = J := if_neg fun hc => hc.2.2 h

/-- Joins that are sound, and closed. -/
structure Done (T : List Nd) (S : Int → Prop) (J : List Jn) : Prop where
  snd : Snd T S J
  has : Has T S (cls J)
  clo : Clo T (cls J)
theorem Done.iff (h : Done T S J) {a b : Int} : cls J a = cls J b ↔ Cg T S a b := ⟨h.snd.cls, fun g => g.into h.has h.clo⟩
end

/-! ### the reference's row of classes -/
def atC (c : List Int) (a : Int) : Int := c.getD a.toNat 0
structure RefOk (T : List Nd) (S : Int → Prop) (c : List Int) : Prop where
  len : c.length = T.length + 1
  cg : ∀ (i : Nat), i < c.length → Cg T S i (atC c i)
  low : ∀ (i : Nat), i < c.length → 0 ≤ atC c i ∧ atC c i ≤ i
  idem : ∀ (i : Nat), i < c.length → atC c (atC c i) = atC c i
def joinC (c : List Int) (a b : Int) : List Int := c.map fun v => if v = atC c a ∨ v = atC c b then min (atC c a) (atC c b) else v
def startC (n : Nat) : List Int := (List.range n).map fun (i : Nat) => (i : Int)
theorem atC_nat {c : List Int} {i : Nat} (h : i < c.length) : atC c i = c[i] := by
  unfold atC
  rw [Int.toNat_natCast, List.getD_eq_getElem?_getD, List.getElem?_eq_getElem h]
  rfl
theorem atC_int {c : List Int} {a : Int} (h0 : 0 ≤ a) (h : a < c.length) : ∃ i : Nat, a = i ∧ i < c.length ∧ atC c a = c.getD i 0 := ⟨a.toNat, by omega, by omega, rfl⟩
theorem atC_start {n i : Nat} (h : i < n) : atC (startC n) i = i := by
  rw [atC_nat (by simpa [startC] using h)]
  simp [startC]
theorem joinC_len (c : List Int) (a b : Int) : (joinC c a b).length = c.length := by simp [joinC]
theorem atC_join {c : List Int} {a b u : Int} (h0 : 0 ≤ u) (h : u < c.length) : atC (joinC c a b) u = if atC c u = atC c a ∨ atC c u = atC c b then min (atC c a) (atC c b) else atC c u := by
  obtain ⟨i, rfl, hi, _⟩ := atC_int h0 h
  rw [atC_nat (by rw [joinC_len]; exact hi), atC_nat hi]
  simp [joinC]
section
variable {T : List Nd} {S : Int → Prop} {c : List Int}
theorem RefOk.start (T : List Nd) (S : Int → Prop) : RefOk T S (startC (T.length + 1)) := by
  have hl : (startC (T.length + 1)).length = T.length + 1 := by simp [startC]
  refine ⟨hl, fun i hi => ?_, fun i hi => ?_, fun i hi => ?_⟩
  · rw [atC_start (by omega)]
    exact .refl _
  · rw [atC_start (by omega)]
    omega
  · rw [atC_start (by omega), atC_start (by omega)]
theorem RefOk.rng (h : RefOk T S c) {a : Int} (h0 : 0 ≤ a) (h1 : a < c.length) : 0 ≤ atC c a ∧ atC c a ≤ a ∧ atC c (atC c a) = atC c a ∧ Cg T S a (atC c a) := by
  obtain ⟨i, rfl, hi, _⟩ := atC_int h0 h1
  exact ⟨(h.low i hi).1, (h.low i hi).2, h.idem i hi, h.cg i hi⟩
theorem RefOk.join (h : RefOk T S c) {a b : Int} (ha : 0 ≤ a ∧ a < c.length) (hb : 0 ≤ b ∧ b < c.length) (g : Cg T S a b) : RefOk T S (joinC c a b) := by
  have ra := h.rng ha.1 ha.2
  have rb := h.rng hb.1 hb.2
  have hxy : Cg T S (atC c a) (atC c b) := (ra.2.2.2.symm.trans g).trans rb.2.2.2
  refine ⟨by rw [joinC_len]; exact h.len, fun i hi => ?_, fun i hi => ?_, fun i hi => ?_⟩
  · rw [joinC_len] at hi
    have ri := h.rng (a := i) (by omega) (by omega)
    rw [atC_join (by omega) (by omega)]
    split
    · rename_i hc
      rcases Int.le_total (atC c a) (atC c b) with hle | hle
      · rw [Int.min_eq_left hle]
        rcases hc with e | e
        · exact e ▸ ri.2.2.2
        · exact (e ▸ ri.2.2.2).trans hxy.symm
      · rw [Int.min_eq_right hle]
        rcases hc with e | e
        · exact (e ▸ ri.2.2.2).trans hxy
        · exact e ▸ ri.2.2.2
    · exact ri.2.2.2
  · rw [joinC_len] at hi
    have ri := h.rng (a := i) (by omega) (by omega)
    rw [atC_join (by omega) (by omega)]
    split <;> omega
  · rw [joinC_len] at hi
    have ri := h.rng (a := i) (by omega) (by omega)
    rw [atC_join (u := i) (by omega) (by omega)]
    split
    · rw [atC_join (by omega) (by omega)]
      rcases Int.le_total (atC c a) (atC c b) with hle | hle
      · rw [Int.min_eq_left hle, ra.2.2.1, if_pos (.inl rfl)]
      · rw [Int.min_eq_right hle, rb.2.2.1, if_pos (.inr rfl)]
    · rename_i hc
      rw [atC_join (by omega) (by omega), ri.2.2.1, if_neg hc]
/-- What is one stays so. -/
theorem joinC_keeps {a b u v : Int} (hu : 0 ≤ u ∧ u < c.length) (hv : 0 ≤ v ∧ v < c.length) (e : atC c u = atC c v) : atC (joinC c a b) u = atC (joinC c a b) v := by
  rw [atC_join hu.1 hu.2, atC_join hv.1 hv.2, e]
theorem joinC_joined {a b : Int} (ha : 0 ≤ a ∧ a < c.length) (hb : 0 ≤ b ∧ b < c.length) : atC (joinC c a b) a = atC (joinC c a b) b := by
  rw [atC_join ha.1 ha.2, atC_join hb.1 hb.2, if_pos (.inl rfl), if_pos (.inr rfl)]
theorem joinC_same {a b : Int} (e : atC c a = atC c b) : joinC c a b = c := by
  unfold joinC
  rw [e]
  refine (List.map_congr_left fun v _ => ?_).trans (List.map_id c)
  simp only [or_self, Int.min_self, id]
  split
  · rename_i h; exact h.symm
  · rfl
/-- The classes of two rows are the same as the relation's, where the row is closed. -/
theorem RefOk.iff (h : RefOk T S c) (hh : Has T S (atC c)) (hc : Clo T (atC c)) {a b : Int} (ha : 0 ≤ a ∧ a < c.length) (hb : 0 ≤ b ∧ b < c.length) : atC c a = atC c b ↔ Cg T S a b := by
  refine ⟨fun e => ?_, fun g => g.into hh hc⟩
  have ra := (h.rng ha.1 ha.2).2.2.2
  have rb := (h.rng hb.1 hb.2).2.2.2
  rw [e] at ra
  exact ra.trans rb.symm
theorem RefOk.classes (h : RefOk T S c) (hh : Has T S (atC c)) (hc : Clo T (atC c)) : Classes T S c := by
  refine ⟨h.len, fun i hi => ?_⟩
  have hl := h.len
  have hlow := h.low i hi
  have hcg := h.cg i hi
  rw [atC_nat hi] at hlow hcg
  refine ⟨by omega, hcg, fun b h0 h1 g => ?_⟩
  have e := (h.iff hh hc (a := i) (b := b) (by omega) (by omega)).2 g
  rw [atC_nat hi] at e
  rw [e]
  exact (h.rng h0 (by omega)).2.1
/-- How much is still apart. -/
def massC (c : List Int) : Nat := (c.map Int.toNat).sum
theorem mass_le : ∀ {f : Int → Int} (c : List Int), (∀ v ∈ c, (f v).toNat ≤ v.toNat) → massC (c.map f) ≤ massC c
  | _, [], _ => Nat.le_refl _
  | f, v :: c, h => by
    have := mass_le (f := f) c fun u hu => h u (List.mem_cons_of_mem _ hu)
    have := h v (by simp)
    simp only [massC, List.map_cons, List.sum_cons] at *
    omega
theorem mass_lt : ∀ {f : Int → Int} (c : List Int), (∀ v ∈ c, (f v).toNat ≤ v.toNat) → (∃ v ∈ c, (f v).toNat < v.toNat) → massC (c.map f) < massC c
  | _, [], _, ⟨_, h, _⟩ => by cases h
  | f, v :: c, h, ⟨u, hu, hlt⟩ => by
    have h1 := mass_le (f := f) c fun u hu => h u (List.mem_cons_of_mem _ hu)
    have h2 := h v (by simp)
    rcases List.mem_cons.1 hu with rfl | hu
    · simp only [massC, List.map_cons, List.sum_cons] at *
      omega
    · have := mass_lt (f := f) c (fun u hu => h u (List.mem_cons_of_mem _ hu)) ⟨u, hu, hlt⟩
      simp only [massC, List.map_cons, List.sum_cons] at *
      omega
theorem RefOk.nonneg (h : RefOk T S c) {v : Int} (hv : v ∈ c) : 0 ≤ v := by
  obtain ⟨i, hi, rfl⟩ := List.mem_iff_getElem.1 hv
  have := (h.low i hi).1
  rwa [atC_nat hi] at this
theorem atC_mem {a : Int} (ha : 0 ≤ a ∧ a < c.length) : atC c a ∈ c := by
  obtain ⟨i, rfl, hi, _⟩ := atC_int ha.1 ha.2
  rw [atC_nat hi]
  exact List.getElem_mem hi
theorem joinC_mass_le (h : RefOk T S c) {a b : Int} (ha : 0 ≤ a ∧ a < c.length) (hb : 0 ≤ b ∧ b < c.length) : massC (joinC c a b) ≤ massC c := by
  refine mass_le _ fun v hv => ?_
  have := h.nonneg hv
  have := h.nonneg (atC_mem ha)
  have := h.nonneg (atC_mem hb)
  split <;> omega
theorem joinC_mass (h : RefOk T S c) {a b : Int} (ha : 0 ≤ a ∧ a < c.length) (hb : 0 ≤ b ∧ b < c.length) (hne : ¬ atC c a = atC c b) : massC (joinC c a b) < massC c := by
  have h1 := h.nonneg (atC_mem ha)
  have h2 := h.nonneg (atC_mem hb)
  refine mass_lt _ (fun v hv => ?_) ?_
  · have := h.nonneg hv
    split <;> omega
  · rcases Int.le_total (atC c a) (atC c b) with hle | hle
    · refine ⟨_, atC_mem hb, ?_⟩
      rw [if_pos (.inr rfl)]
      omega
    · refine ⟨_, atC_mem ha, ?_⟩
      rw [if_pos (.inl rfl)]
      omega
theorem start_mass (n : Nat) : massC (startC n) ≤ n * n := by
  have key : ∀ (l : List Nat) (b : Nat), (∀ x ∈ l, x ≤ b) → ((l.map fun (i : Nat) => (i : Int)).map Int.toNat).sum ≤ l.length * b := fun l b => by
    induction l with
    | nil => simp
    | cons x l ih =>
      intro h
      have h1 := ih fun y hy => h y (List.mem_cons_of_mem _ hy)
      have h2 := h x (by simp)
      simp only [List.map_cons, List.sum_cons, List.length_cons, Int.toNat_natCast, Nat.add_mul, Nat.one_mul]
      omega
  have := key (List.range n) n (fun x hx => Nat.le_of_lt (List.mem_range.1 hx))
  simpa [massC, startC] using this
end
end Go.Proofs.Ytbgbhfmchpdkcaa

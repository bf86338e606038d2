/- The laws' plain side. -/
import Derived.Test.YtlganicnbcnngaaClK
import Derived.Test.YtlganicnbcnngaaMade
import Derived.Test.YtlganicnbcnngaaOpen
namespace Go.Proofs.Ytlganicnbcnngaa
open Go.RowKit Go.Lib

/-- A slice of integers that came in, as a row. -/
theorem IsRow.row {k : IntKind} {w : World} {A : Option Addr} {l c : Nat} {z : List Int} (h : IsRow k w A l c z) (hl : l ≤ 1000000) :
    ∃ zs : List Int, zs.length = l ∧ Row k w A zs ∧ (A = none → c = 0) ∧ l ≤ c ∧ c ≤ maxLen ∧ ∀ x ∈ zs, (Lit.int k x).wf = true := by
  rcases h with ⟨rfl, rfl, rfl, rfl⟩ | ⟨x, rfl, h1, h2, h3, h4, h5⟩
  · exact ⟨[], rfl, ⟨by simp, .inl rfl⟩, fun _ => rfl, Nat.le_refl _, by simp, fun x hx => by cases hx⟩
  · have hlen : (z.take l).length = l := by rw [List.length_take]; omega
    refine ⟨z.take l, hlen, ⟨by rw [hlen]; exact hl, ?_⟩, (fun h => by cases h), h1, h2, fun y hy => h5 y (List.mem_of_mem_take hy)⟩
    rcases Nat.eq_zero_or_pos l with h0 | h0
    · exact .inl (by rw [hlen, h0])
    · have c0 := h4 0 (by omega)
      have hs : x.spot = none := World.cell?_spot (by simpa [Addr.add] using c0)
      obtain ⟨b, off, sp⟩ := x
      cases hs
      refine .inr ⟨b, off, rfl, World.block_lt_of_cell? _ _ (by simpa [Addr.add] using c0), fun i hi => ?_⟩
      have hi' : i < l := by rw [hlen] at hi; exact hi
      have e1 : (⟨b, off, none⟩ : Addr).add i = ⟨b, off + i, none⟩ := by unfold Addr.add; split <;> simp_all
      rw [← e1, h4 i (by omega), List.getElem_take, List.getD_eq_getElem?_getD, List.getElem?_eq_getElem (by omega)]
      rfl
theorem wf_le {x : Int} (h : (Lit.int .i64 x).wf = true) : x ≤ 9223372036854775807 := by
  simp [Lit.wf, IntKind.min, IntKind.max, IntKind.bits, IntKind.signed] at h
  omega

theorem negM_neg {x : Int} (_ : 0 ≤ x) : negM (negM x) = x := by
  unfold negM
  by_cases hp : x % 2 = 0
  · rw [if_pos hp, if_neg (by omega)]; omega
  · rw [if_neg hp, if_pos (by omega)]; omega
theorem negM_nn {x : Int} (h : 0 ≤ x) : 0 ≤ negM x := by
  unfold negM
  split <;> omega
theorem negM_half {x : Int} (_ : 0 ≤ x) : negM x / 2 = x / 2 := by
  unfold negM
  split <;> omega

/-- Assigned all through, for literals below 120. -/
def Two (L : List Int) (k : Nat) : Prop := L.length = 60 ∧ ∀ i, i < k → L[i]? = some 1 ∨ L[i]? = some 2
theorem val_two {L : List Int} (h : Two L 60) {x : Int} (h0 : 0 ≤ x) (h1 : x < 120) : valM L x = 1 ∨ valM L x = 2 := by
  unfold valM
  rw [if_neg (by omega)]
  rcases h.2 (x / 2).toNat (by omega) with e | e
  · rw [e]
    by_cases hp : x % 2 = 0 <;> simp [hp]
  · rw [e]
    by_cases hp : x % 2 = 0 <;> simp [hp]
theorem val_neg {L : List Int} (h : Two L 60) {x : Int} (h0 : 0 ≤ x) (h1 : x < 120) (hv : valM L x ≠ 1) : valM L (negM x) = 1 := by
  have hn := negM_nn h0
  have hh := negM_half h0
  unfold valM at hv ⊢
  rw [if_neg (by omega)] at hv
  rw [if_neg (by omega), hh]
  have hx : negM x % 2 = if x % 2 = 0 then 1 else 0 := by unfold negM; split <;> omega
  rcases h.2 (x / 2).toNat (by omega) with e | e
  · rw [e] at hv ⊢
    by_cases hp : x % 2 = 0 <;> simp [hp, hx] at hv ⊢
  · rw [e] at hv ⊢
    by_cases hp : x % 2 = 0 <;> simp [hp, hx] at hv ⊢

/-- A clause holds just if one of its literals does. -/
theorem st_true (vals : List Int) : ∀ (c : List Int) (o : Nat) (l : Int), (stM vals c o l).1 = 0 ↔ ∃ x ∈ c, valM vals x = 1
  | [], o, l => by
    unfold stM
    constructor
    · intro h
      split at h
      · cases h
      · split at h <;> cases h
    · rintro ⟨x, hx, _⟩
      cases hx
  | x :: r, o, l => by
    unfold stM
    by_cases h1 : valM vals x = 1
    · rw [if_pos h1]
      exact ⟨fun _ => ⟨x, List.mem_cons_self, h1⟩, fun _ => rfl⟩
    · rw [if_neg h1]
      have key : (∃ y ∈ x :: r, valM vals y = 1) ↔ ∃ y ∈ r, valM vals y = 1 := by
        constructor
        · rintro ⟨y, hy, hv⟩
          rcases List.mem_cons.1 hy with rfl | hy
          · exact absurd hv h1
          · exact ⟨y, hy, hv⟩
        · rintro ⟨y, hy, hv⟩
          exact ⟨y, List.mem_cons_of_mem _ hy, hv⟩
      rw [key]
      split
      · exact st_true vals r _ _
      · exact st_true vals r _ _
/-- A clause all of whose literals are false is false. -/
theorem st_false (vals : List Int) : ∀ (c : List Int), (∀ x ∈ c, valM vals x = 2) → stM vals c 0 (-1) = (1, -1)
  | [], _ => rfl
  | x :: r, h => by
    unfold stM
    have h1 := h x List.mem_cons_self
    rw [if_neg (by rw [h1]; decide), if_neg (by rw [h1]; decide)]
    exact st_false vals r fun y hy => h y (List.mem_cons_of_mem _ hy)
theorem nh_iff (vals : List Int) (A : Option Addr) (ca : Nat) (c : List Int) : nhP vals (A, ca, c) = false ↔ ∃ x ∈ c, valM vals x = 1 := by
  unfold nhP
  rw [← st_true vals c 0 (-1)]
  simp

theorem mem_make (l : List Int) (x : Int) : x ∈ makeM l ↔ x ∈ l ∧ 0 ≤ x := by
  unfold makeM
  rw [made_mem, List.mem_filter]
  simp
theorem make_ord (l : List Int) : Ord (makeM l) := made_ord _
theorem make_eq {l m : List Int} (h : ∀ x, 0 ≤ x → (x ∈ l ↔ x ∈ m)) : makeM l = makeM m := by
  refine ord_ext (make_ord l) (make_ord m) fun x => ?_
  rw [mem_make, mem_make]
  constructor
  · rintro ⟨h1, h2⟩
    exact ⟨(h x h2).1 h1, h2⟩
  · rintro ⟨h1, h2⟩
    exact ⟨(h x h2).2 h1, h2⟩
theorem make_make (l : List Int) : makeM (makeM l) = makeM l := make_eq fun x hx => by rw [mem_make]; exact ⟨fun h => h.1, fun h => ⟨h, hx⟩⟩
theorem is_make (l : List Int) : (makeM l == makeM (makeM l)) = true := by rw [make_make]; simp
theorem within_iff (a b : List Int) : (!a.any (outP b)) = true ↔ ∀ x ∈ a, x ∈ b := by
  simp [outP]
theorem mem_wo (lit x : Int) (l : List Int) : x ∈ woM lit l ↔ x ∈ l ∧ x ≠ lit := by
  unfold woM
  rw [List.mem_filter]
  simp
theorem mem_res (a b : List Int) (lit x : Int) : x ∈ resM a b lit ↔ ((x ∈ a ∧ x ≠ lit) ∨ (x ∈ b ∧ x ≠ negM lit)) ∧ 0 ≤ x := by
  unfold resM
  rw [mem_make, List.mem_append, mem_wo, mem_wo]
theorem can_turn (a b : List Int) {lit : Int} (h : 0 ≤ lit) : canM b a (negM lit) = canM a b lit := by
  unfold canM
  rw [negM_neg h, decide_eq_true h, decide_eq_true (negM_nn h), Bool.and_comm (decide (negM lit ∈ b))]
theorem res_turn (a b : List Int) {lit : Int} (h : 0 ≤ lit) : resM b a (negM lit) = resM a b lit := by
  refine ord_ext (make_ord _) (make_ord _) fun x => ?_
  rw [mem_res, mem_res, negM_neg h, or_comm]
theorem res_holds {L a b : List Int} (h : Two L 60) (ha : ∀ x ∈ a, 0 ≤ x ∧ x < 120) (hb : ∀ x ∈ b, 0 ≤ x ∧ x < 120) {lit : Int} (h1 : ∃ x ∈ a, valM L x = 1) (h2 : ∃ x ∈ b, valM L x = 1) : ∃ x ∈ resM a b lit, valM L x = 1 := by
  obtain ⟨x, hx, hvx⟩ := h1
  obtain ⟨y, hy, hvy⟩ := h2
  by_cases e : x = lit
  · by_cases e2 : y = negM lit
    · exfalso
      subst e e2
      have hx0 := ha x hx
      unfold valM at hvx hvy
      rw [if_neg (by omega)] at hvx
      have hn := negM_nn hx0.1
      rw [if_neg (by omega), negM_half hx0.1] at hvy
      have hx : negM x % 2 = if x % 2 = 0 then 1 else 0 := by unfold negM; split <;> omega
      rcases h.2 (x / 2).toNat (by omega) with e | e
      · rw [e] at hvx hvy
        by_cases hp : x % 2 = 0 <;> simp [hp, hx] at hvx hvy
      · rw [e] at hvx hvy
        by_cases hp : x % 2 = 0 <;> simp [hp, hx] at hvx hvy
    · exact ⟨y, (mem_res _ _ _ _).2 ⟨.inr ⟨hy, e2⟩, (hb y hy).1⟩, hvy⟩
  · exact ⟨x, (mem_res _ _ _ _).2 ⟨.inl ⟨hx, e⟩, (ha x hx).1⟩, hvx⟩

/-- An assignment against a clause. -/
def against (L : List Int) (x : Int) : List Int := L.set (x / 2).toNat (if x % 2 = 1 then 1 else 2)
theorem against_len (zs : List Int) : ∀ L : List Int, (zs.foldl against L).length = L.length := by
  induction zs with
  | nil => intro L; rfl
  | cons x r ih => intro L; rw [List.foldl_cons, ih]; unfold against; rw [List.length_set]
theorem against_get : ∀ (zs : List Int) (L : List Int) (x : Int), (∀ y ∈ zs, 0 ≤ y ∧ y < 120) → L.length = 60 → (∀ y ∈ zs, y / 2 = x / 2 → y = x) → 0 ≤ x → x < 120 → (x ∈ zs ∨ L[(x / 2).toNat]? = some (if x % 2 = 1 then 1 else 2)) →
    (zs.foldl against L)[(x / 2).toNat]? = some (if x % 2 = 1 then 1 else 2)
  | [], L, x, _, _, _, _, _, h => by
    rcases h with h | h
    · cases h
    · exact h
  | y :: r, L, x, hz, hL, hu, h0, h1, h => by
    rw [List.foldl_cons]
    have hy := hz y List.mem_cons_self
    refine against_get r _ x (fun z hz' => hz z (List.mem_cons_of_mem _ hz')) (by unfold against; rw [List.length_set, hL]) (fun z hz' => hu z (List.mem_cons_of_mem _ hz')) h0 h1 ?_
    by_cases e : y = x
    · right
      subst e
      unfold against
      rw [List.getElem?_set_self (by omega)]
    · have hne : y / 2 ≠ x / 2 := fun h => e (hu y List.mem_cons_self h)
      rcases h with h | h
      · rcases List.mem_cons.1 h with h | h
        · exact absurd h.symm e
        · exact .inl h
      · right
        unfold against
        rw [List.getElem?_set_ne (by omega)]
        exact h
theorem against_false {zs L : List Int} (hz : ∀ y ∈ zs, 0 ≤ y ∧ y < 120) (hL : L.length = 60) (hn : zs.any (idleP zs) = false) : stM (zs.foldl against L) zs 0 (-1) = (1, -1) := by
  refine st_false _ _ fun x hx => ?_
  have h0 := hz x hx
  have hu : ∀ y ∈ zs, y / 2 = x / 2 → y = x := by
    intro y hy he
    by_cases e : y = x
    · exact e
    · exfalso
      have hy0 := hz y hy
      have e2 : negM x = y := by unfold negM; split <;> omega
      have : zs.any (idleP zs) = true := List.any_eq_true.2 ⟨x, hx, by unfold idleP; rw [e2]; simp [h0.1, hy]⟩
      rw [this] at hn
      cases hn
  have hg := against_get zs L x hz hL hu h0.1 h0.2 (.inl hx)
  unfold valM
  rw [if_neg (by omega), hg]
  by_cases hp : x % 2 = 0
  · simp [hp]
  · simp [show x % 2 = 1 by omega]
theorem idle_true {zs L : List Int} (hz : ∀ y ∈ zs, 0 ≤ y ∧ y < 120) (hL : Two L 60) (hn : zs.any (idleP zs) = true) : (stM L zs 0 (-1)).1 = 0 := by
  rw [st_true]
  obtain ⟨x, hx, hp⟩ := List.any_eq_true.1 hn
  unfold idleP at hp
  rw [Bool.and_eq_true] at hp
  have h0 := hz x hx
  by_cases hv : valM L x = 1
  · exact ⟨x, hx, hv⟩
  · exact ⟨negM x, of_decide_eq_true hp.2, val_neg hL h0.1 h0.2 hv⟩
end Go.Proofs.Ytlganicnbcnngaa

/- The plain side of ShareNumbers and ShareHolds. -/
import Derived.Test.YtlipnnibagidiaaGreatSpR
import Derived.Test.YtlipnnibagidiaaGreatRfC
import Derived.Test.YtlipnnibagidiaaGreatNuB
namespace Go.Proofs.YtlipnnibagidiaaGreat

/-- A node's number: its base's, and its offset. -/
def numV (nums : Int → Int) (T : List Nd) (x : Int) : Int := (if (baseT T x).1 = 1 then 0 else nums (baseT T x).1) + (baseT T x).2
/-- The assignment that numbers make. -/
def asgN (nums : Int → Int) (T : List Nd) (i : Int) : Int :=
  if (ndAt T i).op = 12 ∧ numV nums T (ndAt T i).a0 - numV nums T (ndAt T i).a1 ≤ (ndAt T i).num then 1
  else if (ndAt T i).op = 6 ∧ (ndAt T (ndAt T i).a0).sort = 1 ∧ numV nums T (ndAt T i).a0 = numV nums T (ndAt T i).a1 then 1 else 2
theorem base_base {T : List Nd} (hc : CoreT T) (hs : SumT T) {x : Int} (hx : Shd T x) : baseT T (baseT T x).1 = ((baseT T x).1, 0) := by
  have h := (base_own hc hs hx)
  have ho := h.1
  unfold ownB at ho
  simp only [Bool.and_eq_true, decide_eq_true_eq] at ho
  generalize (baseT T x).1 = b at *
  have h1 := ho.1
  unfold baseT at h1 ⊢
  by_cases h11 : (ndAt T b).op = 11
  · rw [if_pos h11] at h1
    obtain ⟨k, hk, hkn, hst⟩ := hc.ok.stands (ndAt_mem h.2.1 h.2.2.1)
    have ha := hst.one (.inr h11)
    have h1' : (ndAt T b).a0 = b := h1
    have hkb : (k : Int) = b := by
      obtain ⟨bn, rfl⟩ : ∃ n : Nat, b = n := ⟨b.toNat, by omega⟩
      rw [ndAt_nat (by omega)] at hkn
      obtain ⟨_, e2⟩ := List.getElem?_eq_some_iff.1 hkn
      have := (List.getElem_inj (i := k) (j := bn) (h₀ := hk) (h₁ := by omega) hc.ok.once).1 e2
      omega
    omega
  · rw [if_neg h11] at h1 ⊢
    by_cases h10 : (ndAt T b).op = 10
    · rw [if_pos h10] at h1 ⊢
      have h1' : (1 : Int) = b := h1
      rw [← h1', show ndAt T 1 = zeroNd from ndAt_some (i := 1) hc.ok.t1]
      rfl
    · rw [if_neg h10]
theorem numV_base {nums : Int → Int} {T : List Nd} (hc : CoreT T) (hs : SumT T) {x : Int} (hx : Shd T x) : numV nums T x = numV nums T (baseT T x).1 + (baseT T x).2 := by
  unfold numV
  rw [base_base hc hs hx]
  simp
theorem idx_at {T : List Nd} {n : Nd} (h : n ∈ T) : ndAt T (T.idxOf n : Nat) = n := by
  have hl := List.idxOf_lt_length_iff.2 h
  rw [ndAt_nat hl]
  simp
/-- Numbers of bases: the clauses hold. -/
theorem numbers_hold {T T' : List Nd} (hc : CoreT T) (hs : SumT T) {most : Int} (he : (putS T most).e = 0) (hT : (putS T most).T = T') (nums : Int → Int) : clsOn (asgN nums T') (allT T') := by
  rcases putS_is hc hs most with ⟨_, g, l, hl⟩ | ⟨h, _⟩
  rotate_left
  · rw [he] at h
    rcases h with h | h <;> cases h
  rw [hT] at g l
  have e := nodesT_grew g
  have hs' := hs.grew g hc
  refine all_hold (val := numV nums T') (by rw [e]; exact l) (fun x hx => numV_base g.core hs' (mem_nodes hx).1) (fun x y hx hy hb => base_inj g.core (mem_nodes hx).1 (mem_nodes hy).1 hb) (fun i => ?_) (fun x y hx hy hxy hm => ?_) (fun b c d hm => ?_)
  · unfold asgN
    split
    · exact .inl rfl
    · split
      · exact .inl rfl
      · exact .inr rfl
  · have h1 := idx_at hm
    have h2 := (mem_nodes hx).1.sort
    unfold asgN
    rw [h1]
    have e6 : (eqNd x y).op = 6 := rfl
    have ea : (eqNd x y).a0 = x := rfl
    have eb : (eqNd x y).a1 = y := rfl
    rw [e6, ea, eb, if_neg (by rintro ⟨h, _⟩; exact absurd h (by decide))]
    by_cases hv : numV nums T' x = numV nums T' y
    · rw [if_pos ⟨rfl, h2, hv⟩]
      exact ⟨fun _ => hv, fun _ => rfl⟩
    · rw [if_neg (fun h => hv h.2.2)]
      exact ⟨fun h => absurd h (by decide), fun h => absurd h hv⟩
  · have h1 := idx_at hm
    unfold asgN
    rw [h1]
    have e6 : (diffNd b c d).op = 12 := rfl
    have ea : (diffNd b c d).a0 = b := rfl
    have eb : (diffNd b c d).a1 = c := rfl
    have ed : (diffNd b c d).num = d := rfl
    rw [e6, ea, eb, ed]
    by_cases hv : numV nums T' b - numV nums T' c ≤ d
    · rw [if_pos ⟨rfl, hv⟩]
      exact ⟨fun _ => hv, fun _ => rfl⟩
    · rw [if_neg (fun h => hv h.2), if_neg (by rintro ⟨h, _⟩; exact absurd h (by decide))]
      exact ⟨fun h => absurd h (by decide), fun h => absurd h hv⟩
/-- What of a world's values the clauses of shared nodes want. -/
structure SemI (T : List Nd) (val : Int → Int) : Prop where
  eq : ∀ i : Int, 0 ≤ i → i < T.length → (ndAt T i).op = 6 → val i = bitI (val (ndAt T i).a0 = val (ndAt T i).a1)
  num : ∀ i : Int, 0 ≤ i → i < T.length → (ndAt T i).op = 10 → val i = (ndAt T i).num
  add : ∀ i : Int, 0 ≤ i → i < T.length → (ndAt T i).op = 11 → val i = val (ndAt T i).a0 + (ndAt T i).num
  diff : ∀ i : Int, 0 ≤ i → i < T.length → (ndAt T i).op = 12 → val i = bitI (val (ndAt T i).a0 - val (ndAt T i).a1 ≤ (ndAt T i).num)
theorem bitI_cases (p : Prop) [Decidable p] : bitI p = 0 ∨ bitI p = 1 := by
  unfold bitI
  split
  · exact .inr rfl
  · exact .inl rfl
theorem semI_base {T : List Nd} (hc : CoreT T) {val : Int → Int} (hv : SemI T val) {x : Int} (hx : Shd T x) : val x = val (baseT T x).1 + (baseT T x).2 := by
  unfold baseT
  split
  · rename_i h11
    exact hv.add x hx.lo hx.hi h11
  · split
    · rename_i h10
      have h1 : ndAt T 1 = zeroNd := ndAt_some (i := 1) hc.ok.t1
      have hl := hc.ok.len
      have z := hv.num 1 (by decide) (by omega) (by rw [h1]; rfl)
      rw [h1] at z
      have z' : val 1 = 0 := z
      have := hv.num x hx.lo hx.hi h10
      show val x = val 1 + (ndAt T x).num
      omega
    · show val x = val x + 0
      omega
/-- In each world the clauses hold. -/
theorem worlds_hold {T T' : List Nd} (hc : CoreT T) (hs : SumT T) {most : Int} (he : (putS T most).e = 0) (hT : (putS T most).T = T') {val : Int → Int} (hv : SemI T' val) {a : Int → Int} (ha : ∀ i : Int, 0 ≤ i → i < T'.length → (ndAt T' i).sort = 0 → a i = 2 - val i) : ∀ c ∈ allT T', ∃ x ∈ c, litOn a x := by
  rcases putS_is hc hs most with ⟨_, g, l, hl⟩ | ⟨h, _⟩
  rotate_left
  · rw [he] at h
    rcases h with h | h <;> cases h
  rw [hT] at g l
  have e := nodesT_grew g
  have hs' := hs.grew g hc
  -- an assignment that is as a where it matters, and 1 or 2 elsewhere
  have key : clsOn (fun i => if a i = 1 then 1 else 2) (allT T') := by
    have two : ∀ n : Nd, n ∈ T' → n.op = 6 ∨ n.op = 12 → n.sort = 0 → (val (T'.idxOf n : Nat) = 0 ∨ val (T'.idxOf n : Nat) = 1) ∧ a (T'.idxOf n : Nat) = 2 - val (T'.idxOf n : Nat) := fun n hn ho h0 => by
      have hl := List.idxOf_lt_length_iff.2 hn
      have h1 := idx_at hn
      refine ⟨?_, ha _ (by omega) (by omega) (by rw [h1]; exact h0)⟩
      rcases ho with ho | ho
      · rw [hv.eq ((T'.idxOf n : Nat) : Int) (by omega) (by omega) (by rw [h1]; exact ho)]
        exact bitI_cases _
      · rw [hv.diff ((T'.idxOf n : Nat) : Int) (by omega) (by omega) (by rw [h1]; exact ho)]
        exact bitI_cases _
    refine all_hold (val := val) (by rw [e]; exact l) (fun x hx => semI_base g.core hv (mem_nodes hx).1) (fun x y hx hy hb => base_inj g.core (mem_nodes hx).1 (mem_nodes hy).1 hb) (fun i => ?_) (fun x y hx hy hxy hm => ?_) (fun b c d hm => ?_)
    · split
      · exact .inl rfl
      · exact .inr rfl
    · obtain ⟨v, ea⟩ := two _ hm (.inl rfl) rfl
      have hl := List.idxOf_lt_length_iff.2 hm
      have h1 := idx_at hm
      have hq := hv.eq ((T'.idxOf (eqNd x y) : Nat) : Int) (by omega) (by omega) (by rw [h1]; rfl)
      rw [h1] at hq
      have hq' : val (T'.idxOf (eqNd x y) : Nat) = bitI (val x = val y) := hq
      unfold bitI at hq'
      by_cases hxy' : val x = val y
      · rw [if_pos hxy'] at hq'
        simp [ea, hq', hxy']
      · rw [if_neg hxy'] at hq'
        simp [ea, hq', hxy']
    · obtain ⟨v, ea⟩ := two _ hm (.inr rfl) rfl
      have hl := List.idxOf_lt_length_iff.2 hm
      have h1 := idx_at hm
      have hq := hv.diff ((T'.idxOf (diffNd b c d) : Nat) : Int) (by omega) (by omega) (by rw [h1]; rfl)
      rw [h1] at hq
      have hq' : val (T'.idxOf (diffNd b c d) : Nat) = bitI (val b - val c ≤ d) := hq
      unfold bitI at hq'
      by_cases hxy' : val b - val c ≤ d
      · rw [if_pos hxy'] at hq'
        simp [ea, hq', hxy']
      · rw [if_neg hxy'] at hq'
        simp [ea, hq', hxy']
  intro c hcl
  obtain ⟨x, hx, hon⟩ := key c hcl
  refine ⟨x, hx, ?_⟩
  -- the literal's node is an equality or a difference
  have hnode : ∃ n ∈ T', (n.op = 6 ∨ n.op = 12) ∧ n.sort = 0 ∧ x / 2 = (T'.idxOf n : Nat) := by
    unfold allT at hcl
    obtain ⟨p, hp, hc2⟩ := List.mem_flatMap.1 hcl
    rw [e] at hp
    have hlp := l p hp
    unfold of2 at hc2
    rw [if_pos hlp.eq, if_pos hlp.may] at hc2
    have f0 := litT_half (T := T') (n := eqNd p.1 p.2)
    rcases hlp.dif with hb | ⟨hb, d1, d2⟩
    · rw [if_pos hb] at hc2
      simp at hc2
      subst hc2
      obtain rfl := List.mem_singleton.1 hx
      exact ⟨_, hlp.eq, .inl rfl, rfl, f0.2.2.1⟩
    · rw [if_neg hb, if_pos ⟨d1, d2⟩] at hc2
      have f1 := litT_half (T := T') (n := diffNd (baseT T' p.1).1 (baseT T' p.2).1 (difN T' p.1 p.2))
      have f2 := litT_half (T := T') (n := diffNd (baseT T' p.2).1 (baseT T' p.1).1 (difN T' p.2 p.1))
      simp only [Option.getD_some, List.mem_cons, List.not_mem_nil, or_false] at hc2
      rcases hc2 with rfl | rfl | rfl
      · have hx' := ((mem_make _ _).1 hx).1
        simp only [List.mem_cons, List.not_mem_nil, or_false] at hx'
        rcases hx' with rfl | rfl
        · exact ⟨_, hlp.eq, .inl rfl, rfl, f0.2.2.1⟩
        · exact ⟨_, d1, .inr rfl, rfl, f1.1⟩
      · have hx' := ((mem_make _ _).1 hx).1
        simp only [List.mem_cons, List.not_mem_nil, or_false] at hx'
        rcases hx' with rfl | rfl
        · exact ⟨_, hlp.eq, .inl rfl, rfl, f0.2.2.1⟩
        · exact ⟨_, d2, .inr rfl, rfl, f2.1⟩
      · have hx' := ((mem_make _ _).1 hx).1
        simp only [List.mem_cons, List.not_mem_nil, or_false] at hx'
        rcases hx' with rfl | rfl | rfl
        · exact ⟨_, hlp.eq, .inl rfl, rfl, f0.1⟩
        · exact ⟨_, d1, .inr rfl, rfl, f1.2.2.1⟩
        · exact ⟨_, d2, .inr rfl, rfl, f2.2.2.1⟩
  obtain ⟨n, hn, ho, h0, hxi⟩ := hnode
  have hl := List.idxOf_lt_length_iff.2 hn
  have h1 := idx_at hn
  have h2 := ha (x / 2) (by omega) (by omega) (by rw [hxi, h1]; exact h0)
  have hv2 : val (x / 2) = 0 ∨ val (x / 2) = 1 := by
    rcases ho with ho | ho
    · rw [hv.eq (x / 2) (by omega) (by omega) (by rw [hxi, h1]; exact ho)]
      exact bitI_cases _
    · rw [hv.diff (x / 2) (by omega) (by omega) (by rw [hxi, h1]; exact ho)]
      exact bitI_cases _
  unfold litOn at hon ⊢
  dsimp only at hon
  rcases hv2 with h | h
  · rw [h] at h2
    rw [if_neg (by omega)] at hon
    omega
  · rw [h] at h2
    rw [if_pos (by omega)] at hon
    omega
end Go.Proofs.YtlipnnibagidiaaGreat

/- gantrylaw26.number: a node's number, its base's and its offset. -/
namespace Go.Proofs.YtlipnnibagidiaaGreat
open Go.RowKit Go.Lib

/-- The numbers of bases, taken from a row. -/
def numF (L : List Int) (b : Int) : Int := L[(b % (L.length : Int)).toNat]?.getD 0
theorem numF_at {L : List Int} {b : Int} (hp : 0 < L.length) : 0 ≤ b % (L.length : Int) ∧ b % (L.length : Int) < (L.length : Int) ∧ ∃ h : (b % (L.length : Int)).toNat < L.length, numF L b = L[(b % (L.length : Int)).toNat] := by
  have h0 := Int.emod_nonneg b (show (L.length : Int) ≠ 0 by omega)
  have h1 := Int.emod_lt_of_pos b (show (0 : Int) < (L.length : Int) by omega)
  have h2 : (b % (L.length : Int)).toNat < L.length := by omega
  refine ⟨h0, h1, h2, ?_⟩
  unfold numF
  rw [List.getElem?_eq_getElem h2]
  rfl
theorem numF_le {L : List Int} (hb : ∀ x ∈ L, -1048576 ≤ x ∧ x ≤ 1048576) (b : Int) : -1048576 ≤ numF L b ∧ numF L b ≤ 1048576 := by
  unfold numF
  cases h : L[(b % (L.length : Int)).toNat]? with
  | none => exact ⟨by decide, by decide⟩
  | some v => exact hb v (List.mem_of_getElem? h)
set_option maxRecDepth 100000 in
set_option maxHeartbeats 2000000 in
theorem number_ok {T : List Nd} {w : World} {A NA : Option Addr} {L : List Int} (c nc : Nat) (h : Tab w A T) (hT : TabOk T) (ho : ordB T = true) {id : Int} (hid : Shd T id) (hb0 : 0 ≤ (baseT T id).1) (hN : Row w NA L) (hp : 0 < L.length) (hb : ∀ x ∈ L, -1048576 ≤ x ∧ x ≤ 1048576) (hn : -1099511627776 ≤ (baseT T id).2 ∧ (baseT T id).2 ≤ 1099511627776) :
    Calls Tryz.prog 35 #[.agg #[.slice A T.length c], .int .i64 id, .slice NA L.length nc] w (fun e w' => e = .returned (.int .i64 (numV (numF L) T id)) ∧ Below w.heap.size w w') := by
  have hlen := h.len
  have hl2 := hN.len
  have HB0 : Hid (Below w.heap.size w (w.alloc (.cells #[.slice A T.length c] 33))) := Lib.hid ((Below.refl _ w).alloc (Nat.le_refl _) _)
  have hi64 : In64 id := by have := hid.lo; have := hid.hi; unfold In64; omega
  have KO := rof_ok c id hi64 (h.below HB0.out) (fun _ => ho)
  rw [ofT_shd hT hid] at KO
  have HG : Hid (numV (numF L) T id = (if (baseT T id).1 = 1 then 0 else numF L (baseT T id).1) + (baseT T id).2) := Lib.hid rfl
  have KO := Lib.hid KO
  obtain ⟨b, hbq⟩ : ∃ b, (baseT T id).1 = b := ⟨_, rfl⟩
  obtain ⟨n, hnq⟩ : ∃ n, (baseT T id).2 = n := ⟨_, rfl⟩
  rw [hbq, hnq] at HG KO
  rw [hbq] at hb0
  rw [hnq] at hn
  have HN := Lib.hid hN
  obtain ⟨g0, g1, g2, g3⟩ := numF_at (b := b) hp
  have hle := numF_le hb b
  have HBn := Lib.hid hb
  clear h hT ho hid hN hi64 hbq hnq hb
  go_enter Tryz.func35, Tryz.ntmps35
  go_wp2_with fail
  refine KO.out.mono ?_
  rintro e w1 ⟨rfl, hb1⟩
  have HB1 := Lib.hid (HB0.out.trans (hb1.mono HB0.out.size))
  clear hb1
  by_cases h1 : b = 1
  · subst h1
    have HG1 : Hid (numV (numF L) T id = n) := Lib.hid (by rw [HG.out, if_pos rfl, Int.zero_add])
    clear g0 g1 g2 g3 hle hb0 HG
    go_wp2
    go_ret
    rw [HG1.out]
    exact ⟨rfl, HB1.out⟩
  · have e1 : (b == 1) = false := by simpa using h1
    have HG2 : Hid (numV (numF L) T id = numF L b + n) := Lib.hid (by rw [HG.out, if_neg h1])
    clear h1 HG
    obtain ⟨rb, roff, hRA, hrb, hrc⟩ := (HN.out.below HB1.out).at_.resolve_left (by omega)
    have y0 := hrc _ g2
    rw [← g3] at y0
    subst hRA
    obtain ⟨m, hm⟩ : ∃ m : Nat, b % (L.length : Int) = m := ⟨(b % (L.length : Int)).toNat, (Int.toNat_of_nonneg g0).symm⟩
    have hm2 : b.tmod (L.length : Int) = (m : Int) := by rw [Int.tmod_eq_emod_of_nonneg hb0, hm]
    rw [hm] at y0 g0 g1
    rw [Int.toNat_natCast] at y0
    have z0 : ((L.length : Int) == 0) = false := beq_eq_false_iff_ne.2 (by omega)
    obtain ⟨v, hv⟩ : ∃ v, numF L b = v := ⟨_, rfl⟩
    rw [hv] at y0 hle HG2
    have hw : IntKind.i64.wrap (m : Int) = m := by unfold IntKind.wrap; simp [IntKind.bits, IntKind.signed]; omega
    have hw2 : IntKind.i64.wrap (v + n) = v + n := by unfold IntKind.wrap; simp [IntKind.bits, IntKind.signed]; omega
    clear hrc g3 g2 hm hv
    go_wp2
    go_ret
    rw [HG2.out]
    exact ⟨rfl, HB1.out⟩
end Go.Proofs.YtlipnnibagidiaaGreat

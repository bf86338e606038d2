/- The units of an assignment. -/
import Derived.Test.YtmbekchnfbmhbaaGreatSrV
namespace Go.Proofs.YtmbekchnfbmhbaaGreat
open Go.RowKit Go.Lib

def uLit (i : Nat) (v : Int) : Int := 2 * (i : Int) + (if v = 2 then 1 else 0)
def unitsOf (vals : List Int) : List (List Int) := (List.range vals.length).map fun i => [uLit i (vals.getD i 0)]
theorem uLit_rng (i : Nat) (v : Int) : 0 ≤ uLit i v ∧ uLit i v / 2 = i := by
  unfold uLit
  split <;> omega
theorem negM_uLit (i : Nat) (v : Int) : negM (uLit i v) = 2 * (i : Int) + (if v = 2 then 0 else 1) := by
  unfold negM uLit
  split <;> split <;> omega
theorem val_uLit {vals : List Int} {i : Nat} (hi : i < vals.length) (h : vals[i] = 1 ∨ vals[i] = 2) : valM vals (uLit i vals[i]) = 1 := by
  have hr := uLit_rng i vals[i]
  unfold valM
  rw [if_neg (by omega), hr.2, Int.toNat_natCast, List.getElem?_eq_getElem hi]
  unfold uLit
  rcases h with e | e <;> simp [e] <;> omega
theorem units_len (vals : List Int) : (unitsOf vals).length = vals.length := by unfold unitsOf; rw [List.length_map, List.length_range]
theorem units_at {vals : List Int} {i : Nat} (hi : i < vals.length) : (unitsOf vals)[i]'(by rw [units_len]; exact hi) = [uLit i vals[i]] := by
  unfold unitsOf
  rw [List.getElem_map, List.getElem_range, List.getD_eq_getElem?_getD, List.getElem?_eq_getElem hi]
  rfl
theorem units_take {vals : List Int} {i : Nat} (hi : i < vals.length) : (unitsOf vals).take (i + 1) = (unitsOf vals).take i ++ [[uLit i vals[i]]] := by
  rw [List.take_succ_eq_append_getElem (by rw [units_len]; exact hi), units_at hi]
theorem units_mem {vals : List Int} {c : List Int} (h : c ∈ unitsOf vals) : ∃ i, ∃ hi : i < vals.length, c = [uLit i vals[i]] := by
  obtain ⟨i, hi, rfl⟩ := List.mem_iff_getElem.1 h
  rw [units_len] at hi
  exact ⟨i, hi, units_at hi⟩
theorem units_hold {vals : List Int} (h12 : ∀ x ∈ vals, x = 1 ∨ x = 2) {rows : List (List Int)} (h : holdsM vals rows = true) : holdsM vals (rows ++ unitsOf vals) = true := by
  rw [← holds_iff] at h ⊢
  intro c hc
  rcases List.mem_append.1 hc with hc | hc
  · exact h c hc
  · obtain ⟨i, hi, rfl⟩ := units_mem hc
    exact ⟨_, List.mem_singleton_self _, val_uLit hi (h12 _ (List.getElem_mem hi))⟩
theorem may_more {n b : Int} {R U : List RowT} (h : mayB n R b = true) (hu : ∀ r ∈ U, ∃ x, r.2.2 = [x] ∧ 0 ≤ x ∧ x / 2 < n) : mayB n (R ++ U) b = true := by
  have hb : ∀ r ∈ R, badC n r.2.2 = false := by
    unfold mayB at h
    rw [Bool.and_eq_true, Bool.not_eq_true', List.any_eq_false] at h
    intro r hr
    simpa using h.2 r hr
  refine may_good (may_range h) fun j hj => ?_
  rcases List.mem_append.1 (List.getElem_mem hj) with hr | hr
  · exact hb _ hr
  · obtain ⟨x, e, h0, h1⟩ := hu _ hr
    rw [e]
    refine bad_none (by rw [make_of_ord ord_one (by intro y hy; rw [List.mem_singleton.1 hy]; exact h0)]; exact beq_self_eq_true _) ?_
    intro y hy
    rw [List.mem_singleton.1 hy]
    exact h1
theorem brute_of {n : Nat} {R : List RowT} {vals : List Int} (hl : vals.length = n) (h12 : ∀ x ∈ vals, x = 1 ∨ x = 2) (h : holdsM vals (rowsOf R) = true) : BruteAt n R true := ⟨fun _ => ⟨vals, hl, h12, h⟩, fun _ => rfl⟩
theorem brute_neg {n : Nat} {R : List RowT} {x : Int} (h0 : 0 ≤ x) (h1 : [x] ∈ rowsOf R) (h2 : [negM x] ∈ rowsOf R) : BruteAt n R false := by
  refine ⟨(fun h => by cases h), ?_⟩
  rintro ⟨vals, _, _, h⟩
  rw [← holds_iff] at h
  obtain ⟨y, hy, e1⟩ := h _ h1
  obtain ⟨z, hz, e2⟩ := h _ h2
  rw [List.mem_singleton.1 hy] at e1
  rw [List.mem_singleton.1 hz] at e2
  exact absurd e2 (val_not_both h0 e1)
/-- A row of one literal, made here. -/
def UnitRow (w : World) (r : RowT) : Prop := ∃ g x, r = (some ⟨g, 0, none⟩, 1, [x]) ∧ Blk w g 3 #[.int .i64 x]
theorem UnitRow.row {w : World} {r : RowT} (h : UnitRow w r) : Row .i64 w r.1 r.2.2 ∧ (r.1 = none → r.2.1 = 0) := by
  obtain ⟨g, x, rfl, hb⟩ := h
  exact ⟨blk_row (zs := [x]) hb (by simp), fun h => by cases h⟩
/-- The clauses with the units, as they are gathered. -/
def MoreAt (w w' : World) (B : Nat) (v : Value) (R U : List RowT) (us : List (List Int)) : Prop :=
  w'.ownsRow B 23 1 v (R ++ U).length ((R ++ U).map encR) ∧ (∀ r ∈ U, UnitRow w' r) ∧ rowsOf U = us ∧ Below B w w'
theorem MoreAt.grid {w w' : World} {B : Nat} {v : Value} {A : Option Addr} {R U : List RowT} {us : List (List Int)} (h : MoreAt w w' B v R U us) (hR : Grid w A R) (hB : B = w.heap.size) (hl : (R ++ U).length ≤ 1000) :
    ∃ GA gc, v = .slice GA (R ++ U).length gc ∧ Grid w' GA (R ++ U) := by
  subst hB
  obtain ⟨GA, gc, e, hg⟩ := own_grid2 h.1 (by omega) (fun r hr => by
    rcases List.mem_append.1 hr with h5 | h5
    · exact (hR.below h.2.2.2).each r h5
    · exact (h.2.1 r h5).row)
  exact ⟨GA, gc, e, hg⟩
theorem MoreAt.push {w wr w3 : World} {B g cap : Nat} {v : Value} {R U : List RowT} {us : List (List Int)} {x : Int} (h : MoreAt w wr B v R U us) (hB : B ≤ wr.heap.size)
    (ho3 : w3.ownsRow B 23 1 (.slice (some ⟨g, 0, none⟩) ((R ++ U).length + 1) cap) ((R ++ U).length + 1) ((R ++ U).map encR ++ [encR (some ⟨wr.heap.size, 0, none⟩, 1, [x])]))
    (hg : ((wr.alloc (.cells #[.int .i64 x] 3)).alloc (.cells #[.slice (some ⟨wr.heap.size, 0, none⟩) 1 1] 23)).grownBy w3 v.ownBlock) :
    MoreAt w w3 B (.slice (some ⟨g, 0, none⟩) ((R ++ U).length + 1) cap) R (U ++ [(some ⟨wr.heap.size, 0, none⟩, 1, [x])]) (us ++ [[x]]) := by
  have ho := ((h.1.alloc (.cells #[.int .i64 x] 3)).alloc (.cells #[.slice (some ⟨wr.heap.size, 0, none⟩) 1 1] 23))
  have hkeep : ∀ {k : Nat} {cs : Array Value}, Blk ((wr.alloc (.cells #[.int .i64 x] 3)).alloc (.cells #[.slice (some ⟨wr.heap.size, 0, none⟩) 1 1] 23)) k 3 cs → Blk w3 k 3 cs := fun hb => hb.grown hg (fun e => own_blk_ne ho hb (by decide) e.symm)
  refine ⟨?_, ?_, ?_, ?_⟩
  · have e1 : R ++ (U ++ [((some ⟨wr.heap.size, 0, none⟩ : Option Addr), 1, [x])]) = (R ++ U) ++ [(some ⟨wr.heap.size, 0, none⟩, 1, [x])] := (List.append_assoc _ _ _).symm
    have e2 : ((R ++ U) ++ [((some ⟨wr.heap.size, 0, none⟩ : Option Addr), 1, [x])]).length = (R ++ U).length + 1 := List.length_append
    have e3 : ((R ++ U) ++ [((some ⟨wr.heap.size, 0, none⟩ : Option Addr), 1, [x])]).map encR = (R ++ U).map encR ++ [encR (some ⟨wr.heap.size, 0, none⟩, 1, [x])] := List.map_append
    rw [e1, e2, e3]
    exact ho3
  · intro r hr
    rcases List.mem_append.1 hr with hr | hr
    · obtain ⟨k, y, rfl, hb⟩ := h.2.1 r hr
      exact ⟨k, y, rfl, hkeep ((hb.alloc _).alloc _)⟩
    · rw [List.mem_singleton.1 hr]
      exact ⟨_, _, rfl, hkeep ((Blk.new wr 3 #[.int .i64 x]).alloc _)⟩
  · rw [show rowsOf (U ++ [((some ⟨wr.heap.size, 0, none⟩ : Option Addr), 1, [x])]) = rowsOf U ++ [[x]] from List.map_append, h.2.2.1]
  · exact Below.grown (((h.2.2.2).alloc hB _).alloc (by simp; omega) _) hg (by simp; omega) (own_base_le ho)
theorem MoreAt.below {w wr W : World} {B : Nat} {v : Value} {R U : List RowT} {us : List (List Int)} (h : MoreAt w wr B v R U us) (hB : B ≤ w.heap.size) (hb : Below wr.heap.size wr W) : MoreAt w W B v R U us :=
  ⟨own_belowK h.1 hb, (fun r hr => by
    obtain ⟨k, y, e, hk⟩ := h.2.1 r hr
    exact ⟨k, y, e, hk.below hb hk.lt⟩), h.2.2.1, below_then h.2.2.2 hB hb⟩
theorem MoreAt.units {w wr : World} {B : Nat} {v : Value} {R U : List RowT} {us : List (List Int)} (h : MoreAt w wr B v R U us) {n : Nat} (hu : ∀ c ∈ us, ∃ x, c = [x] ∧ 0 ≤ x ∧ x / 2 < n) : ∀ r ∈ U, ∃ x, r.2.2 = [x] ∧ 0 ≤ x ∧ x / 2 < (n : Int) := fun r hr => by
  have : r.2.2 ∈ us := by rw [← h.2.2.1]; exact List.mem_map.2 ⟨r, hr, rfl⟩
  obtain ⟨x, e, h0, h1⟩ := hu _ this
  exact ⟨x, e, h0, h1⟩
theorem units_rng {vals : List Int} {n : Nat} (hl : vals.length = n) : ∀ c ∈ unitsOf vals, ∃ x, c = [x] ∧ 0 ≤ x ∧ x / 2 < n := by
  intro c hc
  obtain ⟨i, hi, rfl⟩ := units_mem hc
  have := uLit_rng i vals[i]
  exact ⟨_, rfl, this.1, by omega⟩
theorem solve_nil {w : World} {LA : Option Addr} {R : List RowT} {cl : Nat} {n : Nat} {b : Int} (hg : Grid w LA R) (hn : n ≤ 8) (hm : mayB n R b = true) (hR : R.length ≤ 1000) :
    Calls Tryz.prog 9 #[.int .i64 n, .slice LA R.length cl, .slice none 0 0, .int .i64 (bnd n : Nat)] w fun e w' => ∃ v, e = .returned (.tuple #[v, .int .i64 0]) ∧ Told w' n R v ∧ Below w.heap.size w w' :=
  (solve_bound (cl := cl) (ss := []) (cs := 0) hg (show Row .i64 w none [] from ⟨by simp, .inl rfl⟩) (fun _ => rfl) (Nat.le_refl 0) hn hm hR).mono fun e w' ⟨v, h1, h2, h3⟩ => ⟨v, h1, h2, h3.1⟩
theorem rows_app (R U : List RowT) : rowsOf (R ++ U) = rowsOf R ++ rowsOf U := List.map_append
/-- With the units of an assignment: sat. -/
theorem solve_units {w wr : World} {v : Value} {A : Option Addr} {R U : List RowT} {vals : List Int} {n : Nat} {b : Int} (h : MoreAt w wr w.heap.size v R U (unitsOf vals)) (hR : Grid w A R) (hr : R.length ≤ 80) (hu : U.length ≤ 8) (hn : n ≤ 8) (hl : vals.length = n) (h12 : ∀ x ∈ vals, x = 1 ∨ x = 2) (hh : holdsM vals (rowsOf R) = true) (hm : mayB n R b = true) :
    ∃ GA gc, v = .slice GA (R ++ U).length gc ∧ Calls Tryz.prog 9 #[.int .i64 n, .slice GA (R ++ U).length gc, .slice none 0 0, .int .i64 (bnd n : Nat)] wr fun e w' => ∃ g, e = .returned (.tuple #[.agg #[.int .i8 0, .slice (some ⟨g, 0, none⟩) n n, .slice none 0 0], .int .i64 0]) ∧ Below wr.heap.size wr w' := by
  have hlen : (R ++ U).length ≤ 1000 := by rw [List.length_append]; omega
  obtain ⟨GA, gc, rfl, hg⟩ := h.grid hR rfl hlen
  refine ⟨GA, gc, rfl, (solve_nil hg hn (may_more hm (h.units (units_rng hl))) hlen).mono ?_⟩
  rintro e w' ⟨v, rfl, ht, hb⟩
  have hbt : BruteAt n (R ++ U) true := brute_of hl h12 (by rw [rows_app, h.2.2.1]; exact units_hold h12 hh)
  rcases ht with ⟨_, g, vals2, rfl, _⟩ | ⟨h1, _⟩
  · exact ⟨g, rfl, hb⟩
  · cases hbt.eq h1
/-- With one of them negated: unsat. -/
theorem solve_neg {w w3 : World} {g cap : Nat} {A : Option Addr} {R U : List RowT} {us : List (List Int)} {r : RowT} {x : Int} {n : Nat} {b : Int} (h : MoreAt w w3 w.heap.size (.slice (some ⟨g, 0, none⟩) ((R ++ U).length + 1) cap) R (U ++ [r]) (us ++ [[negM x]])) (hR : Grid w A R) (hr : R.length ≤ 80) (hu : U.length ≤ 8) (hn : n ≤ 8) (hus : ∀ c ∈ us, ∃ x, c = [x] ∧ 0 ≤ x ∧ x / 2 < n) (hx : [x] ∈ us) (hm : mayB n R b = true) :
    Calls Tryz.prog 9 #[.int .i64 n, .slice (some ⟨g, 0, none⟩) ((R ++ U).length + 1) cap, .slice none 0 0, .int .i64 (bnd n : Nat)] w3 fun e w' => ∃ QA m qc, e = .returned (.tuple #[.agg #[.int .i8 1, .slice none 0 0, .slice QA (m : Nat) qc], .int .i64 0]) ∧ Below w3.heap.size w3 w' := by
  have hlen : (R ++ (U ++ [r])).length ≤ 1000 := by rw [List.length_append, List.length_append]; simp; omega
  obtain ⟨x', e', h0, h1⟩ := hus _ hx
  injection e' with e'
  subst e'
  have hn0 : 0 ≤ negM x ∧ negM x / 2 < n := ⟨by unfold negM; split <;> omega, by rw [negM_half]; exact h1⟩
  have hall : ∀ c ∈ us ++ [[negM x]], ∃ y, c = [y] ∧ 0 ≤ y ∧ y / 2 < (n : Int) := fun c hc => by
    rcases List.mem_append.1 hc with hc | hc
    · exact hus c hc
    · exact ⟨_, List.mem_singleton.1 hc, hn0.1, hn0.2⟩
  obtain ⟨GA, gc, e, hg⟩ := h.grid hR rfl hlen
  have K := solve_nil (cl := gc) hg hn (may_more hm (h.units hall)) hlen
  rw [← e] at K
  refine K.mono ?_
  rintro e w' ⟨v, rfl, ht, hb⟩
  have hbf : BruteAt n (R ++ (U ++ [r])) false := brute_neg h0 (by rw [rows_app, h.2.2.1]; exact List.mem_append_right _ (List.mem_append_left _ hx)) (by rw [rows_app, h.2.2.1]; exact List.mem_append_right _ (List.mem_append_right _ (List.mem_singleton_self _)))
  rcases ht with ⟨h1, _⟩ | ⟨_, QA, qc, st, rfl, _⟩
  · cases hbf.eq h1
  · exact ⟨QA, st.length, qc, rfl, hb⟩
theorem or_u {i : Nat} (hi : i ≤ 8) : bits .or .i64 ((i : Int) * 2) 0 = uLit i 1 ∧ bits .or .i64 ((i : Int) * 2) 1 = uLit i 2 := by
  rcases (by omega : i = 0 ∨ i = 1 ∨ i = 2 ∨ i = 3 ∨ i = 4 ∨ i = 5 ∨ i = 6 ∨ i = 7 ∨ i = 8) with rfl | rfl | rfl | rfl | rfl | rfl | rfl | rfl | rfl <;> decide +kernel
theorem xor_u {i : Nat} (hi : i ≤ 8) : bits .xor .i64 (bits .or .i64 ((i : Int) * 2) 1) 0 = negM (uLit i 1) ∧ bits .xor .i64 (bits .or .i64 ((i : Int) * 2) 1) 1 = negM (uLit i 2) := by
  rcases (by omega : i = 0 ∨ i = 1 ∨ i = 2 ∨ i = 3 ∨ i = 4 ∨ i = 5 ∨ i = 6 ∨ i = 7 ∨ i = 8) with rfl | rfl | rfl | rfl | rfl | rfl | rfl | rfl | rfl <;> decide +kernel
end Go.Proofs.YtmbekchnfbmhbaaGreat

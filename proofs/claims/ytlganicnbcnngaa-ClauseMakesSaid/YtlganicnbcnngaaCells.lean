/- Assignments as cells. -/
import Derived.Test.YtlganicnbcnngaaLaw15
import Derived.Test.YtlganicnbcnngaaClL
import Derived.Deep.RegionHeld3
namespace Go.Proofs.Ytlganicnbcnngaa
open Go.RowKit Go.Lib

/-- Numbers of one byte, as cells. -/
def c8 (L : List Int) : Array Value := (L.map (Value.int .i8)).toArray
theorem c8_set (L : List Int) (i : Nat) (v : Int) : (c8 L).setIfInBounds i (.int .i8 v) = c8 (L.set i v) := by
  unfold c8
  rw [List.setIfInBounds_toArray, List.map_set]
theorem c8_get (L : List Int) (i : Nat) : (c8 L)[i]? = L[i]?.map (Value.int .i8) := by
  unfold c8
  rw [List.getElem?_toArray, List.getElem?_map]
theorem blk8_cell {w : World} {g i : Nat} {L : List Int} (h : Blk w g 26 (c8 L)) (hi : i < L.length) : w.cell? ⟨g, i, none⟩ = some (.int .i8 L[i]) := by
  rw [h.cell i, c8_get, List.getElem?_eq_getElem hi]; rfl
theorem blk8_set {w : World} {g : Nat} {L : List Int} (h : Blk w g 26 (c8 L)) (i : Nat) (v : Int) : Blk (w.setCell ⟨g, i, none⟩ (.int .i8 v)) g 26 (c8 (L.set i v)) := by
  rw [← c8_set]
  exact h.set_ i _
theorem blk8_row {w : World} {g : Nat} {L : List Int} (h : Blk w g 26 (c8 L)) (hl : L.length ≤ 1000000) : Row .i8 w (some ⟨g, 0, none⟩) L := by
  refine ⟨hl, .inr ⟨g, 0, rfl, h.lt, fun i hi => ?_⟩⟩
  rw [Nat.zero_add]
  exact blk8_cell h hi
theorem two_set {L : List Int} {k : Nat} (h : Two L k) (hk : k < 60) {v : Int} (hv : v = 1 ∨ v = 2) : Two (L.set k v) (k + 1) := by
  refine ⟨by rw [List.length_set]; exact h.1, fun i hi => ?_⟩
  by_cases e : i = k
  · subst e
    rw [List.getElem?_set_self (by rw [h.1]; exact hk)]
    rcases hv with rfl | rfl
    · exact .inl rfl
    · exact .inr rfl
  · rw [List.getElem?_set_ne (by omega)]
    exact h.2 i (by omega)
theorem two_again {L : List Int} {k : Nat} (h : Two L (k + 1)) {v : Int} (hv : v = 1 ∨ v = 2) : Two (L.set k v) (k + 1) := by
  refine ⟨by rw [List.length_set]; exact h.1, fun i hi => ?_⟩
  by_cases e : i = k
  · subst e
    rcases Nat.lt_or_ge i L.length with hl | hl
    · rw [List.getElem?_set_self hl]
      rcases hv with rfl | rfl
      · exact .inl rfl
      · exact .inr rfl
    · have := h.2 i hi
      rw [List.getElem?_eq_none hl] at this
      rcases this with h | h <;> cases h
  · rw [List.getElem?_set_ne (by omega)]
    exact h.2 i hi
theorem int8_info : (Try.prog.info? 26).map (fun i => (i.zero, i.size, i.bytes)) = some (some (.int .i8 0), 1, 1) := by kernel_rfl
def zeros60 : List Int := List.replicate 60 0
theorem two_zeros : Two zeros60 0 := ⟨by unfold zeros60; simp, fun i hi => by omega⟩
theorem make60 (w : World) : (Instr.makeSlice 25 (.int .i64 60) (.int .i64 60)).run Try.prog w = .ok (.slice (some ⟨w.heap.size, 0, none⟩) 60 60) (w.alloc (.cells (c8 zeros60) 26)) := by
  obtain ⟨i0, hi, hz0, hz1, hz2⟩ := info_parts int8_info
  have h := run_make_rowN (P := Try.prog) 25 26 i0 (.int .i8 0) Try.underlying25 hi hz0 .i64 .i64 60 60 (Nat.le_refl _) (by rw [hz2]; decide) (by decide) w
  refine Eq.trans h ?_
  rw [hz1]
  have e : madeCells (Value.int .i8 0).cells (60 * 1) = c8 zeros60 := by
    show madeCells #[Value.int .i8 0] 60 = _
    rw [made_one]
    unfold c8 zeros60
    rw [List.map_replicate]
  rw [e]
/-- The bit of a place. -/
def bitOf (l1 : Nat) (B : Nat → Bool) (i : Nat) : Bool := decide (i < l1) && B i


/-- A row of the call's own, grown: what lies below it is as it was. -/
theorem below_grown_own {B : Nat} {w w1 w2 : World} {base n : Nat} {e : TypeId} {v : Value} {xs : List Value} (h : Below B w w1) (hg : w1.grownBy w2 v.ownBlock) (ho : w1.ownsRow base e 1 v n xs) (hB : B ≤ base := by omega) (hs : B ≤ w1.heap.size := by omega) : Below B w w2 :=
  Below.grown h hg hs (fun j hj => by have := (ho.lt j hj).1; omega)
theorem grid_two {w : World} {A B : Option Addr} {xs ys : List Int} {c d : Nat} (h : Row .i64 w A xs) (k : Row .i64 w B ys) (hn : A = none → c = 0) (kn : B = none → d = 0) :
    Grid (w.alloc (.cells #[.slice A xs.length c, .slice B ys.length d] 22)) (some ⟨w.heap.size, 0, none⟩) [(A, c, xs), (B, d, ys)] := by
  have h2 := rows_two h k hn kn
  exact ⟨by simp, .inr ⟨w.heap.size, 0, rfl, h2.1, fun i hi => by rw [Nat.zero_add]; exact h2.2 i hi⟩⟩
theorem grid_one {w : World} {A : Option Addr} {xs : List Int} {c : Nat} (h : Row .i64 w A xs) (hn : A = none → c = 0) :
    Grid (w.alloc (.cells #[.slice A xs.length c] 22)) (some ⟨w.heap.size, 0, none⟩) [(A, c, xs)] := by
  have hb : Below w.heap.size w (w.alloc (.cells #[.slice A xs.length c] 22)) := (Below.refl _ w).alloc (Nat.le_refl _) _
  refine ⟨by simp, .inr ⟨w.heap.size, 0, rfl, by simp, fun i hi => ?_⟩⟩
  have hi0 : i = 0 := by simpa using hi
  subst hi0
  exact ⟨(Blk.new w _ _).cell 0, h.below hb, hn⟩
end Go.Proofs.Ytlganicnbcnngaa

/- Equal, Is. -/
import Derived.Test.YtnfeggeahnjdeaaClH
namespace Go.Proofs.Ytnfeggeahnjdeaa
open Go.RowKit Go.Lib

theorem OwnI.row {w : World} {base g cap : Nat} {zs : List Int} (h : OwnI w base g cap zs) (hl : zs.length ≤ 1000000) : Row .i64 w (some ⟨g, 0, none⟩) zs := by
  refine ⟨hl, .inr ⟨g, 0, rfl, own_lt h, fun i hi => ?_⟩⟩
  rw [Nat.zero_add, h.cellAt i (by omega), List.getElem?_map, List.getElem?_eq_getElem hi]
  rfl
theorem Row.cells {w : World} {b off : Nat} {zs : List Int} (hc : ∀ i (h : i < zs.length), w.cell? ⟨b, off + i, none⟩ = some (.int .i64 zs[i])) : ∀ j, j < zs.length → w.cell? ⟨b, off + j, none⟩ = some (.int .i64 (zs.getD j 0)) := fun j hj => by
  rw [hc j hj, List.getD_eq_getElem?_getD, List.getElem?_eq_getElem hj]; rfl

theorem equal_ok {w : World} {A B : Option Addr} {xs ys : List Int} (c d : Nat) (h : Row .i64 w A xs) (k : Row .i64 w B ys) :
    Calls Try.prog 27 #[.slice A xs.length c, .slice B ys.length d] w fun e w' => e = .returned (.bool (xs == ys)) ∧ ∃ q, w' = w.drewN q := by
  have hl := h.len
  have kl := k.len
  by_cases hne : xs.length = ys.length
  · rcases h.at_ with h0 | ⟨b, off, rfl, _, hc⟩
    · have hx : xs = [] := List.eq_nil_of_length_eq_zero h0
      have hy : ys = [] := List.eq_nil_of_length_eq_zero (by omega)
      subst hx hy
      exact (Try.slices_Equal_int_empty A B c 0 d w (by omega)).mono fun e w' ⟨h1, h2⟩ => ⟨by rw [h1]; rfl, 0, h2⟩
    · rcases k.at_ with k0 | ⟨b2, off2, rfl, _, kc⟩
      · have hx : xs = [] := List.eq_nil_of_length_eq_zero (by omega)
        have hy : ys = [] := List.eq_nil_of_length_eq_zero k0
        subst hx hy
        exact (Try.slices_Equal_int_empty _ B c 0 d w (by omega)).mono fun e w' ⟨h1, h2⟩ => ⟨by rw [h1]; rfl, 0, h2⟩
      · refine (Try.slices_Equal_int b off xs.length c b2 off2 ys.length d xs ys w (Nat.le_refl _) (Nat.le_refl _) (by omega) (by omega) (Row.cells hc) (Row.cells kc)).mono fun e w' ⟨h1, h2⟩ => ⟨?_, h2⟩
        rw [h1, List.take_of_length_le (Nat.le_refl _), List.take_of_length_le (Nat.le_refl _)]
  · refine (Try.slices_Equal_int_lens A B xs.length c ys.length d w hne).mono fun e w' ⟨h1, h2⟩ => ⟨?_, 0, h2⟩
    have : (xs == ys) = false := beq_eq_false_iff_ne.2 fun h => hne (by rw [h])
    rw [h1, this]

theorem makeM_len (zs : List Int) : (makeM zs).length ≤ zs.length := by
  unfold makeM
  refine Nat.le_trans (compact_len _) ?_
  rw [List.length_mergeSort]
  exact List.length_filter_le _ _

/-- Make, its row as it lies in memory. -/
theorem make_row {w : World} {A : Option Addr} {zs : List Int} (cap : Nat) (h : Row .i64 w A zs) (hn : A = none → cap = 0) :
    Calls Try.prog 28 #[.slice A zs.length cap] w fun e w' => ∃ B d, e = .returned (.slice B (makeM zs).length d) ∧ Row .i64 w' B (makeM zs) ∧ (B = none → d = 0) ∧ Below w.heap.size w w' := by
  have hl := h.len
  refine (make_ok cap h hn).mono ?_
  rintro e w' ⟨v, rfl, ho, hb⟩
  have hm := makeM_len zs
  rcases own_cases ho rfl with ⟨rfl, h0⟩ | ⟨g, c, rfl, hown, _, _⟩
  · refine ⟨none, 0, by rw [h0]; rfl, ?_, fun _ => rfl, hb⟩
    rw [h0]
    exact ⟨by simp, .inl rfl⟩
  · exact ⟨_, c, rfl, hown.row (by omega), (fun h => by cases h), hb⟩

theorem is_ok {w : World} {A : Option Addr} {zs : List Int} (cap : Nat) (h : Row .i64 w A zs) (hn : A = none → cap = 0) :
    Calls Try.prog 17 #[.slice A zs.length cap] w fun e w' => e = .returned (.bool (zs == makeM zs)) ∧ Below w.heap.size w w' := by
  generalize hq : (zs == makeM zs) = q
  have Hq := Lib.hid hq
  have H := Lib.hid h
  have Hn := Lib.hid hn
  clear h hn hq
  go_enter Try.func17, Try.ntmps17
  go_wp2_with (first
    | (go_at_call 28; refine (make_row cap H.out Hn.out).mono ?_; rintro e w1 ⟨B, d, rfl, hr1, _, hb1⟩; have Hr1 := Lib.hid hr1; have Hb1 := Lib.hid hb1; clear hr1 hb1)
    | (go_at_call 27; refine (equal_ok cap d (H.out.below Hb1.out) Hr1.out).mono ?_; rintro e w2 ⟨rfl, n2, rfl⟩; rw [Hq.out]))
  go_ret
  exact ⟨rfl, below_drewN Hb1.out n2⟩
end Go.Proofs.Ytnfeggeahnjdeaa

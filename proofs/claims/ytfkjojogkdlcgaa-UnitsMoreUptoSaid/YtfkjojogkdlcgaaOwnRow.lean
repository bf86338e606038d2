/- Rows of the call's own, as rows; Make. -/
import Derived.Test.YtfkjojogkdlcgaaClF
namespace Go.Proofs.Ytfkjojogkdlcgaa
open Go.RowKit Go.Lib

theorem OwnI.row {w : World} {base g cap : Nat} {zs : List Int} (h : OwnI w base g cap zs) (hl : zs.length ≤ 1000000) : Row .i64 w (some ⟨g, 0, none⟩) zs := by
  refine ⟨hl, .inr ⟨g, 0, rfl, own_lt h, fun i hi => ?_⟩⟩
  rw [Nat.zero_add, h.cellAt i (by omega), List.getElem?_map, List.getElem?_eq_getElem hi]
  rfl
theorem Row.cells {w : World} {b off : Nat} {zs : List Int} (hc : ∀ i (h : i < zs.length), w.cell? ⟨b, off + i, none⟩ = some (.int .i64 zs[i])) : ∀ j, j < zs.length → w.cell? ⟨b, off + j, none⟩ = some (.int .i64 (zs.getD j 0)) := fun j hj => by
  rw [hc j hj, List.getD_eq_getElem?_getD, List.getElem?_eq_getElem hj]; rfl

theorem own_row {w : World} {base n : Nat} {v : Value} {zs : List Int} (h : w.ownsRow base 3 1 v n (zs.map (Value.int .i64))) (hn : n = zs.length) (hl : zs.length ≤ 1000000) :
    ∃ B d, v = .slice B zs.length d ∧ Row .i64 w B zs ∧ (B = none → d = 0) := by
  rcases own_cases h hn with ⟨rfl, h0⟩ | ⟨g, c, rfl, hown, _, _⟩
  · refine ⟨none, 0, by rw [h0]; rfl, ?_, fun _ => rfl⟩
    rw [h0]
    exact ⟨by simp, .inl rfl⟩
  · exact ⟨_, c, rfl, hown.row hl, (fun h => by cases h)⟩

theorem makeM_len (zs : List Int) : (makeM zs).length ≤ zs.length := by
  unfold makeM
  refine Nat.le_trans (compact_len _) ?_
  rw [List.length_mergeSort]
  exact List.length_filter_le _ _

/-- Make, its row as it lies in memory. -/
theorem make_row {w : World} {A : Option Addr} {zs : List Int} (cap : Nat) (h : Row .i64 w A zs) (hn : A = none → cap = 0) :
    Calls Try.prog 41 #[.slice A zs.length cap] w fun e w' => ∃ B d, e = .returned (.slice B (makeM zs).length d) ∧ Row .i64 w' B (makeM zs) ∧ (B = none → d = 0) ∧ Below w.heap.size w w' := by
  have hl := h.len
  refine (make_ok cap h hn).mono ?_
  rintro e w' ⟨v, rfl, ho, hb⟩
  have hm := makeM_len zs
  rcases own_cases ho rfl with ⟨rfl, h0⟩ | ⟨g, c, rfl, hown, _, _⟩
  · refine ⟨none, 0, by rw [h0]; rfl, ?_, fun _ => rfl, hb⟩
    rw [h0]
    exact ⟨by simp, .inl rfl⟩
  · exact ⟨_, c, rfl, hown.row (by omega), (fun h => by cases h), hb⟩

end Go.Proofs.Ytfkjojogkdlcgaa

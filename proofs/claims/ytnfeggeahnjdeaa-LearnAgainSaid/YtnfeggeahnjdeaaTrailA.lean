/- Contracts of the trail's functions that only read. -/
import Derived.Test.YtnfeggeahnjdeaaRows
import Derived.Test.YtnfeggeahnjdeaaBase
import Derived.Test.YtnfeggeahnjdeaaModel
namespace Go.Proofs.Ytnfeggeahnjdeaa
open Go.RowKit

def putCells (p : Pt) : List Value := [.int .i64 p.lit, .int .i64 p.level, .int .i64 p.reason]
def atCells (M : Tr) : Array Value := ((List.range M.n).map fun nd => Value.int .i64 (atOf M.L nd)).toArray

structure TR (w : World) (B bt ba : Nat) (lv : Value) (M : Tr) : Prop where
  blk : Blk w bt 64 #[lv, .slice (some ⟨ba, 0, none⟩) M.n M.n, .int .i64 M.lv]
  at_ : Blk w ba 3 (atCells M)
  own : w.ownsRow B 66 3 lv M.L.length (M.L.flatMap putCells)
  hbt : B ≤ bt
  hba : B ≤ ba
  ok : M.Ok

theorem putCells_len (p : Pt) : (putCells p).length = 3 := rfl

section
variable {w : World} {B bt ba : Nat} {lv : Value} {M : Tr}
theorem TR.at_cell (h : TR w B bt ba lv M) {nd : Nat} (hn : nd < M.n) : w.cell? ⟨ba, nd, none⟩ = some (.int .i64 (atOf M.L nd)) := by
  rw [h.at_.cell]
  simp [atCells, hn]
theorem TR.lv_form (h : TR w B bt ba lv M) (hn : 0 < M.L.length) : ∃ g cap, lv = .slice (some ⟨g, 0, none⟩) M.L.length cap ∧ g < w.heap.size ∧ M.L.length ≤ cap := by
  rcases h.own.2 with ⟨_, h0⟩ | ⟨g, cap, cur, hv, hb, hg, hc, _⟩
  · omega
  · exact ⟨g, cap, hv, Blk.lt hg, hc⟩
end

set_option maxHeartbeats 400000 in
theorem of_some {w : World} {B bt ba : Nat} {lv : Value} {M : Tr} (h : TR w B bt ba lv M) (node : Int) (p : Pt) (hf : find M.L node = some p) :
    Calls Try.prog 29 #[.pointer (some ⟨bt, 0, none⟩), .int .i64 node] w fun e w' => e = .returned (.tuple #[.agg #[.int .i64 p.lit, .int .i64 p.level, .int .i64 p.reason], .bool true]) ∧ Below w.heap.size w w' := by
  have hb1 : ¬ (node < 0 ∨ M.n ≤ node) := fun hc => by rw [find_out h.ok hc] at hf; cases hf
  obtain ⟨nd, rfl⟩ := Int.eq_ofNat_of_zero_le (show 0 ≤ node by omega)
  obtain ⟨i, hi, hL, hat, _⟩ := find_some_at hf
  obtain ⟨g, cap, rfl, hg, hcap⟩ := h.lv_form (by omega)
  have hnd : nd < M.n := by omega
  have hlen := h.ok.len
  have hN := h.ok.n
  have c0 := h.blk.cell 0
  have c1 := h.blk.cell 1
  have c2 : w.cell? ⟨ba, nd, none⟩ = some (.int .i64 ((i : Int) + 1)) := by rw [h.at_cell hnd, hat]; simp
  have c3 := own_cell putCells putCells_len h.own hi (j := 0) (by omega)
  have c4 := own_cell putCells putCells_len h.own hi (j := 1) (by omega)
  have c5 := own_cell putCells putCells_len h.own hi (j := 2) (by omega)
  rw [hL] at c3 c4 c5
  simp only [putCells, List.getElem?_cons_zero, List.getElem?_cons_succ, List.getElem?_toArray, Nat.add_zero] at c0 c1 c3 c4 c5
  have q0 := h.blk.lt
  have q1 := h.at_.lt
  have d1 : decide ((nd : Int) < 0) = false := by simp
  have d2 : decide (M.n ≤ nd) = false := by simp; omega
  have d3 : ((i : Int) + 1 == 0) = false := by simp; omega
  clear hf hL hat h hb1
  generalize M.n = N at *
  generalize M.L.length = n at *
  go_enter Try.func29, Try.ntmps29
  go_wp2
  go_region
  all_goals go_wp2
  all_goals refine bodyPost_ret (v := .tuple #[.agg #[.int .i64 p.lit, .int .i64 p.level, .int .i64 p.reason], .bool true]) (by simp [results, Try.results29, go_sem]) rfl ⟨rfl, ?_⟩
  all_goals exact ((Below.refl _ _).alloc (Nat.le_refl _) _).drew

set_option maxHeartbeats 400000 in
theorem of_none {w : World} {B bt ba : Nat} {lv : Value} {M : Tr} (h : TR w B bt ba lv M) (node : Int) (hf : find M.L node = none) :
    Calls Try.prog 29 #[.pointer (some ⟨bt, 0, none⟩), .int .i64 node] w fun e w' => e = .returned (.tuple #[.agg #[.int .i64 0, .int .i64 0, .int .i64 0], .bool false]) ∧ Below w.heap.size w w' := by
  have c1 := h.blk.cell 1
  simp only [List.getElem?_toArray, List.getElem?_cons_zero, List.getElem?_cons_succ] at c1
  have q0 := h.blk.lt
  have q1 := h.at_.lt
  have hN := h.ok.n
  by_cases h1 : node < 0
  · have d1 : decide (node < 0) = true := by simpa using h1
    go_enter Try.func29, Try.ntmps29
    go_wp2
    refine bodyPost_ret (v := .tuple #[.agg #[.int .i64 0, .int .i64 0, .int .i64 0], .bool false]) (by simp [results, Try.results29, go_sem]) rfl ⟨rfl, ?_⟩
    exact (Below.refl _ _).alloc (Nat.le_refl _) _
  · obtain ⟨nd, rfl⟩ := Int.eq_ofNat_of_zero_le (show 0 ≤ node by omega)
    have d1 : decide ((nd : Int) < 0) = false := by simp
    by_cases h2 : M.n ≤ nd
    · have d2 : decide (M.n ≤ nd) = true := by simpa using h2
      generalize M.n = N at *
      clear hf h
      go_enter Try.func29, Try.ntmps29
      go_wp2
      refine bodyPost_ret (v := .tuple #[.agg #[.int .i64 0, .int .i64 0, .int .i64 0], .bool false]) (by simp [results, Try.results29, go_sem]) rfl ⟨rfl, ?_⟩
      exact (Below.refl _ _).alloc (Nat.le_refl _) _
    · have d2 : decide (M.n ≤ nd) = false := by simpa using h2
      have c2 : w.cell? ⟨ba, nd, none⟩ = some (.int .i64 0) := by rw [h.at_cell (by omega), find_none_at hf]; rfl
      have hnd : nd < M.n := by omega
      generalize M.n = N at *
      clear hf h
      go_enter Try.func29, Try.ntmps29
      go_wp2
      refine bodyPost_ret (v := .tuple #[.agg #[.int .i64 0, .int .i64 0, .int .i64 0], .bool false]) (by simp [results, Try.results29, go_sem]) rfl ⟨rfl, ?_⟩
      exact (Below.refl _ _).alloc (Nat.le_refl _) _

set_option maxHeartbeats 400000 in
theorem of_nil {w : World} (node : Int) :
    Calls Try.prog 29 #[.pointer none, .int .i64 node] w fun e w' => e = .returned (.tuple #[.agg #[.int .i64 0, .int .i64 0, .int .i64 0], .bool false]) ∧ Below w.heap.size w w' := by
  go_enter Try.func29, Try.ntmps29
  go_wp2
  refine bodyPost_ret (v := .tuple #[.agg #[.int .i64 0, .int .i64 0, .int .i64 0], .bool false]) (by simp [results, Try.results29, go_sem]) rfl ⟨rfl, ?_⟩
  exact (Below.refl _ _).alloc (Nat.le_refl _) _
end Go.Proofs.Ytnfeggeahnjdeaa

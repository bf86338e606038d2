/- Contracts of the document's trail. -/
import Derived.Test.YtnfeggeahnjdeaaTrailL
namespace Go.Proofs.Ytnfeggeahnjdeaa
open Go.RowKit

structure UR (w : World) (B bu : Nat) (lu : Value) (M : Tr) : Prop where
  blk : Blk w bu 77 #[.int .i64 M.n, lu, .int .i64 M.lv]
  own : w.ownsRow B 79 3 lu M.L.length (M.L.flatMap putCells)
  hbu : B ≤ bu
  ok : M.Ok

theorem uput_info : (Try.prog.info? 79).map (fun i => (i.zero, i.size, i.bytes)) = some (some (.agg #[.int .i64 0, .int .i64 0, .int .i64 0]), 3, 24) := by kernel_rfl
theorem uint_info : (Try.prog.info? 3).map (fun i => (i.zero, i.size, i.bytes)) = some (some (.int .i64 0), 1, 8) := by kernel_rfl

theorem UR.keep {S : Nat → Prop} {w w' : World} {B bu : Nat} {lu : Value} {M : Tr} (h : UR w B bu lu M) (hk : Kept S w w') (h1 : ¬ S bu) (h3 : ∀ g, lu.ownBlock = some g → ¬ S g) : UR w' B bu lu M :=
  ⟨h.blk.kept hk h1, own_kept h.own hk h3, h.hbu, h.ok⟩
theorem UR.drew {w : World} {B bu : Nat} {lu : Value} {M : Tr} (h : UR w B bu lu M) : UR w.drew B bu lu M := ⟨h.blk, h.own, h.hbu, h.ok⟩

theorem find_some_idx {L : List Pt} {node : Int} {p : Pt} (h : find L node = some p) : ∃ i, ∃ hi : i < L.length, L[i] = p ∧ p.lit / 2 = node ∧ ∀ j (hj : j < i), L[j].lit / 2 ≠ node := by
  unfold find at h
  rw [List.find?_eq_some_iff_getElem] at h
  obtain ⟨hp, i, hi, rfl, hb⟩ := h
  refine ⟨i, hi, rfl, by simpa [isAt] using hp, fun j hj => ?_⟩
  have := hb j hj
  simpa [isAt] using this

/-- The list's slice: nil, or a row known whole. -/
theorem UR.form {w : World} {B bu : Nat} {lu : Value} {M : Tr} (h : UR w B bu lu M) : ∃ A cap, lu = .slice A M.L.length cap ∧ (∀ k (hk : k < M.L.length), ∃ g, A = some ⟨g, 0, none⟩ ∧ g < w.heap.size ∧ M.L.length ≤ cap ∧
    w.cell? ⟨g, k * 3, none⟩ = some (.int .i64 M.L[k].lit) ∧ w.cell? ⟨g, k * 3 + 1, none⟩ = some (.int .i64 M.L[k].level) ∧ w.cell? ⟨g, k * 3 + 2, none⟩ = some (.int .i64 M.L[k].reason)) := by
  rcases h.own.2 with ⟨hv, h0⟩ | ⟨g, cap, cur, hv, hb, hg, hc, _⟩
  · exact ⟨none, 0, by rw [h0]; exact hv, fun k hk => by omega⟩
  · refine ⟨_, cap, hv, fun k hk => ⟨g, rfl, Blk.lt hg, hc, ?_, ?_, ?_⟩⟩
    · have := own_cell putCells putCells_len (hv ▸ h.own) hk (j := 0) (by omega)
      exact this
    · have := own_cell putCells putCells_len (hv ▸ h.own) hk (j := 1) (by omega)
      exact this
    · have := own_cell putCells putCells_len (hv ▸ h.own) hk (j := 2) (by omega)
      exact this

set_option maxHeartbeats 800000 in
theorem ufind_some {w : World} {B bu : Nat} {lu : Value} {M : Tr} (h : UR w B bu lu M) (node : Int) (p : Pt) (hf : find M.L node = some p) :
    Calls Try.prog 35 #[.pointer (some ⟨bu, 0, none⟩), .int .i64 node] w fun e w' => e = .returned (.tuple #[.agg #[.int .i64 p.lit, .int .i64 p.level, .int .i64 p.reason], .bool true]) ∧ Below w.heap.size w w' := by
  obtain ⟨i, hi, hp, hpn, hb⟩ := find_some_idx hf
  obtain ⟨A, cap, rfl, hcells⟩ := h.form
  obtain ⟨g, rfl, hg, hcap, _⟩ := hcells i hi
  have c1 := h.blk.cell 1
  simp only [List.getElem?_toArray, List.getElem?_cons_zero, List.getElem?_cons_succ] at c1
  have q0 := h.blk.lt
  have hlen := h.ok.len
  have hN := h.ok.n
  have HC := Lib.hid hcells
  have HB := Lib.hid hb
  have HP := Lib.hid hp
  clear hcells hb hp h
  go_enter Try.func35, Try.ntmps35
  go_wp2
  go_loopw [6] (fun c wr => ∃ k : Nat, k ≤ i ∧ c = .int .i64 k ∧ Blk wr w.heap.size 79 #[.int .i64 0, .int .i64 0, .int .i64 0] ∧ Below w.heap.size w wr) (fun c _ => M.L.length - (intOf c).toNat)
  case atStart => exact ⟨0, Nat.zero_le _, rfl, Blk.new _ _ _, (Below.refl _ _).alloc (Nat.le_refl _) _⟩
  case round =>
    obtain ⟨k, hk, rfl, hbox, hbel⟩ := hrel
    have hkl : k < M.L.length := by omega
    obtain ⟨g', hgg, _, _, e0, e1, e2⟩ := HC.out k hkl
    injection hgg with hgg
    injection hgg with hgg
    subst hgg
    have f1 := (hbel.cell (p := ⟨bu, 1, none⟩) q0).trans c1
    have f3 := (hbel.cell (p := ⟨g, k * 3, none⟩) hg).trans e0
    have f4 := (hbel.cell (p := ⟨g, k * 3 + 1, none⟩) hg).trans e1
    have f5 := (hbel.cell (p := ⟨g, k * 3 + 2, none⟩) hg).trans e2
    clear e0 e1 e2
    by_cases hlt : k < i
    · have hne : (M.L[k].lit / 2 == node) = false := by have := HB.out k hlt; simpa using this
      generalize M.L[k] = q at *
      go_wp2
      exact ⟨⟨k + 1, by omega, by go_num, hbox, hbel⟩, by simp [intOf]; omega⟩
    · obtain rfl : k = i := by omega
      rw [HP.out] at f3 f4 f5
      have heq : (p.lit / 2 == node) = true := by simpa using hpn
      have x0 := hbox.cell 0
      have x1 := hbox.cell 1
      have x2 := hbox.cell 2
      have y0 := hbox.frozen 0
      have y1 := hbox.frozen 1
      have y2 := hbox.frozen 2
      simp only [List.getElem?_toArray, List.getElem?_cons_zero, List.getElem?_cons_succ] at x0 x1 x2
      clear hpn HP HB HC hf hlt hk
      go_wp2
      have hfin : Below w.heap.size w (((wr.setCell ⟨w.heap.size, 0, none⟩ (.int .i64 p.lit)).setCell ⟨w.heap.size, 1, none⟩ (.int .i64 p.level)).setCell ⟨w.heap.size, 2, none⟩ (.int .i64 p.reason)) :=
        ((hbel.setCell (p := ⟨w.heap.size, 0, none⟩) (Nat.le_refl _) _).setCell (p := ⟨w.heap.size, 1, none⟩) (Nat.le_refl _) _).setCell (p := ⟨w.heap.size, 2, none⟩) (Nat.le_refl _) _
      have b3 := (((hbox.set_ 0 (.int .i64 p.lit)).set_ 1 (.int .i64 p.level)).set_ 2 (.int .i64 p.reason))
      have z0 := b3.cell 0
      have z1 := b3.cell 1
      have z2 := b3.cell 2
      simp at z0 z1 z2
      exact bodyPost_ret (v := .tuple #[.agg #[.int .i64 p.lit, .int .i64 p.level, .int .i64 p.reason], .bool true]) (by simp [results, Try.results35, go_sem, z0, z1, z2]) rfl ⟨rfl, hfin⟩

set_option maxHeartbeats 800000 in
theorem ufind_none {w : World} {B bu : Nat} {lu : Value} {M : Tr} (h : UR w B bu lu M) (node : Int) (hf : find M.L node = none) :
    Calls Try.prog 35 #[.pointer (some ⟨bu, 0, none⟩), .int .i64 node] w fun e w' => e = .returned (.tuple #[.agg #[.int .i64 0, .int .i64 0, .int .i64 0], .bool false]) ∧ Below w.heap.size w w' := by
  have hb : ∀ j (hj : j < M.L.length), M.L[j].lit / 2 ≠ node := fun j hj => by
    unfold find at hf
    rw [List.find?_eq_none] at hf
    have := hf _ (List.getElem_mem hj)
    simpa [isAt] using this
  obtain ⟨A, cap, rfl, hcells⟩ := h.form
  have c1 := h.blk.cell 1
  simp only [List.getElem?_toArray, List.getElem?_cons_zero, List.getElem?_cons_succ] at c1
  have q0 := h.blk.lt
  have hlen := h.ok.len
  have hN := h.ok.n
  have HC := Lib.hid hcells
  have HB := Lib.hid hb
  clear hcells hb h hf
  go_enter Try.func35, Try.ntmps35
  go_wp2
  go_loopw [6] (fun c wr => ∃ k : Nat, k ≤ M.L.length ∧ c = .int .i64 k ∧ Blk wr w.heap.size 79 #[.int .i64 0, .int .i64 0, .int .i64 0] ∧ Below w.heap.size w wr) (fun c _ => M.L.length - (intOf c).toNat)
  case atStart => exact ⟨0, Nat.zero_le _, rfl, Blk.new _ _ _, (Below.refl _ _).alloc (Nat.le_refl _) _⟩
  case round =>
    obtain ⟨k, hk, rfl, hbox, hbel⟩ := hrel
    have f1 := (hbel.cell (p := ⟨bu, 1, none⟩) q0).trans c1
    by_cases hlt : k < M.L.length
    · obtain ⟨g, rfl, hg, _, e0, _, _⟩ := HC.out k hlt
      have f3 := (hbel.cell (p := ⟨g, k * 3, none⟩) hg).trans e0
      clear e0
      have hne : (M.L[k].lit / 2 == node) = false := by have := HB.out k hlt; simpa using this
      generalize M.L[k] = q at *
      go_wp2
      exact ⟨⟨k + 1, by omega, by go_num, hbox, hbel⟩, by simp [intOf]; omega⟩
    · obtain rfl : k = M.L.length := by omega
      have x0 := hbox.cell 0
      have x1 := hbox.cell 1
      have x2 := hbox.cell 2
      have y0 := hbox.frozen 0
      have y1 := hbox.frozen 1
      have y2 := hbox.frozen 2
      simp only [List.getElem?_toArray, List.getElem?_cons_zero, List.getElem?_cons_succ] at x0 x1 x2
      clear HB HC hlt hk
      go_wp2
      have hfin : Below w.heap.size w (((wr.setCell ⟨w.heap.size, 0, none⟩ (.int .i64 0)).setCell ⟨w.heap.size, 1, none⟩ (.int .i64 0)).setCell ⟨w.heap.size, 2, none⟩ (.int .i64 0)) :=
        ((hbel.setCell (p := ⟨w.heap.size, 0, none⟩) (Nat.le_refl _) _).setCell (p := ⟨w.heap.size, 1, none⟩) (Nat.le_refl _) _).setCell (p := ⟨w.heap.size, 2, none⟩) (Nat.le_refl _) _
      have b3 := (((hbox.set_ 0 (.int .i64 0)).set_ 1 (.int .i64 0)).set_ 2 (.int .i64 0))
      have z0 := b3.cell 0
      have z1 := b3.cell 1
      have z2 := b3.cell 2
      simp at z0 z1 z2
      exact bodyPost_ret (v := .tuple #[.agg #[.int .i64 0, .int .i64 0, .int .i64 0], .bool false]) (by simp [results, Try.results35, go_sem, z0, z1, z2]) rfl ⟨rfl, hfin⟩
theorem ufind_nil {w : World} (node : Int) :
    Calls Try.prog 35 #[.pointer none, .int .i64 node] w fun e w' => e = .returned (.tuple #[.agg #[.int .i64 0, .int .i64 0, .int .i64 0], .bool false]) ∧ Below w.heap.size w w' := by
  go_enter Try.func35, Try.ntmps35
  go_wp2
  exact bodyPost_ret (v := .tuple #[.agg #[.int .i64 0, .int .i64 0, .int .i64 0], .bool false]) (by simp [results, Try.results35, go_sem]) rfl ⟨rfl, (Below.refl _ _).alloc (Nat.le_refl _) _⟩
end Go.Proofs.Ytnfeggeahnjdeaa

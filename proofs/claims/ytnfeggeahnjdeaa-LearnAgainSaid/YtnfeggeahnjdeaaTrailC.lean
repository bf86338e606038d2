/- Put. -/
import Derived.Test.YtnfeggeahnjdeaaTrailB
namespace Go.Proofs.Ytnfeggeahnjdeaa
open Go.RowKit

theorem put_info : (Try.prog.info? 66).map (fun i => (i.zero, i.size, i.bytes)) = some (some (.agg #[.int .i64 0, .int .i64 0, .int .i64 0]), 3, 24) := by kernel_rfl

theorem atCells_push {M : Tr} (p : Pt) (h0 : 0 ≤ p.lit) (hf : find M.L (p.lit / 2) = none) :
    (atCells M).setIfInBounds (p.lit / 2).toNat (.int .i64 ((M.L.length : Int) + 1)) = atCells ⟨M.n, M.L ++ [p], M.lv⟩ := by
  apply Array.ext
  · simp [atCells]
  · intro i hi hi'
    have hin : i < M.n := by simpa [atCells] using hi'
    rw [Array.getElem_setIfInBounds (by simpa [atCells] using hin)]
    simp only [atCells, List.getElem_toArray, List.getElem_map, List.getElem_range, atOf_append M.L p i hf h0]
    split <;> simp

theorem TR.drew {w : World} {B bt ba : Nat} {lv : Value} {M : Tr} (h : TR w B bt ba lv M) : TR w.drew B bt ba lv M := ⟨h.blk, h.at_, h.own, h.hbt, h.hba, h.ok⟩
theorem TR.drewN {w : World} {B bt ba : Nat} {lv : Value} {M : Tr} (h : TR w B bt ba lv M) (n : Nat) : TR (w.drewN n) B bt ba lv M := ⟨h.blk, h.at_, h.own, h.hbt, h.hba, h.ok⟩

theorem put_fin {w w1 : World} {B bt ba g cap : Nat} {lv : Value} {M : Tr} (h : TR w B bt ba lv M) (p : Pt) (h0 : 0 ≤ p.lit) (h1 : p.lit / 2 < M.n) (hf : find M.L (p.lit / 2) = none) (hl : p.level = M.lv)
    (hown : w1.ownsRow B 66 3 (.slice (some ⟨g, 0, none⟩) (M.L.length + 1) cap) (M.L.length + 1) (M.L.flatMap putCells ++ putCells p))
    (o : Obj) (hgrow : (w.alloc o).grownBy w1 lv.ownBlock) :
    TR ((w1.setCell ⟨bt, 0, none⟩ (.slice (some ⟨g, 0, none⟩) (M.L.length + 1) cap)).setCell ⟨ba, (p.lit / 2).toNat, none⟩ (.int .i64 ((M.L.length : Int) + 1))) B bt ba (.slice (some ⟨g, 0, none⟩) (M.L.length + 1) cap) ⟨M.n, M.L ++ [p], M.lv⟩ ∧
      Kept (fun k => k = bt ∨ k = ba ∨ lv.ownBlock = some k) w ((w1.setCell ⟨bt, 0, none⟩ (.slice (some ⟨g, 0, none⟩) (M.L.length + 1) cap)).setCell ⟨ba, (p.lit / 2).toNat, none⟩ (.int .i64 ((M.L.length : Int) + 1))) := by
  have n1 : ba ≠ bt := h.at_.ne_ h.blk (by decide)
  have hne1 : some bt ≠ lv.ownBlock := fun e => own_blk_ne h.own h.blk (by decide) e.symm
  have hne2 : some ba ≠ lv.ownBlock := fun e => own_blk_ne h.own h.at_ (by decide) e.symm
  have b1 := (h.blk.alloc o).grown hgrow hne1
  have b2 := (h.at_.alloc o).grown hgrow hne2
  have m1 : bt ≠ g := fun e => own_blk_ne hown b1 (by decide) (by rw [e]; rfl)
  have m2 : ba ≠ g := fun e => own_blk_ne hown b2 (by decide) (by rw [e]; rfl)
  refine ⟨⟨?_, ?_, ?_, h.hbt, h.hba, h.ok.push p h0 h1 hf hl⟩, ?_⟩
  · have := (b1.set_ 0 (.slice (some ⟨g, 0, none⟩) (M.L.length + 1) cap)).far (p := ⟨ba, (p.lit / 2).toNat, none⟩) (Ne.symm n1) (.int .i64 ((M.L.length : Int) + 1))
    simpa using this
  · rw [← atCells_push p h0 hf]
    exact (b2.far (p := ⟨bt, 0, none⟩) n1 _).set_ _ _
  · have e : (M.L ++ [p]).flatMap putCells = M.L.flatMap putCells ++ putCells p := by simp
    rw [show (⟨M.n, M.L ++ [p], M.lv⟩ : Tr).L = M.L ++ [p] from rfl, e, List.length_append, List.length_singleton]
    have k1 := own_kept hown (Kept.set1 w1 bt 0 (.slice (some ⟨g, 0, none⟩) (M.L.length + 1) cap)) (fun k hk e => by injection hk with hk; exact m1 (e.symm.trans hk.symm))
    exact own_kept k1 (Kept.set1 _ ba (p.lit / 2).toNat (.int .i64 ((M.L.length : Int) + 1))) (fun k hk e => by injection hk with hk; exact m2 (e.symm.trans hk.symm))
  · refine Kept.setCell (p := ⟨ba, _, none⟩) (Kept.setCell (p := ⟨bt, 0, none⟩) ?_ (.inl (.inl rfl)) _) (.inl (.inr (.inl rfl))) _
    exact ((Kept.refl _ w).alloc o).grown hgrow fun k hk => .inl (.inr (.inr hk))

set_option maxHeartbeats 400000 in
theorem put_new {w : World} {B bt ba : Nat} {lv : Value} {M : Tr} (h : TR w B bt ba lv M) (lit reason : Int) (h0 : 0 ≤ lit) (h1 : lit / 2 < M.n) (h2 : -1 ≤ reason) (hf : find M.L (lit / 2) = none) :
    Calls Try.prog 16 #[.pointer (some ⟨bt, 0, none⟩), .int .i64 lit, .int .i64 reason] w fun e w' => ∃ lv', e = .returned (.int .i64 0) ∧ TR w' B bt ba lv' ⟨M.n, M.L ++ [⟨lit, M.lv, reason⟩], M.lv⟩ ∧
      Kept (fun k => k = bt ∨ k = ba ∨ lv.ownBlock = some k) w w' := by
  obtain ⟨m, rfl⟩ := Int.eq_ofNat_of_zero_le h0
  have c0 := h.blk.cell 0
  have c1 := h.blk.cell 1
  have c2 := h.blk.cell 2
  have f0 := h.blk.frozen 0
  have hN := h.ok.n
  have c3 : w.cell? ⟨ba, m / 2, none⟩ = some (.int .i64 0) := by
    rw [h.at_cell (show m / 2 < M.n by omega), find_none_at (by rw [← hf]; congr 1)]; rfl
  simp only [List.getElem?_toArray, List.getElem?_cons_zero, List.getElem?_cons_succ] at c0 c1 c2
  have d1 : decide ((m : Int) < 0) = false := by simp
  have d2 : decide ((M.n : Int) ≤ (m : Int) / 2) = false := by simp; omega
  have d3 : decide (reason < -1) = false := by simp; omega
  generalize hk0 : M.lv = k at *
  have hk := Lib.hid hk0
  clear hk0
  obtain ⟨i0, hi, hz0, hz1, hz2⟩ := info_parts put_info
  have hlen := h.ok.len
  have hB1 : B ≤ w.heap.size := by have := h.hbt; have := h.blk.lt; omega
  have q0 := h.blk.lt
  have n1 : ba ≠ bt := h.at_.ne_ h.blk (by decide)
  have n2 : bt ≠ ba := Ne.symm n1
  have q1 := h.at_.lt
  have hne1 : some bt ≠ lv.ownBlock := fun e => own_blk_ne h.own h.blk (by decide) e.symm
  have hne2 : some ba ≠ lv.ownBlock := fun e => own_blk_ne h.own h.at_ (by decide) e.symm
  have h1c : Hid (∀ u ∈ [Value.int .i64 m, .int .i64 k, .int .i64 reason], u.oneCell' = true) := Lib.hid (by simp [Value.oneCell'])
  go_enter Try.func16, Try.ntmps16
  go_wp2
  go_region_law (refine step_push _ rfl (.tmp 37) (.tmp 45) 62 rfl B 66 i0 (.agg #[.int .i64 0, .int .i64 0, .int .i64 0]) 3 24 Try.underlying62 hi hz0 hz1 hz2 rfl (by decide) lv M.L.length (M.L.flatMap putCells) rfl (own_drew (h.own.alloc _)) w.heap.size #[.int .i64 m, .int .i64 k, .int .i64 reason] rfl (Blk.new w _ _) rfl h1c.out (by omega) (by omega) hB1 (fun g cap w1 hown hgrow hat hlt => ?_); have b1 := (h.blk.alloc (.cells #[.int .i64 m, .int .i64 k, .int .i64 reason] 66)).drew.grown hgrow hne1; have b2 := (h.at_.alloc (.cells #[.int .i64 m, .int .i64 k, .int .i64 reason] 66)).drew.grown hgrow hne2; have e0 := b1.cell 0; have e1 := b1.cell 1; have e2 := (b2.cell (m / 2)).trans ((h.at_.cell (m / 2)).symm.trans c3); have z0 := b1.frozen 0; have z1 := b2.frozen (m / 2); simp only [List.getElem?_toArray, List.getElem?_cons_zero, List.getElem?_cons_succ] at e0 e1)
  all_goals go_wp2
  all_goals go_region
  all_goals go_wp2
  all_goals go_ret
  all_goals
    have hx := put_fin h ⟨m, k, reason⟩ h0 h1 hf (by rw [← hk.out]) hown (.cells #[.int .i64 m, .int .i64 k, .int .i64 reason] 66) (grown_undrew hgrow)
    rw [show ((⟨m, k, reason⟩ : Pt).lit / 2).toNat = m / 2 by show ((m : Int) / 2).toNat = m / 2; omega, hk.out] at hx
    exact ⟨_, rfl, hx.1.drew, hx.2.drew⟩

theorem put_arg {w : World} {B bt ba : Nat} {lv : Value} {M : Tr} (h : TR w B bt ba lv M) (lit reason : Int) (hn : lit < 0 ∨ M.n ≤ lit / 2 ∨ reason < -1) :
    Calls Try.prog 16 #[.pointer (some ⟨bt, 0, none⟩), .int .i64 lit, .int .i64 reason] w fun e w' => e = .returned (.int .i64 2) ∧ w = w' := by
  have c1 := h.blk.cell 1
  simp only [List.getElem?_toArray, List.getElem?_cons_zero, List.getElem?_cons_succ] at c1
  clear h
  generalize M.n = N at *
  by_cases h1 : lit < 0
  · have d1 : decide (lit < 0) = true := by simpa using h1
    clear hn
    go_enter Try.func16, Try.ntmps16
    go_wp2
    go_ret
    exact ⟨rfl, rfl⟩
  · have d1 : decide (lit < 0) = false := by simpa using h1
    by_cases h2 : (N : Int) ≤ lit / 2
    · have d2 : decide ((N : Int) ≤ lit / 2) = true := by simpa using h2
      clear hn
      go_enter Try.func16, Try.ntmps16
      go_wp2
      go_ret
      exact ⟨rfl, rfl⟩
    · have d2 : decide ((N : Int) ≤ lit / 2) = false := by simpa using h2
      have d3 : decide (reason < -1) = true := by simp; omega
      clear hn
      go_enter Try.func16, Try.ntmps16
      go_wp2
      go_ret
      exact ⟨rfl, rfl⟩
theorem put_nil {w : World} (lit reason : Int) :
    Calls Try.prog 16 #[.pointer none, .int .i64 lit, .int .i64 reason] w fun e w' => e = .returned (.int .i64 3) ∧ w = w' := by
  go_enter Try.func16, Try.ntmps16
  go_wp2
  go_ret
  exact ⟨rfl, rfl⟩
theorem put_there {w : World} {B bt ba : Nat} {lv : Value} {M : Tr} (h : TR w B bt ba lv M) (lit reason : Int) (h0 : 0 ≤ lit) (h1 : lit / 2 < M.n) (h2 : -1 ≤ reason) (p : Pt) (hf : find M.L (lit / 2) = some p) :
    Calls Try.prog 16 #[.pointer (some ⟨bt, 0, none⟩), .int .i64 lit, .int .i64 reason] w fun e w' => e = .returned (.int .i64 32) ∧ w = w' := by
  obtain ⟨m, rfl⟩ := Int.eq_ofNat_of_zero_le h0
  obtain ⟨i, hi, _, hat, _⟩ := find_some_at (node := m / 2) (by rw [← hf]; congr 1)
  have c1 := h.blk.cell 1
  have hN := h.ok.n
  have hlen := h.ok.len
  have c3 : w.cell? ⟨ba, m / 2, none⟩ = some (.int .i64 ((i : Int) + 1)) := by rw [h.at_cell (show m / 2 < M.n by omega), hat]; simp
  simp only [List.getElem?_toArray, List.getElem?_cons_zero, List.getElem?_cons_succ] at c1
  have d1 : decide ((m : Int) < 0) = false := by simp
  have d2 : decide ((M.n : Int) ≤ (m : Int) / 2) = false := by simp; omega
  have d3 : decide (reason < -1) = false := by simp; omega
  have d4 : decide ((0 : Int) < (i : Int) + 1) = true := by simp
  have hi2 : i < M.n := by omega
  clear hat hf h
  generalize M.n = N at *
  go_enter Try.func16, Try.ntmps16
  go_wp2
  go_ret
  exact ⟨rfl, rfl⟩
end Go.Proofs.Ytnfeggeahnjdeaa

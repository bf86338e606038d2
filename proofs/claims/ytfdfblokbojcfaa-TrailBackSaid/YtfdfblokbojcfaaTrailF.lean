/- above's iterator. -/
import Derived.Test.YtfdfblokbojcfaaTrailC
import Derived.Test.YtfdfblokbojcfaaRange
namespace Go.Proofs.Ytfdfblokbojcfaa
open Go.RowKit

theorem own_take {w : World} {base : Nat} {e : TypeId} {size n m g cap : Nat} {xs : List Value} (h : w.ownsRow base e size (.slice (some ⟨g, 0, none⟩) n cap) n xs) (hm : m ≤ n) :
    w.ownsRow base e size (.slice (some ⟨g, 0, none⟩) m cap) m (xs.take (m * size)) := by
  have hms : m * size ≤ n * size := Nat.mul_le_mul_right _ hm
  refine ⟨by rw [List.length_take, h.1]; omega, ?_⟩
  rcases h.2 with ⟨h, _⟩ | ⟨g', cap', cur, hv, hb, hh, hc, hM, hs, ht⟩
  · cases h
  · injection hv with hv1 hv2 hv3
    injection hv1 with hv1
    injection hv1 with hv1
    subst hv1
    subst hv3
    exact .inr ⟨g, cap, cur, rfl, hb, hh, by omega, hM, hs, by rw [← ht, List.take_take]; congr 1; omega⟩
theorem flat_take {α : Type} (enc : α → List Value) (sz : Nat) (h : ∀ a, (enc a).length = sz) : ∀ (L : List α) (m : Nat), (L.flatMap enc).take (m * sz) = (L.take m).flatMap enc
  | [], m => by simp
  | a :: L, 0 => by simp
  | a :: L, m + 1 => by
    rw [List.flatMap_cons, List.take_succ_cons, List.flatMap_cons, List.take_append, h, Nat.add_mul, Nat.one_mul, Nat.add_sub_cancel, List.take_of_length_le (by rw [h]; omega), flat_take enc sz h L m]

theorem atCells_pop {M : Tr} (h : M.Ok) {m : Nat} (hm : m < M.L.length) :
    (atCells ⟨M.n, M.L.take (m + 1), M.lv⟩).setIfInBounds (M.L[m].lit / 2).toNat (.int .i64 0) = atCells ⟨M.n, M.L.take m, M.lv⟩ := by
  have hl := h.lit M.L[m] (List.getElem_mem _)
  have hf := find_take_none hm h.nodup
  apply Array.ext
  · simp [atCells]
  · intro i hi hi'
    have hin : i < M.n := by simpa [atCells] using hi'
    rw [Array.getElem_setIfInBounds (by simpa [atCells] using hin)]
    simp only [atCells, List.getElem_toArray, List.getElem_map, List.getElem_range]
    rw [List.take_succ_eq_append_getElem hm, atOf_append (M.L.take m) M.L[m] i hf hl.1]
    by_cases he : (M.L[m].lit / 2).toNat = i
    · rw [if_pos he, ← he, find_none_at (by rw [← hf]; congr 1; omega)]; rfl
    · rw [if_neg he, if_neg he]

/-- One element is taken off: what the two stores leave. -/
theorem pop_fin {w : World} {B bt ba g cap m : Nat} {M : Tr} (hm : m < M.L.length) (hM : M.Ok) (h : TR w B bt ba (.slice (some ⟨g, 0, none⟩) (m + 1) cap) ⟨M.n, M.L.take (m + 1), M.lv⟩) :
    TR ((w.setCell ⟨bt, 0, none⟩ (.slice (some ⟨g, 0, none⟩) m cap)).setCell ⟨ba, (M.L[m].lit / 2).toNat, none⟩ (.int .i64 0)) B bt ba (.slice (some ⟨g, 0, none⟩) m cap) ⟨M.n, M.L.take m, M.lv⟩ := by
  have n1 : ba ≠ bt := h.at_.ne_ h.blk (by decide)
  have hl : (M.L.take (m + 1)).length = m + 1 := by rw [List.length_take]; omega
  have hl2 : (M.L.take m).length = m := by rw [List.length_take]; omega
  have hown := h.own
  rw [show (⟨M.n, M.L.take (m + 1), M.lv⟩ : Tr).L = M.L.take (m + 1) from rfl, hl] at hown
  have m1 : bt ≠ g := fun e => own_blk_ne hown h.blk (by decide) (by rw [e]; rfl)
  have m2 : ba ≠ g := fun e => own_blk_ne hown h.at_ (by decide) (by rw [e]; rfl)
  refine ⟨?_, ?_, ?_, h.hbt, h.hba, hM.take m⟩
  · have := (h.blk.set_ 0 (.slice (some ⟨g, 0, none⟩) m cap)).far (p := ⟨ba, (M.L[m].lit / 2).toNat, none⟩) (Ne.symm n1) (.int .i64 0)
    simpa using this
  · rw [← atCells_pop hM hm]
    exact (h.at_.far (p := ⟨bt, 0, none⟩) n1 _).set_ _ _
  · have k0 := own_take hown (Nat.le_succ m)
    rw [flat_take putCells 3 putCells_len, List.take_take, Nat.min_eq_left (Nat.le_succ m)] at k0
    rw [show (⟨M.n, M.L.take m, M.lv⟩ : Tr).L = M.L.take m from rfl, hl2]
    have k1 := own_kept k0 (Kept.set1 w bt 0 (.slice (some ⟨g, 0, none⟩) m cap)) (fun k hk e => by injection hk with hk; exact m1 (e.symm.trans hk.symm))
    exact own_kept k1 (Kept.set1 _ ba (M.L[m].lit / 2).toNat (.int .i64 0)) (fun k hk e => by injection hk with hk; exact m2 (e.symm.trans hk.symm))

/-- The trail while k have been taken off, and the two captured boxes. -/
structure Mid (w : World) (B bt ba b1 b2 : Nat) (lev : Int) (M : Tr) (k : Nat) : Prop where
  tr : ∃ lv, TR w B bt ba lv ⟨M.n, M.L.take (M.L.length - k), M.lv⟩
  x1 : Blk w b1 25 #[.pointer (some ⟨bt, 0, none⟩)]
  x2 : Blk w b2 3 #[.int .i64 lev]

set_option maxHeartbeats 1000000 in
theorem above_iter (l B bt ba b1 b2 : Nat) (lev : Int) (M : Tr) (hM : M.Ok) (X : Nat → World → Prop)
    (hX : ∀ k W W', X k W → Kept (fun b => b = bt ∨ b = ba) W W' → X k W')
    (hY : ∀ (k : Nat) (W : World), k < above lev M.L → (hi : M.L.length - 1 - k < M.L.length) → X k W → Mid W B bt ba b1 b2 lev M (k + 1) →
      ∃ fn tmps assign body, (Instr.yield l #[.int .i64 M.L[M.L.length - 1 - k].lit]).run Try.prog W = .ok (.round l fn tmps assign body) W ∧
        RoundIn Fence.wide 0 Try.prog l fn tmps assign body W fun e W' => e = .returned (.bool true) ∧ X (k + 1) W' ∧ Mid W' B bt ba b1 b2 lev M (k + 1))
    (w : World) (h0 : Mid w B bt ba b1 b2 lev M 0) (hx0 : X 0 w) (hb2 : b2 ≠ ba) :
    Calls Try.prog 35 #[.func (.yield l) #[] #[], .pointer (some ⟨b1, 0, none⟩), .pointer (some ⟨b2, 0, none⟩)] w fun e W' => e = .returned (.tuple #[]) ∧ X (above lev M.L) W' ∧ Mid W' B bt ba b1 b2 lev M (above lev M.L) := by
  have hle := above_le lev M.L
  have hlen := hM.len
  have hN := hM.n
  obtain ⟨lv, ht⟩ := h0.tr
  rw [Nat.sub_zero, List.take_length] at ht
  have a0 := h0.x1.cell 0
  have c0 := ht.blk.cell 0
  simp only [List.getElem?_toArray, List.getElem?_cons_zero] at a0 c0
  have hlv : ∃ A cap, lv = .slice A M.L.length cap := by
    rcases ht.own.2 with ⟨hv, h0⟩ | ⟨g, cap, cur, hv, _⟩
    · exact ⟨none, 0, by rw [show M.L.length = 0 from h0]; exact hv⟩
    · exact ⟨_, cap, hv⟩
  obtain ⟨A, cap, rfl⟩ := hlv
  clear ht
  have H0 := Lib.hid h0
  have HX := Lib.hid hX
  have HY := Lib.hid hY
  have Hx0 := Lib.hid hx0
  clear h0 hX hY hx0
  go_enter Try.func35, Try.ntmps35
  go_wp2
  go_loopw [4] (fun i wr => ∃ k : Nat, k ≤ above lev M.L ∧ i = .int .i64 ((M.L.length : Int) - 1 - k) ∧ X k wr ∧ Mid wr B bt ba b1 b2 lev M k) (fun i _ => (1 + intOf i).toNat)
  case atStart => exact ⟨0, Nat.zero_le _, by go_num, Hx0.out, H0.out⟩
  case round =>
    obtain ⟨k, hk, rfl, hx, hmid⟩ := hrel
    obtain ⟨lv, ht⟩ := hmid.tr
    by_cases hz : M.L.length - k = 0
    · have hk2 : above lev M.L = k := by omega
      rw [show (M.L.length : Int) - 1 - k = -1 by omega]
      have Hx := Lib.hid hx
      have Hk2 := Lib.hid hk2
      clear hx ht hk2
      go_wp2
      go_quiet (fail)
      go_wp2
      go_end0
      rw [Hk2.out]
      exact ⟨rfl, HX.out _ _ _ Hx.out ((Kept.refl _ wr).drewN _), ⟨by obtain ⟨lv, ht⟩ := hmid.tr; exact ⟨lv, ht.drewN _⟩, hmid.x1.drewN _, hmid.x2.drewN _⟩⟩
    · obtain ⟨m, hm⟩ : ∃ m, M.L.length - k = m + 1 := ⟨M.L.length - k - 1, by omega⟩
      rw [hm] at ht
      have hml : m < M.L.length := by omega
      have hl : (M.L.take (m + 1)).length = m + 1 := by rw [List.length_take]; omega
      have hown := ht.own
      rw [show (⟨M.n, M.L.take (m + 1), M.lv⟩ : Tr).L = M.L.take (m + 1) from rfl, hl] at hown
      obtain ⟨g, cap2, rfl, hbg, hg, hcap⟩ := own_form hown (by omega)
      have hp : (M.L.take (m + 1))[m]'(by omega) = M.L[m] := by simp
      have t1 := hmid.x1.cell 0
      have t2 := hmid.x2.cell 0
      have c0 := ht.blk.cell 0
      have c1 := ht.blk.cell 1
      have e0 := own_cell putCells putCells_len hown (i := m) (j := 0) (by omega) (by omega)
      have e1 := own_cell putCells putCells_len hown (i := m) (j := 1) (by omega) (by omega)
      rw [hp] at e0 e1
      simp only [putCells, List.getElem?_cons_zero, List.getElem?_cons_succ, List.getElem?_toArray, Nat.add_zero] at t1 t2 c0 c1 e0 e1
      rw [show (M.L.length : Int) - 1 - k = m by omega]
      have Hx := Lib.hid hx
      have HT := Lib.hid ht
      have Hm := Lib.hid hm
      have Hidx : Hid (∀ hi : M.L.length - 1 - k < M.L.length, M.L[M.L.length - 1 - k] = M.L[m]) := Lib.hid (fun hi => by congr 1; omega)
      by_cases hlt : k < above lev M.L
      · have d1 : decide (lev < M.L[m].level) = true := by
          have := above_lt hlt (by omega)
          rw [Hidx.out] at this
          simpa using this
        have hlit := hM.lit M.L[m] (List.getElem_mem _)
        obtain ⟨q, hq⟩ := Int.eq_ofNat_of_zero_le hlit.1
        have n1 : ba ≠ bt := ht.at_.ne_ ht.blk (by decide)
        have n2 : bt ≠ ba := Ne.symm n1
        have f0 := ht.blk.frozen 0
        have f1 := ht.at_.frozen (q / 2)
        have hq2 : q / 2 < M.n := by omega
        obtain ⟨u3, e3⟩ : ∃ u, wr.cell? ⟨ba, q / 2, none⟩ = some u := ⟨_, ht.at_cell hq2⟩
        have hpop := Lib.hid (pop_fin hml hM ht)
        rw [hq] at hpop e0
        clear hx ht hm hown hlit
        generalize M.L[m] = p at *
        have Hq := Lib.hid hq
        clear hq
        go_wp2
        go_quiet (fail)
        go_wp2
        go_region
        go_upto_region 5 with (fail)
        have hX4 := HX.out _ _ _ Hx.out ((((Kept.refl (fun b => b = bt ∨ b = ba) wr).drewN (nq + 1)).setCell (p := ⟨bt, 0, none⟩) (.inl (.inl rfl)) (.slice (some ⟨g, 0, none⟩) m cap2)).setCell (p := ⟨ba, q / 2, none⟩) (.inl (.inr rfl)) (.int .i64 0))
        have hn3 : b1 ≠ ba := hmid.x1.ne_ HT.out.at_ (by decide)
        have hn4 : b1 ≠ bt := hmid.x1.ne_ HT.out.blk (by decide)
        have hn5 : b2 ≠ bt := hmid.x2.ne_ HT.out.blk (by decide)
        have hM4 : Mid (((wr.drewN (nq + 1)).setCell ⟨bt, 0, none⟩ (.slice (some ⟨g, 0, none⟩) m cap2)).setCell ⟨ba, q / 2, none⟩ (.int .i64 0)) B bt ba b1 b2 lev M (k + 1) := by
          have h5 := hpop.out
          rw [show ((q : Int) / 2).toNat = q / 2 by omega] at h5
          refine ⟨⟨.slice (some ⟨g, 0, none⟩) m cap2, ?_⟩, ((hmid.x1.drewN (nq + 1)).far (p := ⟨bt, 0, none⟩) hn4 _).far (p := ⟨ba, q / 2, none⟩) hn3 _, ((hmid.x2.drewN (nq + 1)).far (p := ⟨bt, 0, none⟩) hn5 _).far (p := ⟨ba, q / 2, none⟩) hb2 _⟩
          have hm5 := Hm.out
          rw [show M.L.length - (k + 1) = m by omega]
          exact ⟨h5.blk, h5.at_, h5.own, h5.hbt, h5.hba, h5.ok⟩
        obtain ⟨fn, tmps, assign, body, hyield, hround⟩ := HY.out k _ hlt (by omega) hX4 hM4
        rw [Hidx.out, Hq.out] at hyield
        have hk1 := Hm.out
        clear hM4 hX4 hmid t1 t2 c0 c1 e0 e1 e3 f0 f1 n1 n2 hn3 hn4 hn5 a0 hp hl
        generalize ((wr.drewN (nq + 1)).setCell ⟨bt, 0, none⟩ (.slice (some ⟨g, 0, none⟩) m cap2)).setCell ⟨ba, q / 2, none⟩ (.int .i64 0) = W4 at *
        refine (wpIn_wide (n := 1)).1 ?_
        gi_wp2
        refine hround.mono ?_
        rintro e W5 ⟨rfl, hx5, hm5⟩
        have Hx5 := Lib.hid hx5
        clear hx5
        gi_wp2
        go_wp2
        exact ⟨⟨k + 1, by omega, by congr 1; omega, Hx5.out, hm5⟩, by simp [intOf]; omega⟩
      · have hk2 : above lev M.L = k := by omega
        have d1 : decide (lev < M.L[m].level) = false := by
          have := above_at (lev := lev) (L := M.L) (by omega)
          rw [show M.L[M.L.length - 1 - above lev M.L] = M.L[m] by congr 1; omega] at this
          simpa using this
        have Hk2 := Lib.hid hk2
        clear hx ht hm hown hk2
        generalize M.L[m] = p at *
        go_wp2
        go_quiet (fail)
        go_wp2
        go_end0
        rw [Hk2.out]
        exact ⟨rfl, HX.out _ _ _ Hx.out ((Kept.refl _ wr).drewN _), ⟨by obtain ⟨lv, ht⟩ := hmid.tr; exact ⟨lv, ht.drewN _⟩, hmid.x1.drewN _, hmid.x2.drewN _⟩⟩
end Go.Proofs.Ytfdfblokbojcfaa

/- above's iterator. -/
import Derived.Test.YtmbekchnfbmhbaaGreatTrailC
import Derived.Test.YtmbekchnfbmhbaaGreatTrailE
namespace Go.Proofs.YtmbekchnfbmhbaaGreat
open Go.RowKit

theorem own_take {w : World} {base : Nat} {e : TypeId} {size n m g cap : Nat} {xs : List Value} (h : w.ownsRow base e size (.slice (some ⟨g, 0, none⟩) n cap) n xs) (hm : m ≤ n) :
    w.ownsRow base e size (.slice (some ⟨g, 0, none⟩) m cap) m (xs.take (m * size)) := by
  have hms : m * size ≤ n * size := Nat.mul_le_mul_right _ hm
  refine ⟨by rw [List.length_take, h.1]; omega, ?_⟩
  rcases h.2 with ⟨h, _⟩ | ⟨g', cap', cur, hv, hb, hh, hc, hM, hs, ht⟩
  · cases h
  · injection hv with hv1 hv2 hv3
    injection hv1 with hv1
    injection hv1 with hv1
    subst hv1
    subst hv3
    exact .inr ⟨g, cap, cur, rfl, hb, hh, by omega, hM, hs, by rw [← ht, List.take_take]; congr 1; omega⟩
theorem flat_take {α : Type} (enc : α → List Value) (sz : Nat) (h : ∀ a, (enc a).length = sz) : ∀ (L : List α) (m : Nat), (L.flatMap enc).take (m * sz) = (L.take m).flatMap enc
  | [], m => by simp
  | a :: L, 0 => by simp
  | a :: L, m + 1 => by
    rw [List.flatMap_cons, List.take_succ_cons, List.flatMap_cons, List.take_append, h, Nat.add_mul, Nat.one_mul, Nat.add_sub_cancel, List.take_of_length_le (by rw [h]; omega), flat_take enc sz h L m]

theorem atCells_pop {M : Tr} (h : M.Ok) {m : Nat} (hm : m < M.L.length) :
    (atCells ⟨M.n, M.L.take (m + 1), M.lv⟩).setIfInBounds (M.L[m].lit / 2).toNat (.int .i64 0) = atCells ⟨M.n, M.L.take m, M.lv⟩ := by
  have hl := h.lit M.L[m] (List.getElem_mem _)
  have hf := find_take_none hm h.nodup
  apply Array.ext
  · simp [atCells]
  · intro i hi hi'
    have hin : i < M.n := by simpa [atCells] using hi'
    rw [Array.getElem_setIfInBounds (by simpa [atCells] using hin)]
    simp only [atCells, List.getElem_toArray, List.getElem_map, List.getElem_range]
    rw [List.take_succ_eq_append_getElem hm, atOf_append (M.L.take m) M.L[m] i hf hl.1]
    by_cases he : (M.L[m].lit / 2).toNat = i
    · rw [if_pos he, ← he, find_none_at (by rw [← hf]; congr 1; omega)]; rfl
    · rw [if_neg he, if_neg he]

/-- One element is taken off: what the two stores leave. -/
theorem pop_fin {w : World} {B bt ba g cap m : Nat} {M : Tr} (hm : m < M.L.length) (hM : M.Ok) (h : TR w B bt ba (.slice (some ⟨g, 0, none⟩) (m + 1) cap) ⟨M.n, M.L.take (m + 1), M.lv⟩) :
    TR ((w.setCell ⟨bt, 0, none⟩ (.slice (some ⟨g, 0, none⟩) m cap)).setCell ⟨ba, (M.L[m].lit / 2).toNat, none⟩ (.int .i64 0)) B bt ba (.slice (some ⟨g, 0, none⟩) m cap) ⟨M.n, M.L.take m, M.lv⟩ := by
  have n1 : ba ≠ bt := h.at_.ne_ h.blk (by decide)
  have hl : (M.L.take (m + 1)).length = m + 1 := by rw [List.length_take]; omega
  have hl2 : (M.L.take m).length = m := by rw [List.length_take]; omega
  have hown := h.own
  rw [show (⟨M.n, M.L.take (m + 1), M.lv⟩ : Tr).L = M.L.take (m + 1) from rfl, hl] at hown
  have m1 : bt ≠ g := fun e => own_blk_ne hown h.blk (by decide) (by rw [e]; rfl)
  have m2 : ba ≠ g := fun e => own_blk_ne hown h.at_ (by decide) (by rw [e]; rfl)
  refine ⟨?_, ?_, ?_, h.hbt, h.hba, hM.take m⟩
  · have := (h.blk.set_ 0 (.slice (some ⟨g, 0, none⟩) m cap)).far (p := ⟨ba, (M.L[m].lit / 2).toNat, none⟩) (Ne.symm n1) (.int .i64 0)
    simpa using this
  · rw [← atCells_pop hM hm]
    exact (h.at_.far (p := ⟨bt, 0, none⟩) n1 _).set_ _ _
  · have k0 := own_take hown (Nat.le_succ m)
    rw [flat_take putCells 3 putCells_len, List.take_take, Nat.min_eq_left (Nat.le_succ m)] at k0
    rw [show (⟨M.n, M.L.take m, M.lv⟩ : Tr).L = M.L.take m from rfl, hl2]
    have k1 := own_kept k0 (Kept.set1 w bt 0 (.slice (some ⟨g, 0, none⟩) m cap)) (fun k hk e => by injection hk with hk; exact m1 (e.symm.trans hk.symm))
    exact own_kept k1 (Kept.set1 _ ba (M.L[m].lit / 2).toNat (.int .i64 0)) (fun k hk e => by injection hk with hk; exact m2 (e.symm.trans hk.symm))

/-- The trail while k have been taken off, and the two captured boxes. -/
structure Mid (P : Nat → Prop) (w : World) (B bt ba b1 b2 : Nat) (lev : Int) (M : Tr) (k : Nat) : Prop where
  tr : ∃ lv, TR w B bt ba lv ⟨M.n, M.L.take (M.L.length - k), M.lv⟩ ∧ ∀ i, lv.ownBlock = some i → P i
  x1 : Blk w b1 46 #[.pointer (some ⟨bt, 0, none⟩)]
  x2 : Blk w b2 3 #[.int .i64 lev]

set_option maxHeartbeats 1000000 in
theorem above_iter (P : Nat → Prop) (l B bt ba b1 b2 : Nat) (lev : Int) (M : Tr) (hM : M.Ok) (X : Nat → World → Prop)
    (hX : ∀ k W W', X k W → Kept (fun b => b = bt ∨ b = ba) W W' → X k W')
    (hY : ∀ (k : Nat) (W : World), k < above lev M.L → (hi : M.L.length - 1 - k < M.L.length) → X k W → Mid P W B bt ba b1 b2 lev M (k + 1) →
      ∃ fn tmps assign body, (Instr.yield l #[.int .i64 M.L[M.L.length - 1 - k].lit]).run Tryz.prog W = .ok (.round l fn tmps assign body) W ∧
        RoundIn Fence.wide 0 Tryz.prog l fn tmps assign body W fun e W' => e = .returned (.bool true) ∧ X (k + 1) W' ∧ Mid P W' B bt ba b1 b2 lev M (k + 1))
    (w : World) (h0 : Mid P w B bt ba b1 b2 lev M 0) (hx0 : X 0 w) (hb2 : b2 ≠ ba) :
    Calls Tryz.prog 97 #[.func (.yield l) #[] #[], .pointer (some ⟨b1, 0, none⟩), .pointer (some ⟨b2, 0, none⟩)] w fun e W' => e = .returned (.tuple #[]) ∧ X (above lev M.L) W' ∧ Mid P W' B bt ba b1 b2 lev M (above lev M.L) := by
  have hle := above_le lev M.L
  have hlen := hM.len
  have hN := hM.n
  obtain ⟨lv, ht, _⟩ := h0.tr
  rw [Nat.sub_zero, List.take_length] at ht
  have a0 := h0.x1.cell 0
  have c0 := ht.blk.cell 0
  simp only [List.getElem?_toArray, List.getElem?_cons_zero] at a0 c0
  have hlv : ∃ A cap, lv = .slice A M.L.length cap := by
    rcases ht.own.2 with ⟨hv, h0⟩ | ⟨g, cap, cur, hv, _⟩
    · exact ⟨none, 0, by rw [show M.L.length = 0 from h0]; exact hv⟩
    · exact ⟨_, cap, hv⟩
  obtain ⟨A, cap, rfl⟩ := hlv
  clear ht
  have H0 := Lib.hid h0
  have HX := Lib.hid hX
  have HY := Lib.hid hY
  have Hx0 := Lib.hid hx0
  clear h0 hX hY hx0
  go_enter Tryz.func97, Tryz.ntmps97
  go_wp2
  go_loopw [4] (fun i wr => ∃ k : Nat, k ≤ above lev M.L ∧ i = .int .i64 ((M.L.length : Int) - 1 - k) ∧ X k wr ∧ Mid P wr B bt ba b1 b2 lev M k) (fun i _ => (1 + intOf i).toNat)
  case atStart => exact ⟨0, Nat.zero_le _, by go_num, Hx0.out, H0.out⟩
  case round =>
    obtain ⟨k, hk, rfl, hx, hmid⟩ := hrel
    obtain ⟨lv, ht, hP⟩ := hmid.tr
    have HPP := Lib.hid hP
    clear hP
    by_cases hz : M.L.length - k = 0
    · have hk2 : above lev M.L = k := by omega
      rw [show (M.L.length : Int) - 1 - k = -1 by omega]
      have Hx := Lib.hid hx
      have Hk2 := Lib.hid hk2
      clear hx ht hk2
      go_wp2
      go_quiet (fail)
      go_wp2
      go_end0
      rw [Hk2.out]
      exact ⟨rfl, HX.out _ _ _ Hx.out ((Kept.refl _ wr).drewN _), ⟨by obtain ⟨lv, ht, hP⟩ := hmid.tr; exact ⟨lv, ht.drewN _, hP⟩, hmid.x1.drewN _, hmid.x2.drewN _⟩⟩
    · obtain ⟨m, hm⟩ : ∃ m, M.L.length - k = m + 1 := ⟨M.L.length - k - 1, by omega⟩
      rw [hm] at ht
      have hml : m < M.L.length := by omega
      have hl : (M.L.take (m + 1)).length = m + 1 := by rw [List.length_take]; omega
      have hown := ht.own
      rw [show (⟨M.n, M.L.take (m + 1), M.lv⟩ : Tr).L = M.L.take (m + 1) from rfl, hl] at hown
      obtain ⟨g, cap2, rfl, hbg, hg, hcap⟩ := own_form hown (by omega)
      have hp : (M.L.take (m + 1))[m]'(by omega) = M.L[m] := by simp
      have t1 := hmid.x1.cell 0
      have t2 := hmid.x2.cell 0
      have c0 := ht.blk.cell 0
      have c1 := ht.blk.cell 1
      have e0 := own_cell putCells putCells_len hown (i := m) (j := 0) (by omega) (by omega)
      have e1 := own_cell putCells putCells_len hown (i := m) (j := 1) (by omega) (by omega)
      rw [hp] at e0 e1
      simp only [putCells, List.getElem?_cons_zero, List.getElem?_cons_succ, List.getElem?_toArray, Nat.add_zero] at t1 t2 c0 c1 e0 e1
      rw [show (M.L.length : Int) - 1 - k = m by omega]
      have Hx := Lib.hid hx
      have HT := Lib.hid ht
      have Hm := Lib.hid hm
      have Hidx : Hid (∀ hi : M.L.length - 1 - k < M.L.length, M.L[M.L.length - 1 - k] = M.L[m]) := Lib.hid (fun hi => by congr 1; omega)
      by_cases hlt : k < above lev M.L
      · have d1 : decide (lev < M.L[m].level) = true := by
          have := above_lt hlt (by omega)
          rw [Hidx.out] at this
          simpa using this
        have hlit := hM.lit M.L[m] (List.getElem_mem _)
        obtain ⟨q, hq⟩ := Int.eq_ofNat_of_zero_le hlit.1
        have n1 : ba ≠ bt := ht.at_.ne_ ht.blk (by decide)
        have n2 : bt ≠ ba := Ne.symm n1
        have f0 := ht.blk.frozen 0
        have f1 := ht.at_.frozen (q / 2)
        have hq2 : q / 2 < M.n := by omega
        obtain ⟨u3, e3⟩ : ∃ u, wr.cell? ⟨ba, q / 2, none⟩ = some u := ⟨_, ht.at_cell hq2⟩
        have hpop := Lib.hid (pop_fin hml hM ht)
        rw [hq] at hpop e0
        clear hx ht hm hown hlit
        generalize M.L[m] = p at *
        have Hq := Lib.hid hq
        clear hq
        go_wp2
        go_quiet (fail)
        go_wp2
        go_region
        go_upto_region 5 with (fail)
        have hX4 := HX.out _ _ _ Hx.out ((((Kept.refl (fun b => b = bt ∨ b = ba) wr).drewN (nq + 1)).setCell (p := ⟨bt, 0, none⟩) (.inl (.inl rfl)) (.slice (some ⟨g, 0, none⟩) m cap2)).setCell (p := ⟨ba, q / 2, none⟩) (.inl (.inr rfl)) (.int .i64 0))
        have hn3 : b1 ≠ ba := hmid.x1.ne_ HT.out.at_ (by decide)
        have hn4 : b1 ≠ bt := hmid.x1.ne_ HT.out.blk (by decide)
        have hn5 : b2 ≠ bt := hmid.x2.ne_ HT.out.blk (by decide)
        have hM4 : Mid P (((wr.drewN (nq + 1)).setCell ⟨bt, 0, none⟩ (.slice (some ⟨g, 0, none⟩) m cap2)).setCell ⟨ba, q / 2, none⟩ (.int .i64 0)) B bt ba b1 b2 lev M (k + 1) := by
          have h5 := hpop.out
          rw [show ((q : Int) / 2).toNat = q / 2 by omega] at h5
          refine ⟨⟨.slice (some ⟨g, 0, none⟩) m cap2, ?_, fun i hi => HPP.out i hi⟩, ((hmid.x1.drewN (nq + 1)).far (p := ⟨bt, 0, none⟩) hn4 _).far (p := ⟨ba, q / 2, none⟩) hn3 _, ((hmid.x2.drewN (nq + 1)).far (p := ⟨bt, 0, none⟩) hn5 _).far (p := ⟨ba, q / 2, none⟩) hb2 _⟩
          have hm5 := Hm.out
          rw [show M.L.length - (k + 1) = m by omega]
          exact ⟨h5.blk, h5.at_, h5.own, h5.hbt, h5.hba, h5.ok⟩
        obtain ⟨fn, tmps, assign, body, hyield, hround⟩ := HY.out k _ hlt (by omega) hX4 hM4
        rw [Hidx.out, Hq.out] at hyield
        have hk1 := Hm.out
        clear hM4 hX4 hmid t1 t2 c0 c1 e0 e1 e3 f0 f1 n1 n2 hn3 hn4 hn5 a0 hp hl
        generalize ((wr.drewN (nq + 1)).setCell ⟨bt, 0, none⟩ (.slice (some ⟨g, 0, none⟩) m cap2)).setCell ⟨ba, q / 2, none⟩ (.int .i64 0) = W4 at *
        refine (wpIn_wide (n := 1)).1 ?_
        gi_wp2
        refine hround.mono ?_
        rintro e W5 ⟨rfl, hx5, hm5⟩
        have Hx5 := Lib.hid hx5
        clear hx5
        gi_wp2
        go_wp2
        exact ⟨⟨k + 1, by omega, by congr 1; omega, Hx5.out, hm5⟩, by simp [intOf]; omega⟩
      · have hk2 : above lev M.L = k := by omega
        have d1 : decide (lev < M.L[m].level) = false := by
          have := above_at (lev := lev) (L := M.L) (by omega)
          rw [show M.L[M.L.length - 1 - above lev M.L] = M.L[m] by congr 1; omega] at this
          simpa using this
        have Hk2 := Lib.hid hk2
        clear hx ht hm hown hk2
        generalize M.L[m] = p at *
        go_wp2
        go_quiet (fail)
        go_wp2
        go_end0
        rw [Hk2.out]
        exact ⟨rfl, HX.out _ _ _ Hx.out ((Kept.refl _ wr).drewN _), ⟨by obtain ⟨lv, ht, hP⟩ := hmid.tr; exact ⟨lv, ht.drewN _, hP⟩, hmid.x1.drewN _, hmid.x2.drewN _⟩⟩
end Go.Proofs.YtmbekchnfbmhbaaGreat

/- above, Back. -/
namespace Go.Proofs.YtmbekchnfbmhbaaGreat
open Go.RowKit
attribute [local go_sem] Oper.semAt_some

theorem above_ok {w : World} (v : Value) (lev : Int) (hv : v = .pointer none ∨ ∃ a, v = .pointer (some a)) :
    Calls Tryz.prog 83 #[v, .int .i64 lev] w fun e w' => e = .returned (.func (.func 97) #[] #[.pointer (some ⟨w.heap.size, 0, none⟩), .pointer (some ⟨w.heap.size + 1, 0, none⟩)]) ∧
      (w.alloc (.cells #[v] 46)).alloc (.cells #[.int .i64 lev] 3) = w' := by
  rcases hv with rfl | ⟨a, rfl⟩
  · go_enter Tryz.func83, Tryz.ntmps83
    go_wp2
    go_ret
    exact ⟨rfl, rfl⟩
  · go_enter Tryz.func83, Tryz.ntmps83
    go_wp2
    go_ret
    exact ⟨rfl, rfl⟩

theorem TR.keep {S : Nat → Prop} {w w' : World} {B bt ba : Nat} {lv : Value} {M : Tr} (h : TR w B bt ba lv M) (hk : Kept S w w') (h1 : ¬ S bt) (h2 : ¬ S ba) (h3 : ∀ g, lv.ownBlock = some g → ¬ S g) : TR w' B bt ba lv M :=
  ⟨h.blk.kept hk h1, h.at_.kept hk h2, own_kept h.own hk h3, h.hbt, h.hba, h.ok⟩

theorem TR.setLevel {w : World} {B bt ba : Nat} {lv : Value} {M : Tr} (h : TR w B bt ba lv M) (lev : Nat) (hl : lev ≤ 65536) : TR (w.setCell ⟨bt, 2, none⟩ (.int .i64 lev)) B bt ba lv ⟨M.n, M.L, lev⟩ := by
  have hk := Kept.set1 w bt 2 (.int .i64 lev)
  refine ⟨?_, h.at_.kept hk (h.at_.ne_ h.blk (by decide)), own_kept h.own hk (fun g hg e => own_blk_ne h.own h.blk (by decide) (e ▸ hg)), h.hbt, h.hba, h.ok.lower lev hl⟩
  have := h.blk.set_ 2 (.int .i64 lev)
  simpa using this

/-- What Back's loop holds behind k rounds. -/
structure Got (w : World) (bt ba gb l D : Nat) (r : Loop) (M : Tr) (k : Nat) (W : World) : Prop where
  loop : LoopAt W l D r
  box : ∃ gv, Blk W gb 23 #[gv] ∧ W.ownsRow D 3 1 gv k ((M.L.reverse.take k).map fun p => .int .i64 p.lit)
  kept : Kept (fun b => b = bt ∨ b = ba) w W

theorem Got.keep {w W W' : World} {bt ba gb l D : Nat} {r : Loop} {M : Tr} {k : Nat} (h : Got w bt ba gb l D r M k W) (hk : Kept (fun b => b = bt ∨ b = ba) W W') (h1 : bt < w.heap.size) (h2 : ba < w.heap.size)
    (hg : w.heap.size ≤ gb) (hl : w.heap.size ≤ l) (hD : w.heap.size ≤ D) : Got w bt ba gb l D r M k W' := by
  obtain ⟨gv, hb, ho⟩ := h.box
  exact ⟨h.loop.kept hk (by omega) (by omega), ⟨gv, hb.kept hk (by omega), own_kept ho hk (fun g hg => by have := (ho.lt g hg).1; omega)⟩, h.kept.trans hk⟩

set_option maxHeartbeats 1000000 in
theorem back_ok {w : World} {B bt ba : Nat} {lv : Value} {M : Tr} (h : TR w B bt ba lv M) (lev : Nat) (hl : lev ≤ M.lv) :
    Calls Tryz.prog 69 #[.pointer (some ⟨bt, 0, none⟩), .int .i64 lev] w fun e w' => ∃ v lv', e = .returned (.tuple #[v, .int .i64 0]) ∧
      w'.ownsRow w.heap.size 3 1 v (above lev M.L) ((M.L.reverse.take (above lev M.L)).map fun p => .int .i64 p.lit) ∧
      TR w' B bt ba lv' ⟨M.n, M.L.take (M.L.length - above lev M.L), lev⟩ ∧ Kept (fun k => k = bt ∨ k = ba) w w' ∧ ∀ k, lv'.ownBlock = some k → lv.ownBlock = some k := by
  have c2 := h.blk.cell 2
  simp only [List.getElem?_toArray, List.getElem?_cons_zero, List.getElem?_cons_succ] at c2
  have q0 := h.blk.lt
  have d1 : decide ((lev : Int) < 0) = false := by simp
  have d2 : decide (M.lv < lev) = false := by simp; omega
  refine callsIn_wide.1 (callsIn_of_wp_marks (n := 2) Tryz.func69 rfl trivial (wpIn_wide.2 ?_) rfl)
  simp only [Tryz.ntmps69, List.size_toArray, List.length_cons, List.length_nil, Nat.reduceAdd, Nat.reduceSub, Array.replicate_succ, Array.replicate_zero, List.push_toArray, List.append_toArray, List.nil_append, List.cons_append]
  go_wp2_with (go_at_call 83; refine (above_ok _ _ (.inr ⟨_, rfl⟩)).mono ?_; rintro e w1 ⟨rfl, rfl⟩)
  have hba := h.at_.lt
  have hM := h.ok
  have hN := hM.n
  have hlen := hM.len
  have hle := above_le lev M.L
  obtain ⟨W3, hW3⟩ : ∃ W3, ((w.alloc (.cells #[.slice none 0 0] 23)).alloc (.cells #[.pointer (some ⟨bt, 0, none⟩)] 46)).alloc (.cells #[.int .i64 lev] 3) = W3 := ⟨_, rfl⟩
  have hs3 : w.heap.size + 3 ≤ W3.heap.size := by rw [← hW3]; simp
  have hk3 : Kept (fun b => b = bt ∨ b = ba) w W3 := by rw [← hW3]; exact (((Kept.refl _ w).alloc _).alloc _).alloc _
  have ht3 : TR W3 B bt ba lv M := by rw [← hW3]; exact ⟨((h.blk.alloc _).alloc _).alloc _, ((h.at_.alloc _).alloc _).alloc _, ((h.own.alloc _).alloc _).alloc _, h.hbt, h.hba, h.ok⟩
  have hg3 : Blk W3 w.heap.size 23 #[.slice none 0 0] := by rw [← hW3]; exact ((Blk.new w _ _).alloc _).alloc _
  have hx1 : Blk W3 (w.heap.size + 1) 46 #[.pointer (some ⟨bt, 0, none⟩)] := by rw [← hW3]; exact (Blk.new_at (by simp) _ _).alloc _
  have hx2 : Blk W3 (w.heap.size + 1 + 1) 3 #[.int .i64 lev] := by rw [← hW3]; exact Blk.new_at (by simp) _ _
  rw [hW3]
  clear hW3 h
  have hn2 : w.heap.size + 1 + 1 ≠ ba := by omega
  obtain ⟨i0, hi, hz0, hz1, hz2⟩ := info_parts tint_info
  refine wpIn_wide.1 (rangeFunc_wide (n := 2) (gf := 97) rfl (fun _ _ => by simp [invoke, go_sem]) fun fn r hr => ?_)
  refine callsIn_wide.2 ((above_iter (fun k => lv.ownBlock = some k) (W3.heap.size + 1) B bt ba (w.heap.size + 1) (w.heap.size + 1 + 1) lev M hM (Got w bt ba w.heap.size (W3.heap.size + 1) W3.heap.size r M)
    (fun k W W' hx hk => hx.keep hk q0 hba (Nat.le_refl _) (by omega) (by omega)) ?_ _ ?_ ?_ hn2).mono ?_)
  · intro k W hk hi2 hx hmid
    have e1 := congrArg Loop.tmps hr
    have e2 := congrArg Loop.params hr
    have e3 := congrArg Loop.assign hr
    have e4 := congrArg Loop.body hr
    have e5 := congrArg Loop.state hr
    simp only [loopRec] at e1 e2 e3 e4 e5
    refine ⟨_, _, _, _, run_yield hx.loop.rec_ (by rw [e2]; rfl), ?_⟩
    rw [e1, e2, e3, e4]
    have e6 := congrArg Loop.pending hr
    simp only [loopRec] at e6
    clear e1 e2 e3 e4 hr
    refine roundIn_of_wpIn trivial ?_
    generalize hlit : M.L[M.L.length - 1 - k].lit = lit
    have Hlit := Lib.hid hlit
    clear hlit
    simp only [List.zip_toArray, List.zip_cons_cons, List.zip_nil_right, List.foldl_toArray', List.foldl_cons, List.foldl_nil, List.setIfInBounds_toArray, List.set_cons_succ, List.set_cons_zero]
    have hbr := Lib.hid (hx.loop.begin_ (P := Tryz.prog) e5)
    have hk2 := Kept.putObj W (W3.heap.size + 1) (.loop (busyRec r))
    have hl2 := hx.loop.put (busyRec r)
    obtain ⟨gv, hbox, hown⟩ := hx.box
    have hne2 : gv.ownBlock ≠ some (W3.heap.size + 1) := own_obj_ne hown hx.loop.rec_ (fun _ _ _ h => by cases h)
    have hne3 : gv.ownBlock ≠ some W3.heap.size := own_obj_ne hown hx.loop.def_ (fun _ _ _ h => by cases h)
    have hne4 : gv.ownBlock ≠ some w.heap.size := own_blk_ne hown hbox (by decide)
    have hb2 := hbox.kept hk2 (by omega)
    have ho2 := own_kept hown hk2 (fun g hg e => hne2 (e ▸ hg))
    have hsz := hx.loop.lt
    have hsz2 := hk2.size
    have hgvb : ∀ g, gv.ownBlock = some g → W3.heap.size ≤ g := fun g hg => (hown.lt g hg).1
    generalize W.putObj (W3.heap.size + 1) (.loop (busyRec r)) = W2 at *
    have b0 := hb2.cell 0
    simp only [List.getElem?_toArray, List.getElem?_cons_zero] at b0
    have h1c : Hid (∀ u ∈ #[Value.int .i64 lit].toList, u.oneCell' = true) := Lib.hid (by simp [Value.oneCell'])
    have Hown := Lib.hid ho2
    have Hown0 := Lib.hid hown
    have Hx := Lib.hid hx
    have Hmid := Lib.hid hmid
    have Hne2 := Lib.hid hne2
    have Hne3 := Lib.hid hne3
    have Hne4 := Lib.hid hne4
    have Hgvb := Lib.hid hgvb
    clear hown ho2 hx hmid hne2 hne3 hne4 hgvb
    gi_wp2
    refine ⟨W2, hbr.out, ?_⟩
    gi_wp2_with (gi_at_builtin; refine listIn_push _ rfl (.tmp 23) (.tmp 25) 23 rfl W3.heap.size 3 i0 (.int .i64 0) 1 8 Tryz.underlying23 hi hz0 hz1 hz2 rfl (by decide) gv k _ rfl (Hown.out.alloc _) W2.heap.size #[.int .i64 lit] rfl (Blk.new _ _ _) rfl h1c.out (by omega) (by omega) (by omega) (fun g2 cap2 w1 hown1 hgrow hat hlt1 => ?_); have b1 := (hb2.alloc (.cells #[.int .i64 lit] 3)).grown hgrow (fun e => Hne4.out e.symm); have b1c := b1.cell 0; have b1f := b1.frozen 0; simp only [List.getElem?_toArray, List.getElem?_cons_zero] at b1c)
    have k5 : Kept (fun b => b = w.heap.size ∨ gv.ownBlock = some b) W2 (w1.setCell ⟨w.heap.size, 0, none⟩ (.slice (some ⟨g2, 0, none⟩) (k + 1) cap2)) :=
      (((Kept.refl _ W2).alloc _).grown hgrow (fun k hk => .inl (.inr hk))).setCell (p := ⟨w.heap.size, 0, none⟩) (.inl (.inl rfl)) _
    have b5 := b1.set_ 0 (.slice (some ⟨g2, 0, none⟩) (k + 1) cap2)
    have o5 := own_kept hown1 (Kept.set1 w1 w.heap.size 0 (.slice (some ⟨g2, 0, none⟩) (k + 1) cap2)) (fun k hk e => own_blk_ne hown1 b1 (by decide) (e ▸ hk))
    have l5 := hl2.kept k5 (fun hc => by rcases hc with hc | hc; omega; exact Hne2.out hc) (fun hc => by rcases hc with hc | hc; omega; exact Hne3.out hc)
    generalize w1.setCell ⟨w.heap.size, 0, none⟩ (.slice (some ⟨g2, 0, none⟩) (k + 1) cap2) = W5 at *
    have k6 : Kept (fun b => b = W3.heap.size + 1 ∨ b = w.heap.size ∨ gv.ownBlock = some b) W (W5.putObj (W3.heap.size + 1) (.loop r)) :=
      ((hk2.mono (fun _ _ h => .inl h)).trans (k5.mono (fun _ _ h => .inr h))).trans ((Kept.putObj W5 _ _).mono (fun _ _ h => .inl h))
    refine ⟨_, _, l5.end_ e5 e6, rfl, ⟨l5.put r, ⟨.slice (some ⟨g2, 0, none⟩) (k + 1) cap2, b5.kept (Kept.putObj W5 _ _) (by omega), ?_⟩, ?_⟩, ?_⟩
    · have o6 := own_kept o5 (Kept.putObj W5 (W3.heap.size + 1) (.loop r)) (fun g hg e => own_obj_ne o5 l5.rec_ (fun _ _ _ h => by cases h) (e ▸ hg))
      have : (M.L.reverse.take (k + 1)).map (fun p => Value.int .i64 p.lit) = (M.L.reverse.take k).map (fun p => Value.int .i64 p.lit) ++ [.int .i64 lit] := by
        rw [List.take_succ_eq_append_getElem (by rw [List.length_reverse]; omega), List.map_append, List.getElem_reverse, ← Hlit.out]
        rfl
      rw [this]
      exact o6
    · exact Hx.out.kept.then_ k6 (fun i hi hc => by
        rcases hc with hc | hc | hc
        · omega
        · omega
        · have := Hgvb.out i hc; omega)
    · obtain ⟨lv2, ht, hP2⟩ := Hmid.out.tr
      refine ⟨⟨lv2, ht.keep k6 ?_ ?_ ?_, hP2⟩, Hmid.out.x1.kept k6 ?_, Hmid.out.x2.kept k6 ?_⟩
      · intro hc
        rcases hc with hc | hc | hc
        · omega
        · omega
        · have := Hgvb.out _ hc; omega
      · intro hc
        rcases hc with hc | hc | hc
        · omega
        · omega
        · have := Hgvb.out _ hc; omega
      · intro g hg hc
        rcases hc with hc | hc | hc
        · exact own_obj_ne ht.own Hx.out.loop.rec_ (fun _ _ _ h => by cases h) (hc ▸ hg)
        · exact own_blk_ne ht.own hbox (by decide) (hc ▸ hg)
        · exact own_own_ne ht.own Hown0.out (by decide) hg hc
      · intro hc
        rcases hc with hc | hc | hc
        · omega
        · omega
        · have := Hgvb.out _ hc; omega
      · intro hc
        rcases hc with hc | hc | hc
        · omega
        · omega
        · have := Hgvb.out _ hc; omega
  · refine ⟨⟨lv, ?_, fun _ h => h⟩, (hx1.alloc _).alloc _, (hx2.alloc _).alloc _⟩
    rw [Nat.sub_zero, List.take_length]
    exact ⟨(ht3.blk.alloc _).alloc _, (ht3.at_.alloc _).alloc _, (ht3.own.alloc _).alloc _, ht3.hbt, ht3.hba, ht3.ok⟩
  · exact ⟨LoopAt.new _ _, ⟨_, (hg3.alloc _).alloc _, World.ownsRow_nil _ _ _ _⟩, (hk3.alloc _).alloc _⟩
  · have e5 := congrArg Loop.state hr
    have e6 := congrArg Loop.pending hr
    simp only [loopRec] at e5 e6
    clear hr
    rintro e W' ⟨rfl, hx, hmid⟩
    refine ⟨none, _, hx.loop.over_ e5 e6, ?_⟩
    have k7 := Kept.putObj W' (W3.heap.size + 1) (.loop (overRec r))
    have l7 := hx.loop.put (overRec r)
    obtain ⟨gv, hb, ho⟩ := hx.box
    obtain ⟨lv2, ht, hP2⟩ := hmid.tr
    have HP2 := Lib.hid hP2
    clear hP2
    have hb7 := hb.kept k7 (by omega)
    have ho7 := own_kept ho k7 (fun g hg e => own_obj_ne ho hx.loop.rec_ (fun _ _ _ h => by cases h) (e ▸ hg))
    have ht7 := ht.keep k7 (by omega) (by omega) (fun g hg e => own_obj_ne ht.own hx.loop.rec_ (fun _ _ _ h => by cases h) (e ▸ hg))
    have kk7 := hx.kept.then_ k7 (fun i hi e => absurd e (by omega))
    generalize W'.putObj (W3.heap.size + 1) (.loop (overRec r)) = W7 at *
    have x0 := hb7.cell 0
    have x1 := hb7.frozen 0
    have x2 := ht7.blk.cell 2
    have x3 := ht7.blk.frozen 2
    simp only [List.getElem?_toArray, List.getElem?_cons_zero, List.getElem?_cons_succ] at x0 x2
    have n1 : w.heap.size ≠ bt := by omega
    have n2 : bt ≠ w.heap.size := by omega
    have Ht7 := Lib.hid ht7
    have Hk7 := Lib.hid kk7
    have Hl7 := Lib.hid l7
    have Ho7 := Lib.hid ho7
    obtain ⟨A, cap, rfl⟩ := own_slice ho7
    clear ht7 kk7 l7 ho7 hx hmid ht ho hb k7
    go_wp2
    have hk8 : Kept (fun b => b = bt ∨ b = w.heap.size) W7 ((W7.setCell ⟨bt, 2, none⟩ (.int .i64 lev)).setCell ⟨w.heap.size, 0, none⟩ (.slice A (above lev M.L) cap)) :=
      ((Kept.refl _ W7).setCell (p := ⟨bt, 2, none⟩) (.inl (.inl rfl)) _).setCell (p := ⟨w.heap.size, 0, none⟩) (.inl (.inr rfl)) _
    have l8 := Hl7.out.kept hk8 (by omega) (by omega)
    have b8 : Blk ((W7.setCell ⟨bt, 2, none⟩ (.int .i64 lev)).setCell ⟨w.heap.size, 0, none⟩ (.slice A (above lev M.L) cap)) w.heap.size 23 #[.slice A (above lev M.L) cap] := by
      have := (hb7.far (p := ⟨bt, 2, none⟩) n1 (.int .i64 lev)).set_ 0 (.slice A (above lev M.L) cap)
      simpa using this
    have hgb := hb7.far (p := ⟨bt, 2, none⟩) n1 (.int .i64 lev)
    have hlv := hM.lv
    have t8 := (Ht7.out.setLevel lev (by omega)).keep (Kept.set1 _ w.heap.size 0 (.slice A (above lev M.L) cap)) n2 (by omega) (fun g hg e => own_blk_ne (Ht7.out.setLevel lev (by omega)).own hgb (by decide) (e ▸ hg))
    have o8 := own_kept Ho7.out hk8 (fun g hg hc => by have := (Ho7.out.lt g hg).1; omega)
    have kk8 := Hk7.out.then_ hk8 (fun i hi hc => by rcases hc with hc | hc; exact .inl hc; omega)
    generalize (W7.setCell ⟨bt, 2, none⟩ (.int .i64 lev)).setCell ⟨w.heap.size, 0, none⟩ (.slice A (above lev M.L) cap) = W8 at *
    have k9 := Kept.putObj W8 W3.heap.size (.deferred none)
    have x9 := (b8.kept k9 (by omega)).cell 0
    simp only [List.getElem?_toArray, List.getElem?_cons_zero] at x9
    refine ⟨by simp, .inl ⟨_, _, rfl, run_takeDeferred l8.def_, ?_⟩⟩
    refine ⟨.tuple #[.slice A (above lev M.L) cap, .int .i64 0], by simp [results, Tryz.results69, go_sem, x9], _, lv2, rfl, ?_, ?_, kk8.takeDef (by omega), HP2.out⟩
    · exact own_base (own_kept o8 k9 (fun g hg e => own_obj_ne o8 l8.def_ (fun _ _ _ h => by cases h) (e ▸ hg))) (fun g hg => by have := (o8.lt g hg).1; omega)
    · exact t8.keep k9 (by omega) (by omega) (fun g hg e => own_obj_ne t8.own l8.def_ (fun _ _ _ h => by cases h) (e ▸ hg))

theorem back_arg {w : World} {B bt ba : Nat} {lv : Value} {M : Tr} (h : TR w B bt ba lv M) (lev : Int) (hl : lev < 0 ∨ (M.lv : Int) < lev) :
    Calls Tryz.prog 69 #[.pointer (some ⟨bt, 0, none⟩), .int .i64 lev] w fun e w' => e = .returned (.tuple #[.slice none 0 0, .int .i64 2]) ∧ Below w.heap.size w w' := by
  have c2 := h.blk.cell 2
  simp only [List.getElem?_toArray, List.getElem?_cons_zero, List.getElem?_cons_succ] at c2
  have q0 := h.blk.lt
  clear h
  generalize M.lv = k at *
  by_cases h1 : lev < 0
  · have d1 : decide (lev < 0) = true := by simpa using h1
    clear hl
    go_enter Tryz.func69, Tryz.ntmps69
    go_wp2
    exact bodyPost_ret (v := .tuple #[.slice none 0 0, .int .i64 2]) (by simp [results, Tryz.results69, go_sem]) rfl ⟨rfl, (Below.refl _ _).alloc (Nat.le_refl _) _⟩
  · have d1 : decide (lev < 0) = false := by simpa using h1
    have d2 : decide ((k : Int) < lev) = true := by simp; omega
    clear hl
    go_enter Tryz.func69, Tryz.ntmps69
    go_wp2
    exact bodyPost_ret (v := .tuple #[.slice none 0 0, .int .i64 2]) (by simp [results, Tryz.results69, go_sem]) rfl ⟨rfl, (Below.refl _ _).alloc (Nat.le_refl _) _⟩
theorem back_nil {w : World} (lev : Int) :
    Calls Tryz.prog 69 #[.pointer none, .int .i64 lev] w fun e w' => e = .returned (.tuple #[.slice none 0 0, .int .i64 3]) ∧ Below w.heap.size w w' := by
  go_enter Tryz.func69, Tryz.ntmps69
  go_wp2
  exact bodyPost_ret (v := .tuple #[.slice none 0 0, .int .i64 3]) (by simp [results, Tryz.results69, go_sem]) rfl ⟨rfl, (Below.refl _ _).alloc (Nat.le_refl _) _⟩
end Go.Proofs.YtmbekchnfbmhbaaGreat

/- The contracts as the laws use them: one a function, whatever the arguments. -/
namespace Go.Proofs.YtmbekchnfbmhbaaGreat
open Go.RowKit

/-- The numbers of a slice. -/
def IntsAt (w : World) (A : Option Addr) (n : Nat) (l : List Int) : Prop :=
  l.length = n ∧ (0 < n → ∃ ad, A = some ad ∧ ad.block < w.heap.size ∧ ∀ j (h : j < l.length), w.cell? (ad.add j) = some (.int .i64 l[j]))

theorem IntsAt.of_own {w : World} {base : Nat} {t : TypeId} {A : Option Addr} {n cap : Nat} {l : List Int} (h : w.ownsRow base t 1 (.slice A n cap) l.length (l.map (Value.int .i64))) : IntsAt w A n l := by
  rcases h.2 with ⟨hv, h0⟩ | ⟨g, cap', cur, hv, _, hg, _⟩
  · injection hv with h1 h2 h3
    exact ⟨by rw [h0, h2], fun hn => by omega⟩
  · injection hv with h1 h2 h3
    subst h1
    refine ⟨h2.symm, fun _ => ⟨_, rfl, Blk.lt hg, fun j hj => ?_⟩⟩
    have := h.cells (g := g) rfl j (.int .i64 l[j])
    exact this (by simp [hj])


/-- The block of the trail's list. -/
def LB (w : World) (bt k : Nat) : Prop := ∃ v, w.cell? ⟨bt, 0, none⟩ = some v ∧ v.ownBlock = some k
theorem TR.lb {w : World} {B bt ba : Nat} {lv : Value} {M : Tr} (h : TR w B bt ba lv M) {k : Nat} : LB w bt k ↔ lv.ownBlock = some k := by
  have h0 := h.blk.cell 0
  simp only [List.getElem?_toArray, List.getElem?_cons_zero] at h0
  constructor
  · rintro ⟨v, e, hv⟩
    rw [h0] at e
    injection e with e
    rw [e]
    exact hv
  · intro hv
    exact ⟨lv, h0, hv⟩
theorem TR.step_list {w w' : World} {B bt ba : Nat} {lv lv' : Value} {M M' : Tr} (h : TR w B bt ba lv M) (h' : TR w' B bt ba lv' M') {n : Nat} (hl : ∀ k, lv'.ownBlock = some k → lv.ownBlock = some k ∨ n ≤ k) : ∀ k, LB w' bt k → LB w bt k ∨ n ≤ k :=
  fun k hk => (hl k (h'.lb.1 hk)).imp h.lb.2 id
/-- But for the trail's own blocks all is as it was; below B all is. -/
structure Step (B bt ba : Nat) (w w' : World) : Prop where
  keep : ∀ k, k < w.heap.size → k ≠ bt → k ≠ ba → ¬ LB w bt k → w'.heap[k]? = w.heap[k]?
  below : Below B w w'
  list : ∀ k, LB w' bt k → LB w bt k ∨ w.heap.size ≤ k
section
variable {B bt ba : Nat} {w w' w2 : World}
theorem Step.refl (B bt ba : Nat) (w : World) : Step B bt ba w w := ⟨fun _ _ _ _ _ => rfl, Below.refl _ _, fun _ h => .inl h⟩
theorem Step.trans (h : Step B bt ba w w') (k : Step B bt ba w' w2) : Step B bt ba w w2 :=
  ⟨fun i hi h1 h2 h3 => (k.keep i (Nat.lt_of_lt_of_le hi h.below.size) h1 h2 (fun hc => (h.list i hc).elim h3 (fun e => by omega))).trans (h.keep i hi h1 h2 h3), h.below.trans k.below, fun i hi => (k.list i hi).elim (h.list i) (fun e => .inr (Nat.le_trans h.below.size e))⟩
theorem Step.of_below (h : Below w.heap.size w w') (hB : B ≤ w.heap.size) (hb : bt < w.heap.size) : Step B bt ba w w' := ⟨fun i hi _ _ _ => h.block i hi, h.mono hB, fun k ⟨v, e, hv⟩ => .inl ⟨v, (h.cell (p := ⟨bt, 0, none⟩) hb).symm.trans e, hv⟩⟩
theorem Step.of_kept {S : Nat → Prop} (h : Kept S w w') (hB : B ≤ w.heap.size) (hs : ∀ k, S k → (k = bt ∨ k = ba ∨ LB w bt k) ∧ B ≤ k) (hl : ∀ k, LB w' bt k → LB w bt k ∨ w.heap.size ≤ k) : Step B bt ba w w' :=
  ⟨fun i hi h1 h2 h3 => h.block i hi fun hc => by
    rcases (hs i hc).1 with h | h | h
    · exact h1 h
    · exact h2 h
    · exact h3 h, h.below hB fun k hk => (hs k hk).2, hl⟩
end

/-- A slice of ints in a block of its own from H on. -/
def IntsFrom (w : World) (H : Nat) (v : Value) (l : List Int) : Prop := w.ownsRow H 3 1 v l.length (l.map (Value.int .i64))
theorem IntsFrom.form {w : World} {H : Nat} {v : Value} {l : List Int} (h : IntsFrom w H v l) : ∃ A cap, v = .slice A l.length cap ∧ IntsAt w A l.length l := by
  obtain ⟨A, cap, rfl⟩ := own_slice h
  exact ⟨A, cap, rfl, IntsAt.of_own h⟩
theorem IntsFrom.below {w w' : World} {H : Nat} {v : Value} {l : List Int} (h : IntsFrom w H v l) (hs : Below w.heap.size w w') : IntsFrom w' H v l := own_kept h (Kept.of_below (S := fun _ => False) hs) (fun _ _ h => h)

def putBad (M : Tr) (lit reason : Int) : Bool := decide (lit < 0) || decide ((M.n : Int) ≤ lit / 2) || decide (reason < -1)
def putE (M : Tr) (lit reason : Int) : Int := if putBad M lit reason then 2 else match find M.L (lit / 2) with
  | some _ => 32
  | none => 0
def putM (M : Tr) (lit reason : Int) : Tr := if putBad M lit reason then M else match find M.L (lit / 2) with
  | some _ => M
  | none => ⟨M.n, M.L ++ [⟨lit, M.lv, reason⟩], M.lv⟩
def beginE (M : Tr) : Int := if M.lv = 65536 then 2 else 0
def beginM (M : Tr) : Tr := if M.lv = 65536 then M else ⟨M.n, M.L, M.lv + 1⟩
def backBad (M : Tr) (lev : Int) : Bool := decide (lev < 0) || decide ((M.lv : Int) < lev)
def backE (M : Tr) (lev : Int) : Int := if backBad M lev then 2 else 0
def backGone (M : Tr) (lev : Int) : List Int := if backBad M lev then [] else (M.L.reverse.take (above lev M.L)).map Pt.lit
def backM (M : Tr) (lev : Int) : Tr := if backBad M lev then M else ⟨M.n, M.L.take (M.L.length - above lev M.L), lev.toNat⟩

/-- The trail, its list's slice left open. -/
def TT (w : World) (B bt ba : Nat) (M : Tr) : Prop := ∃ lv, TR w B bt ba lv M

section
variable {w : World} {B bt ba : Nat} {M : Tr}
theorem TT.ok (h : TT w B bt ba M) : M.Ok := h.choose_spec.ok
theorem TT.below {w' : World} (h : TT w B bt ba M) (hb : Below w.heap.size w w') : TT w' B bt ba M := by
  obtain ⟨lv, h⟩ := h
  exact ⟨lv, h.keep (Kept.of_below (S := fun _ => False) hb) (fun h => h) (fun h => h) (fun _ _ h => h)⟩
theorem TT.drewN (h : TT w B bt ba M) (n : Nat) : TT (w.drewN n) B bt ba M := by
  obtain ⟨lv, h⟩ := h
  exact ⟨lv, h.drewN n⟩
theorem TT.lt (h : TT w B bt ba M) : B ≤ bt ∧ B ≤ ba ∧ bt < w.heap.size ∧ ba < w.heap.size := by
  obtain ⟨lv, h⟩ := h
  exact ⟨h.hbt, h.hba, h.blk.lt, h.at_.lt⟩

theorem put_T (h : TT w B bt ba M) (lit reason : Int) :
    Calls Tryz.prog 52 #[.pointer (some ⟨bt, 0, none⟩), .int .i64 lit, .int .i64 reason] w fun e w' => e = .returned (.int .i64 (putE M lit reason)) ∧ TT w' B bt ba (putM M lit reason) ∧ Step B bt ba w w' := by
  obtain ⟨h1, h2, h3, h4⟩ := h.lt
  obtain ⟨lv, h⟩ := h
  unfold putE putM
  by_cases hb : putBad M lit reason = true
  · rw [if_pos hb, if_pos hb]
    refine (put_arg h lit reason ?_).mono ?_
    · simpa [putBad, or_assoc] using hb
    · rintro e w' ⟨rfl, rfl⟩
      exact ⟨rfl, ⟨lv, h⟩, Step.refl _ _ _ _⟩
  · rw [if_neg hb, if_neg hb]
    simp [putBad] at hb
    obtain ⟨⟨g1, g2⟩, g3⟩ := hb
    cases hf : find M.L (lit / 2) with
    | some p =>
      refine (put_there h lit reason g1 g2 g3 p hf).mono ?_
      rintro e w' ⟨rfl, rfl⟩
      exact ⟨rfl, ⟨lv, h⟩, Step.refl _ _ _ _⟩
    | none =>
      refine (put_new h lit reason g1 g2 g3 hf).mono ?_
      rintro e w' ⟨lv', rfl, t, k, loc⟩
      refine ⟨rfl, ⟨lv', t⟩, Step.of_kept k (by omega) ?_ (h.step_list t loc)⟩
      rintro i (rfl | rfl | hi)
      · exact ⟨.inl rfl, h1⟩
      · exact ⟨.inr (.inl rfl), h2⟩
      · exact ⟨.inr (.inr (h.lb.2 hi)), (h.own.lt i hi).1⟩
theorem begin_T (h : TT w B bt ba M) :
    Calls Tryz.prog 55 #[.pointer (some ⟨bt, 0, none⟩)] w fun e w' => e = .returned (.int .i64 (beginE M)) ∧ TT w' B bt ba (beginM M) ∧ Step B bt ba w w' := by
  obtain ⟨h1, h2, h3, h4⟩ := h.lt
  obtain ⟨lv, h⟩ := h
  unfold beginE beginM
  by_cases hb : M.lv = 65536
  · rw [if_pos hb, if_pos hb]
    refine (begin_full h hb).mono ?_
    rintro e w' ⟨rfl, rfl⟩
    exact ⟨rfl, ⟨lv, h⟩, Step.refl _ _ _ _⟩
  · rw [if_neg hb, if_neg hb]
    refine (begin_ok h (by have := h.ok.lv; omega)).mono ?_
    rintro e w' ⟨rfl, t, k⟩
    exact ⟨rfl, ⟨lv, t⟩, Step.of_kept k (by omega) (fun i hi => ⟨.inl hi, hi ▸ h1⟩) (h.step_list t (fun _ h => .inl h))⟩
theorem back_T (h : TT w B bt ba M) (lev : Int) :
    Calls Tryz.prog 69 #[.pointer (some ⟨bt, 0, none⟩), .int .i64 lev] w fun e w' => ∃ v, e = .returned (.tuple #[v, .int .i64 (backE M lev)]) ∧ IntsFrom w' w.heap.size v (backGone M lev) ∧ TT w' B bt ba (backM M lev) ∧ Step B bt ba w w' := by
  obtain ⟨h1, h2, h3, h4⟩ := h.lt
  obtain ⟨lv, h⟩ := h
  unfold backE backM backGone
  by_cases hb : backBad M lev = true
  · rw [if_pos hb, if_pos hb, if_pos hb]
    refine (back_arg h lev (by simpa [backBad] using hb)).mono ?_
    rintro e w' ⟨rfl, b⟩
    exact ⟨_, rfl, World.ownsRow_nil _ _ _ _, TT.below ⟨lv, h⟩ b, Step.of_below b (by omega) h3⟩
  · rw [if_neg hb, if_neg hb, if_neg hb]
    simp [backBad] at hb
    obtain ⟨k, rfl⟩ := Int.eq_ofNat_of_zero_le hb.1
    refine (back_ok h k (by omega)).mono ?_
    rintro e w' ⟨v, lv', rfl, o, t, kk, loc⟩
    refine ⟨v, rfl, ?_, ⟨lv', t⟩, Step.of_kept kk (by omega) ?_ (h.step_list t (fun i hi => .inl (loc i hi)))⟩
    · unfold IntsFrom
      have hl : ((M.L.reverse.take (above k M.L)).map Pt.lit).length = above k M.L := by have := above_le k M.L; simp; omega
      rw [hl, List.map_map]
      exact o
    · rintro i (rfl | rfl)
      · exact ⟨.inl rfl, h1⟩
      · exact ⟨.inr (.inl rfl), h2⟩
theorem all_T (h : TT w B bt ba M) : Calls Tryz.prog 76 #[.pointer (some ⟨bt, 0, none⟩)] w fun e w' => ∃ v, e = .returned v ∧ IntsFrom w' w.heap.size v (M.L.map Pt.lit) ∧ Below w.heap.size w w' := by
  obtain ⟨lv, h⟩ := h
  refine (all_ok h).mono ?_
  rintro e w' ⟨v, rfl, o, b⟩
  exact ⟨v, rfl, by unfold IntsFrom; rw [List.length_map, List.map_map]; exact o, b⟩
theorem behind_T (h : TT w B bt ba M) (at_ : Int) : Calls Tryz.prog 91 #[.pointer (some ⟨bt, 0, none⟩), .int .i64 at_] w fun e w' => ∃ v, e = .returned v ∧ IntsFrom w' w.heap.size v ((M.L.drop (clampAt at_ M.L.length)).map Pt.lit) ∧ Below w.heap.size w w' := by
  obtain ⟨lv, h⟩ := h
  refine (behind_ok h at_).mono ?_
  rintro e w' ⟨v, rfl, o, b⟩
  exact ⟨v, rfl, by unfold IntsFrom; rw [List.length_map, List.map_map]; exact o, b⟩
theorem val_T (h : TT w B bt ba M) (lit : Int) : Calls Tryz.prog 54 #[.pointer (some ⟨bt, 0, none⟩), .int .i64 lit] w fun e w' => e = .returned (.int .i8 (valOf M.L lit)) ∧ Below w.heap.size w w' := by
  obtain ⟨lv, h⟩ := h
  exact val_ok h lit
theorem level_T (h : TT w B bt ba M) (nd : Int) : Calls Tryz.prog 66 #[.pointer (some ⟨bt, 0, none⟩), .int .i64 nd] w fun e w' => e = .returned (.int .i64 (levelOf M.L nd)) ∧ Below w.heap.size w w' := by
  obtain ⟨lv, h⟩ := h
  exact level_ok h nd
theorem reason_T (h : TT w B bt ba M) (nd : Int) : Calls Tryz.prog 95 #[.pointer (some ⟨bt, 0, none⟩), .int .i64 nd] w fun e w' => e = .returned (.int .i64 (reasonOf M.L nd)) ∧ Below w.heap.size w w' := by
  obtain ⟨lv, h⟩ := h
  exact reason_ok h nd
theorem values_T (h : TT w B bt ba M) : Calls Tryz.prog 37 #[.pointer (some ⟨bt, 0, none⟩)] w (GaveVals w M.n M.L) := by
  obtain ⟨lv, h⟩ := h
  exact values_ok h
end
end Go.Proofs.YtmbekchnfbmhbaaGreat

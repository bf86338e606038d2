/- The reference's side (L16/SameRef L16/UnM), for layer 21's seat. -/
import Derived.Test.YtmbekchnfbmhbaaGreatRfI
import Derived.Test.YtmbekchnfbmhbaaGreatSrN
namespace Go.Proofs.YtmbekchnfbmhbaaGreat
section
open Go.RowKit Go.Lib
theorem drop_beq {xs ys : List Int} (hl : xs.length = ys.length) {i : Nat} (h : i < xs.length) : (xs.drop i == ys.drop i) = ((xs[i] == ys[i]) && (xs.drop (i + 1) == ys.drop (i + 1))) := by
  rw [List.drop_eq_getElem_cons h, List.drop_eq_getElem_cons (by omega : i < ys.length)]
  rfl

theorem sameRef_ok {w : World} {A B : Option Addr} {xs ys : List Int} (c d : Nat) (h : Row .i64 w A xs) (k : Row .i64 w B ys) :
    Calls Tryz.prog 40 #[.slice A xs.length c, .slice B ys.length d] w fun e w' => e = .returned (.bool (xs == ys)) ∧ ∃ q, w' = w.drewN q := by
  have hlen := h.len
  have klen := k.len
  have H := Lib.hid h
  have K := Lib.hid k
  clear h k
  by_cases hl : xs.length = ys.length
  · have hb : ((xs.length : Int) != ys.length) = false := by simp [hl]
    have Hl := Lib.hid hl
    clear hl
    go_enter Tryz.func40, Tryz.ntmps40
    go_wp2
    go_loopw [5] (fun vi wx => ∃ (i : Nat) (q : Nat), i ≤ xs.length ∧ vi = .int .i64 i ∧ wx = w.drewN q ∧ (xs == ys) = (xs.drop i == ys.drop i)) (fun vi _ => (xs.length - intOf vi).toNat)
    case atStart => exact ⟨0, 0, Nat.zero_le _, rfl, rfl, rfl⟩
    case round =>
      obtain ⟨i, q, hi, rfl, rfl, hinv⟩ := hrel
      by_cases hlt : i < xs.length
      · have d1 : decide ((i : Int) < xs.length) = true := by simp; omega
        have hlt2 : i < ys.length := by rw [← Hl.out]; exact hlt
        rw [drop_beq Hl.out hlt] at hinv
        obtain ⟨b, off, hA, hb, hcell⟩ := H.out.at_.resolve_left (by omega)
        obtain ⟨b2, off2, hB, hb2, hcell2⟩ := K.out.at_.resolve_left (by omega)
        subst hA hB
        have y0 := hcell i hlt
        have y1 := hcell2 i hlt2
        have HI := Lib.hid hinv
        clear hcell hcell2 hinv
        generalize xs[i] = x at *
        generalize ys[i] = y at *
        have t1 : (0 : Int) ≤ (i : Int) := by omega
        have t2 : (i : Int) < (xs.length : Int) := by omega
        have t3 : (i : Int) < (ys.length : Int) := by omega
        by_cases e : x = y
        · subst e
          have hne : (x != x) = false := by simp
          go_wp2
          go_quiet (fail)
          go_wp2
          go_roundw
          case rel => exact ⟨i + 1, _, by omega, by go_num, rfl, by rw [HI.out]; simp⟩
          case measure => simp only [intOf]; omega
        · have hne : (x != y) = true := by simp [e]
          have hbe : (x == y) = false := by simp [e]
          rw [hbe, Bool.false_and] at HI
          clear e hbe
          go_wp2
          go_quiet (fail)
          go_wp2
          go_ret
          exact ⟨by rw [HI.out]; rfl, _, World.drewN_drewN _ _ _⟩
      · obtain rfl : i = xs.length := by omega
        have d1 : decide ((xs.length : Int) < xs.length) = false := by simp
        rw [List.drop_length, List.drop_of_length_le (by rw [Hl.out]; exact Nat.le_refl _)] at hinv
        have HI := Lib.hid hinv
        clear hinv
        go_wp2
        go_ret
        exact ⟨by rw [HI.out]; rfl, q, rfl⟩
  · have hb : ((xs.length : Int) != ys.length) = true := by simp; omega
    have hf : (xs == ys) = false := by
      simp only [beq_eq_false_iff_ne]
      exact fun e => hl (by rw [e])
    have HF := Lib.hid hf
    clear hl hf
    go_enter Tryz.func40, Tryz.ntmps40
    go_wp2
    go_ret
    exact ⟨by rw [HF.out]; rfl, 0, rfl⟩
end
section
open Go.RowKit Go.Lib
theorem is15_ok {w : World} {A : Option Addr} {zs : List Int} (cap : Nat) (h : Row .i64 w A zs) (hz : zs.length ≤ 100000) :
    Calls Tryz.prog 23 #[.slice A zs.length cap] w fun e w' => e = .returned (.bool (zs == makeM zs)) ∧ Below w.heap.size w w' := by
  generalize hq : (zs == makeM zs) = q
  have Hq := Lib.hid hq
  have H := Lib.hid h
  have K1 := make15_ok cap h hz
  clear h hq
  go_enter Tryz.func23, Tryz.ntmps23
  go_wp2_with (first
    | (go_at_call 41; (with_reducible refine K1.mono ?_); rintro e w1 ⟨B, d, rfl, hr1, _, hb1⟩; have Hr1 := Lib.hid hr1; have Hb1 := Lib.hid hb1; clear hr1 hb1)
    | (go_at_call 40; refine (sameRef_ok cap d (H.out.below Hb1.out) Hr1.out).mono ?_; rintro e w2 ⟨rfl, n2, rfl⟩; rw [Hq.out]))
  go_ret
  exact ⟨rfl, below_drewN Hb1.out n2⟩
end
end Go.Proofs.YtmbekchnfbmhbaaGreat

/- Solve, whatever it is asked; the reference's May. -/
namespace Go.Proofs.YtmbekchnfbmhbaaGreat
open Go.RowKit Go.Lib

theorem solve_no {w : World} {LA SA : Option Addr} {R0 : List RowT} {cl cs m : Nat} {n budget : Int} (hg : Grid w LA R0) (hm : mayB n R0 budget = false) :
    Calls Tryz.prog 9 #[.int .i64 n, .slice LA R0.length cl, .slice SA m cs, .int .i64 budget] w fun e w' => e = .returned (.tuple #[.agg #[.int .i8 0, .slice none 0 0, .slice none 0 0], .int .i64 2]) ∧ Below w.heap.size w w' := by
  have hal : Below w.heap.size w (w.alloc (.cells #[.int .i8 0, .slice none 0 0, .slice none 0 0] 29)) := (Below.refl _ w).alloc (Nat.le_refl _) _
  have KM := may_ok (n := n) (budget := budget) cl (hg.below hal)
  rw [hm] at KM
  clear hg hm
  go_enter Tryz.func9, Tryz.ntmps9
  go_wp2_with fail
  refine KM.mono ?_
  rintro e w1 ⟨rfl, hb1⟩
  have hbx := (Blk.new w 29 #[.int .i8 0, .slice none 0 0, .slice none 0 0]).below hb1 (by simp)
  have x0 := hbx.cell 0
  have x1 := hbx.cell 1
  have x2 := hbx.cell 2
  have x3 := hbx.frozen 0
  have x4 := hbx.frozen 1
  have x5 := hbx.frozen 2
  simp only [List.getElem?_toArray, List.getElem?_cons_zero, List.getElem?_cons_succ] at x0 x1 x2
  have HB1 := Lib.hid (hal.trans (hb1.mono hal.size))
  clear KM hb1 hal hbx
  go_wp2
  refine bodyPost_ret (v := .tuple #[.agg #[.int .i8 0, .slice none 0 0, .slice none 0 0], .int .i64 2]) (by simp [results, Tryz.results9, go_sem, x0, x1, x2]) rfl ?_
  have kb := box_kept w1 w.heap.size (.int .i8 0) (.slice none 0 0) (.slice none 0 0)
  exact ⟨rfl, HB1.out.trans (kb.below HB1.out.size (fun k e => by rw [e]; exact Nat.le_refl _))⟩
/-- What Solve tells, whatever it is asked. -/
def SolveAny (w : World) (n : Int) (R0 : List RowT) (budget : Int) (e : Ending) (w' : World) : Prop :=
  (mayB n R0 budget = false ∧ e = .returned (.tuple #[.agg #[.int .i8 0, .slice none 0 0, .slice none 0 0], .int .i64 2]) ∧ Below w.heap.size w w') ∨ (mayB n R0 budget = true ∧ SolveOut w n.toNat R0 budget.toNat e w')
theorem may_range {n budget : Int} {R : List RowT} (h : mayB n R budget = true) : 0 ≤ n ∧ n ≤ 4096 ∧ 0 ≤ budget ∧ budget ≤ 1048576 := by
  unfold mayB at h
  rw [Bool.and_eq_true, decide_eq_true_iff] at h
  exact h.1
theorem solve_any {w : World} {LA SA : Option Addr} {R0 : List RowT} {cl cs : Nat} {ss : List Int} {n budget : Int} (hg : Grid w LA R0) (hs : Row .i64 w SA ss) (hsn : SA = none → cs = 0) (hsc : ss.length ≤ cs) (hn : n ≤ 400) (hbu : (R0.length : Int) + budget ≤ 19000) :
    Calls Tryz.prog 9 #[.int .i64 n, .slice LA R0.length cl, .slice SA ss.length cs, .int .i64 budget] w (SolveAny w n R0 budget) := by
  cases hm : mayB n R0 budget with
  | false => exact (solve_no hg hm).mono fun e w' h => .inl ⟨hm, h.1, h.2⟩
  | true =>
    obtain ⟨h1, h2, h3, h4⟩ := may_range hm
    obtain ⟨m, rfl⟩ := Int.eq_ofNat_of_zero_le h1
    obtain ⟨bu, rfl⟩ := Int.eq_ofNat_of_zero_le h3
    exact (solve_in hg hs hsn hsc (by omega) hm (by omega)).mono fun e w' h => .inr ⟨hm, h⟩

theorem bad_lit {n : Int} {c : List Int} {x : Int} (hx : x ∈ c) (h : n ≤ x / 2) : badC n c = true := by
  unfold badC
  rw [Bool.or_eq_true, List.any_eq_true]
  exact .inr ⟨x, hx, decide_eq_true h⟩
theorem bad_not {n : Int} {c : List Int} (h : (c == makeM c) = false) : badC n c = true := by
  unfold badC
  rw [h]
  rfl
theorem bad_none {n : Int} {c : List Int} (h : (c == makeM c) = true) (hl : ∀ x ∈ c, x / 2 < n) : badC n c = false := by
  unfold badC
  rw [h, Bool.not_true, Bool.false_or, List.any_eq_false]
  intro x hx
  have := hl x hx
  unfold wideN
  simp
  omega
theorem may_bad {n budget : Int} {R : List RowT} {i : Nat} (hi : i < R.length) (h : badC n R[i].2.2 = true) : mayB n R budget = false := by
  unfold mayB
  rw [Bool.and_eq_false_iff]
  right
  rw [Bool.not_eq_false', List.any_eq_true]
  exact ⟨R[i], List.getElem_mem hi, h⟩
theorem may_good {n budget : Int} {R : List RowT} (hr : 0 ≤ n ∧ n ≤ 4096 ∧ 0 ≤ budget ∧ budget ≤ 1048576) (h : ∀ j (hj : j < R.length), badC n R[j].2.2 = false) : mayB n R budget = true := by
  unfold mayB
  rw [decide_eq_true hr, Bool.true_and, Bool.not_eq_true', List.any_eq_false]
  intro r hr2
  obtain ⟨j, hj, rfl⟩ := List.mem_iff_getElem.1 hr2
  rw [h j hj]
  decide

set_option maxRecDepth 100000 in
set_option maxHeartbeats 4000000 in
theorem may21_ok {w : World} {A : Option Addr} {rows : List RowT} {n budget : Int} (cap : Nat) (h : Grid w A rows) (hsm : ∀ r ∈ rows, r.2.2.length ≤ 100000) :
    Calls Tryz.prog 10 #[.int .i64 n, .slice A rows.length cap, .int .i64 budget] w fun e w' => e = .returned (.bool (mayB n rows budget)) ∧ Below w.heap.size w w' := by
  by_cases hr : 0 ≤ n ∧ n ≤ 4096 ∧ 0 ≤ budget ∧ budget ≤ 1048576
  · generalize hq : mayB n rows budget = q
    have HQ := Lib.hid hq
    have HRG := Lib.hid hr
    obtain ⟨h1, h2, h3, h4⟩ := hr
    have hlen := h.len
    have H := Lib.hid h
    have HSM := Lib.hid hsm
    clear h hq hsm
    go_enter Tryz.func10, Tryz.ntmps10
    go_wp2
    go_loopg [7] rows.length (fun g v wx => Below w.heap.size w wx ∧ ∃ i : Nat, i + g = rows.length ∧ v = .int .i64 i ∧ ∀ j (hj : j < rows.length), j < i → badC n rows[j].2.2 = false)
    case atStart => exact ⟨Below.refl _ _, 0, by omega, rfl, fun j _ hj => by omega⟩
    case round =>
      obtain ⟨hbel, i, hig, rfl, hinv⟩ := hrel
      have HI := Lib.hid hinv
      have HB := Lib.hid hbel
      clear hinv hbel
      cases gk with
      | zero =>
        obtain rfl : i = rows.length := by omega
        have d1 : decide (rows.length < rows.length) = false := by simp
        go_wp2
        go_ret
        refine ⟨ret_bool ?_, HB.out⟩
        rw [← HQ.out]
        exact (may_good HRG.out fun j hj => HI.out j hj hj).symm
      | succ k =>
        have hin : i < rows.length := by omega
        have d1 : decide (i < rows.length) = true := decide_eq_true hin
        obtain ⟨b, off, hA, hb, hcell⟩ := (H.out.below HB.out).at_.resolve_left (by omega)
        subst hA
        obtain ⟨c0, hrow, hnil⟩ := hcell i hin
        have K1 := is15_ok rows[i].2.1 hrow (HSM.out _ (List.getElem_mem hin))
        have hrl := HSM.out _ (List.getElem_mem hin)
        have t1 : (0 : Int) ≤ (i : Int) := by omega
        have t2 : (i : Int) < (rows.length : Int) := by omega
        have hltb : b < wr.heap.size := hb
        have HROW := Lib.hid hrow
        clear hcell hrow hnil
        have hc0 : ∀ W, Below wr.heap.size wr W → W.cell? ⟨b, off + i, none⟩ = some (.slice rows[i].1 rows[i].2.2.length rows[i].2.1) := fun W hW => (hW.cell (p := ⟨b, off + i, none⟩) hltb).trans c0
        have HC0 := Lib.hid hc0
        clear hc0
        cases hp : (rows[i].2.2 == makeM rows[i].2.2) with
        | false =>
          rw [hp] at K1
          have Hp := Lib.hid (may_bad (budget := budget) hin (bad_not (n := n) hp))
          clear hp
          go_wp2_with (go_at_call 23; (with_reducible refine K1.mono ?_); rintro e w1 ⟨rfl, hb1⟩; have HB1 := Lib.hid (HB.out.trans (hb1.mono HB.out.size)); clear hb1)
          go_ret
          exact ⟨ret_bool (by rw [← HQ.out, Hp.out]), HB1.out⟩
        | true =>
          rw [hp] at K1
          have hnn := isC_nonneg (c := rows[i].2.2) hp
          have Hp := Lib.hid hp
          have HNN := Lib.hid hnn
          clear hp hnn
          obtain ⟨wo, rfl⟩ : ∃ wo : World, wo = wr := ⟨_, rfl⟩
          go_wp2_with (go_at_call 23; (with_reducible refine K1.mono ?_); rintro e w1 ⟨rfl, hb1⟩; have HB1 := Lib.hid (HB.out.trans (hb1.mono HB.out.size)); have c01 := HC0.out _ hb1; have HRW := Lib.hid (HROW.out.below hb1); clear hb1)
          clear c0
          go_loopg [8] rows[i].2.2.length (fun g v wx => w1 = wx ∧ ∃ k : Nat, k + g = rows[i].2.2.length ∧ v = .int .i64 k ∧ ∀ x ∈ rows[i].2.2.take k, x / 2 < n)
          case atStart => exact ⟨rfl, 0, by omega, rfl, fun x hx => by simp at hx⟩
          case round =>
            obtain ⟨rfl, kk, hkg, rfl, hin2⟩ := hrel
            have HK := Lib.hid hin2
            clear hin2
            cases gk with
            | zero =>
              obtain rfl : kk = rows[i].2.2.length := by omega
              have d2 : decide (rows[i].2.2.length < rows[i].2.2.length) = false := by simp
              go_wp2
              go_roundg k
              case measure => omega
              case rel =>
                refine ⟨HB1.out, i + 1, by omega, by go_num, fun j hj hji => ?_⟩
                by_cases e : j = i
                · subst e
                  have := HK.out
                  rw [List.take_length] at this
                  exact bad_none Hp.out this
                · exact HI.out j hj (by omega)
            | succ k2 =>
              have hk2 : kk < rows[i].2.2.length := by omega
              have d2 : decide (kk < rows[i].2.2.length) = true := decide_eq_true hk2
              obtain ⟨b2, off2, hA2, hb2, hcell2⟩ := HRW.out.at_.resolve_left (by omega)
              have y1 := hcell2 kk hk2
              rw [hA2] at c01
              have hx0 := HNN.out _ (List.getElem_mem hk2)
              have t3 : (0 : Int) ≤ (kk : Int) := by omega
              have t4 : (kk : Int) < (rows[i].2.2.length : Int) := by omega
              have HTS := Lib.hid (List.take_succ_eq_append_getElem hk2)
              have HMX := Lib.hid (List.getElem_mem hk2)
              have d3 : decide (rows[i].2.2[kk] < 0) = false := decide_eq_false (by omega)
              clear hcell2 hA2
              by_cases hw : n ≤ rows[i].2.2[kk] / 2
              · have HW := Lib.hid (may_bad (budget := budget) hin (bad_lit HMX.out hw))
                have d4 : decide (n ≤ rows[i].2.2[kk] / 2) = true := decide_eq_true hw
                clear hw
                go_wp2
                go_ret
                exact ⟨ret_bool (by rw [← HQ.out, HW.out]), HB1.out⟩
              · have d4 : decide (n ≤ rows[i].2.2[kk] / 2) = false := decide_eq_false hw
                have HW := Lib.hid hw
                clear hw
                go_wp2
                go_roundg k2
                case measure => omega
                case rel =>
                  refine ⟨rfl, kk + 1, by omega, by go_num, fun x hx => ?_⟩
                  rw [HTS.out] at hx
                  rcases List.mem_append.1 hx with hx | hx
                  · exact HK.out x hx
                  · rw [List.mem_singleton.1 hx]
                    have := HW.out
                    omega
  · have e : mayB n rows budget = false := by
      unfold mayB
      rw [decide_eq_false hr, Bool.false_and]
    rw [e]
    have HR := Lib.hid hr
    clear e h hr
    go_enter Tryz.func10, Tryz.ntmps10
    go_wp2_with fail
    all_goals first
      | (go_ret; exact ⟨rfl, Below.refl _ _⟩)
      | (exfalso; have := HR.out; omega)
end Go.Proofs.YtmbekchnfbmhbaaGreat

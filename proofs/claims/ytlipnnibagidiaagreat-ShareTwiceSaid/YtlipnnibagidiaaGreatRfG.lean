/- The document's core: gantryref26.kinds, Core. -/
import Derived.Test.YtlipnnibagidiaaGreatRfF
namespace Go.Proofs.YtlipnnibagidiaaGreat
open Go.RowKit

theorem fit_all {T : List Nd} (h : ∀ k : Nat, k < T.length → fitB T (ndAt T k) = true) : T.all (fitB T) = true := by
  rw [List.all_eq_true]
  intro n hn
  obtain ⟨k, hk, e⟩ := mem_ndAt hn
  rw [← e]
  exact h k hk
theorem fit_bad {T : List Nd} {i : Nat} (hi : i < T.length) (h : fitB T (ndAt T i) = false) : T.all (fitB T) = false := by
  cases ha : T.all (fitB T) with
  | false => rfl
  | true =>
    rw [List.all_eq_true] at ha
    rw [ha _ (ndAt_mem (by omega) (by omega))] at h
    cases h
set_option maxRecDepth 100000 in
set_option maxHeartbeats 8000000 in
theorem rkinds_ok {T : List Nd} {w : World} {A : Option Addr} (c : Nat) (h : Tab w A T) (hT : TabOk T) : Calls Tryz.prog 95 #[.agg #[.slice A T.length c]] w (BoolIs (T.all (fitB T)) w) := by
  have hlen := h.len
  have HB1 := Lib.hid (show Below w.heap.size w (w.alloc (.cells #[.slice A T.length c] 33)) from (Below.refl _ w).alloc (Nat.le_refl _) _)
  have HBL := Lib.hid (show Blk (w.alloc (.cells #[.slice A T.length c] 33)) w.heap.size 33 #[.slice A T.length c] from Blk.new w _ _)
  have H := Lib.hid h
  have HT := Lib.hid hT
  clear h hT
  go_enter Tryz.func95, Tryz.ntmps95
  go_wp2
  go_loopg [3] T.length (fun g v wr => ∃ i : Nat, i + g = T.length ∧ v = .int .i64 i ∧ Below w.heap.size w wr ∧ Blk wr w.heap.size 33 #[.slice A T.length c] ∧ ∀ k : Nat, k < i → fitB T (ndAt T k) = true)
  case atStart => exact ⟨0, by omega, rfl, HB1.out, HBL.out, fun k hk => absurd hk (Nat.not_lt_zero _)⟩
  case round =>
    obtain ⟨wo, rfl⟩ : ∃ wo : World, wo = wr := ⟨_, rfl⟩
    obtain ⟨i, hig, rfl, hb, hbl, hinv⟩ := hrel
    have HB := Lib.hid hb
    have HBl := Lib.hid hbl
    have HI := Lib.hid hinv
    have c1 := hbl.cell 0
    simp only [List.getElem?_toArray, List.getElem?_cons_zero] at c1
    clear hb hbl hinv
    cases gk with
    | zero =>
      obtain rfl : i = T.length := by omega
      have d1 : decide ((T.length : Int) < T.length) = false := by simp
      have HO := Lib.hid (fit_all HI.out)
      go_wp2
      go_ret
      rw [HO.out]
      exact ⟨rfl, HB.out⟩
    | succ gk =>
      have hlt : i < T.length := by omega
      have d1 : decide ((i : Int) < T.length) = true := by simp; omega
      have t1 : (0 : Int) ≤ (i : Int) := by omega
      have t2 : (i : Int) < (T.length : Int) := by omega
      obtain ⟨b, off, hA, hbb, hcell⟩ := (H.out.below HB.out).at_.resolve_left (by omega)
      subst hA
      obtain ⟨x0, x1, x2, x3, x4, x5, x6, x7⟩ := (hcell i hlt).all
      have HST := Lib.hid (HT.out.st i T[i] (List.getElem?_eq_getElem hlt))
      have HND : Hid (ndAt T i = T[i]) := Lib.hid (ndAt_nat hlt)
      have HNext : Hid (fitB T (ndAt T i) = true → ∀ k : Nat, k < i + 1 → fitB T (ndAt T k) = true) := Lib.hid (fun e k hk => by
        by_cases hki : k = i
        · rw [hki]; exact e
        · exact HI.out k (by omega))
      have HStop : Hid (fitB T (ndAt T i) = false → T.all (fitB T) = false) := Lib.hid (fit_bad hlt)
      clear hbb
      generalize T[i] = n at *
      rw [HND.out] at HNext HStop
      obtain ⟨ov, hov⟩ : ∃ ov, n.op = ov := ⟨_, rfl⟩
      have HF : Hid (fitB T n = if ov = 4 ∨ ov = 5 ∨ ov = 8 ∨ ov = 9 then false else if ov = 1 then decide ((ndAt T n.a0).op ≠ 1)
        else if ov = 6 then (if (ndAt T n.a0).sort = 1 then decide (n.a0 < n.a1) && decide ((ndAt T n.a1).sort = 1) else decide ((ndAt T n.a0).sort = 0) || decide (n.a0 ≠ n.a1))
        else if ov = 12 then decide (n.a0 ≠ n.a1) && ownB T n.a0 && ownB T n.a1 else true) := Lib.hid (by unfold fitB; rw [hov])
      have HOV := Lib.hid hov
      rw [hov] at x0
      clear hov
      have HBN : Hid (Below wo.heap.size wo ((wo.alloc (.cells #[.int .i8 ov, .int .i8 n.len, .int .i64 n.a0, .int .i64 n.a1, .int .i64 n.a2, .int .i64 n.sort, .int .i64 n.fn, .int .i64 n.num] 51)).alloc (.cells #[.int .i64 n.a0, .int .i64 n.a1, .int .i64 n.a2] 49))) := Lib.hid (((Below.refl _ wo).alloc (Nat.le_refl _) _).alloc (by simp) _)
      have HB2 := Lib.hid (HB.out.trans (HBN.out.mono HB.out.size))
      have HBl2 := Lib.hid (HBl.out.below HBN.out HBl.out.lt)
      have HAr := Lib.hid (Blk.new_at (show (wo.alloc (.cells #[.int .i8 ov, .int .i8 n.len, .int .i64 n.a0, .int .i64 n.a1, .int .i64 n.a2, .int .i64 n.sort, .int .i64 n.fn, .int .i64 n.num] 51)).heap.size = wo.heap.size + 1 by simp) 49 #[.int .i64 n.a0, .int .i64 n.a1, .int .i64 n.a2])
      have HC2 := Lib.hid (fun k hk => (hcell k hk).below HBN.out)
      clear hcell
      by_cases q4 : ov = 4 ∨ ov = 5 ∨ ov = 8 ∨ ov = 9
      · have HBad := Lib.hid (HStop.out (by rw [HF.out, if_pos q4]))
        clear HF HOV
        rcases q4 with q | q | q | q
        all_goals
          subst q
          go_wp2
          go_ret
          rw [HBad.out]
          exact ⟨rfl, HB2.out⟩
      have q4' : ov ≠ 4 ∧ ov ≠ 5 ∧ ov ≠ 8 ∧ ov ≠ 9 := by omega
      obtain ⟨p4, p5, p8, p9⟩ := q4'
      have e4 : (ov == 4) = false := by simp [p4]
      have e5 : (ov == 5) = false := by simp [p5]
      have e8 : (ov == 8) = false := by simp [p8]
      have e9 : (ov == 9) = false := by simp [p9]
      have HF1 : Hid (fitB T n = if ov = 1 then decide ((ndAt T n.a0).op ≠ 1)
        else if ov = 6 then (if (ndAt T n.a0).sort = 1 then decide (n.a0 < n.a1) && decide ((ndAt T n.a1).sort = 1) else decide ((ndAt T n.a0).sort = 0) || decide (n.a0 ≠ n.a1))
        else if ov = 12 then decide (n.a0 ≠ n.a1) && ownB T n.a0 && ownB T n.a1 else true) := Lib.hid (by rw [HF.out, if_neg q4])
      clear HF q4 p4 p5 p8 p9
      by_cases q1 : ov = 1
      · have ha0 := HST.out.one (.inl (HOV.out.trans q1))
        obtain ⟨k0, hk0⟩ : ∃ k0 : Nat, n.a0 = k0 := ⟨n.a0.toNat, by omega⟩
        have hk0T : k0 < T.length := by omega
        obtain ⟨y0, y1, y2, y3, y4, y5, y6, y7⟩ := (HC2.out k0 hk0T).all
        have u1 : (0 : Int) ≤ (k0 : Int) := by omega
        have u2 : (k0 : Int) < (T.length : Int) := by omega
        have HF2 : Hid (fitB T n = decide (T[k0].op ≠ 1)) := Lib.hid (by rw [HF1.out, if_pos q1, hk0, ndAt_nat hk0T])
        subst q1
        rw [hk0] at x2 y0 y1 y2 y3 y4 y5 y6 y7 HB2 HBl2 HAr
        clear HC2 HBN ha0 hk0 HF1 e4 e5 e8 e9
        generalize T[k0] = m at *
        clear hk0T
        have cT := HBl2.out.cell 0
        have cA := HAr.out.cell 0
        have cB := HAr.out.cell 1
        simp only [List.getElem?_toArray, List.getElem?_cons_zero, List.getElem?_cons_succ] at cT cA cB
        by_cases s1 : m.op = 1
        · have HBad := Lib.hid (HStop.out (by rw [HF2.out, s1]; rfl))
          rw [s1] at y0
          clear s1
          go_wp2
          go_ret
          rw [HBad.out]
          exact ⟨rfl, HB2.out⟩
        · have e1 : (m.op == 1) = false := by simp [s1]
          have HN2 := Lib.hid (HNext.out (by rw [HF2.out]; exact decide_eq_true s1))
          clear s1
          go_wp2
          go_roundg gk
          case measure => omega
          case rel => exact ⟨i + 1, by omega, by go_num, HB2.out, HBl2.out, HN2.out⟩
      have e1 : (ov == 1) = false := by simp [q1]
      have HF2 : Hid (fitB T n = if ov = 6 then (if (ndAt T n.a0).sort = 1 then decide (n.a0 < n.a1) && decide ((ndAt T n.a1).sort = 1) else decide ((ndAt T n.a0).sort = 0) || decide (n.a0 ≠ n.a1))
        else if ov = 12 then decide (n.a0 ≠ n.a1) && ownB T n.a0 && ownB T n.a1 else true) := Lib.hid (by rw [HF1.out, if_neg q1])
      clear HF1 q1
      by_cases q6 : ov = 6
      · obtain ⟨⟨h0, h1⟩, h2, h3⟩ := HST.out.two (.inl (HOV.out.trans q6))
        obtain ⟨k0, hk0⟩ : ∃ k0 : Nat, n.a0 = k0 := ⟨n.a0.toNat, by omega⟩
        obtain ⟨k1, hk1⟩ : ∃ k1 : Nat, n.a1 = k1 := ⟨n.a1.toNat, by omega⟩
        have hk0T : k0 < T.length := by omega
        have hk1T : k1 < T.length := by omega
        obtain ⟨y0, y1, y2, y3, y4, y5, y6, y7⟩ := (HC2.out k0 hk0T).all
        obtain ⟨z0, z1, z2, z3, z4, z5, z6, z7⟩ := (HC2.out k1 hk1T).all
        have u1 : (0 : Int) ≤ (k0 : Int) := by omega
        have u2 : (k0 : Int) < (T.length : Int) := by omega
        have u3 : (0 : Int) ≤ (k1 : Int) := by omega
        have u4 : (k1 : Int) < (T.length : Int) := by omega
        have HF3 : Hid (fitB T n = (if T[k0].sort = 1 then decide ((k0 : Int) < k1) && decide (T[k1].sort = 1) else decide (T[k0].sort = 0) || decide ((k0 : Int) ≠ k1))) := Lib.hid (by rw [HF2.out, if_pos q6, hk0, hk1, ndAt_nat hk0T, ndAt_nat hk1T])
        subst q6
        rw [hk0] at x2 y0 y1 y2 y3 y4 y5 y6 y7 z0 z1 z2 z3 z4 z5 z6 z7 HB2 HBl2 HAr
        rw [hk1] at x3 y0 y1 y2 y3 y4 y5 y6 y7 z0 z1 z2 z3 z4 z5 z6 z7 HB2 HBl2 HAr
        clear HC2 HBN h0 h1 h2 h3 hk0 hk1 HF2 e1 e4 e5 e8 e9
        generalize T[k0] = m at *
        generalize T[k1] = o at *
        clear hk0T hk1T
        have cT := HBl2.out.cell 0
        have cA := HAr.out.cell 0
        have cB := HAr.out.cell 1
        simp only [List.getElem?_toArray, List.getElem?_cons_zero, List.getElem?_cons_succ] at cT cA cB
        by_cases s1 : m.sort = 1
        · rw [if_pos s1] at HF3
          rw [s1] at y5
          clear s1
          by_cases s2 : k0 < k1
          · have e2 : decide (k1 ≤ k0) = false := by simp; omega
            have e2' : decide ((k1 : Int) ≤ (k0 : Int)) = false := by simp; omega
            have e3 : decide ((k0 : Int) < (k1 : Int)) = true := by simp; omega
            rw [e3] at HF3
            clear s2 e3
            by_cases s3 : o.sort = 1
            · have HN2 := Lib.hid (HNext.out (by rw [HF3.out, s3]; rfl))
              rw [s3] at z5
              clear s3
              go_wp2
              go_quiet (fail)
              go_wp2
              go_roundg gk
              case measure => omega
              case rel => exact ⟨i + 1, by omega, by go_num, below_drewN HB2.out _, HBl2.out.drewN _, HN2.out⟩
            · have HBad := Lib.hid (HStop.out (by rw [HF3.out, decide_eq_false s3]; rfl))
              have e5 : (o.sort == 1) = false := by simp [s3]
              go_wp2
              go_quiet (fail)
              go_wp2
              go_ret
              rw [HBad.out]
              exact ⟨rfl, below_drewN HB2.out _⟩
          · have e2 : decide (k1 ≤ k0) = true := by simp; omega
            have e2' : decide ((k1 : Int) ≤ (k0 : Int)) = true := by simp; omega
            have e3 : decide ((k0 : Int) < (k1 : Int)) = false := by simp; omega
            have HBad := Lib.hid (HStop.out (by rw [HF3.out, e3]; rfl))
            clear s2 e3
            go_wp2
            go_quiet (fail)
            go_wp2
            go_ret
            rw [HBad.out]
            exact ⟨rfl, below_drewN HB2.out _⟩
        · rw [if_neg s1] at HF3
          have e1 : (m.sort == 1) = false := by simp [s1]
          by_cases s2 : m.sort = 0
          · have HN2 := Lib.hid (HNext.out (by rw [HF3.out, s2]; rfl))
            rw [s2] at y5 e1
            clear s2 s1
            go_wp2
            go_quiet (fail)
            go_wp2
            go_roundg gk
            case measure => omega
            case rel => exact ⟨i + 1, by omega, by go_num, below_drewN HB2.out _, HBl2.out.drewN _, HN2.out⟩
          · have e2 : (m.sort == 0) = false := by simp [s2]
            rw [decide_eq_false s2] at HF3
            by_cases s3 : k0 = k1
            · subst s3
              have HBad := Lib.hid (HStop.out (by rw [HF3.out]; simp))
              have e1n : (m.sort != 1) = true := by simp [s1]
              have e2n : (m.sort != 0) = true := by simp [s2]
              go_wp2
              go_quiet (fail)
              go_wp2
              go_ret
              rw [HBad.out]
              exact ⟨rfl, below_drewN HB2.out _⟩
            · have s4 : ¬ ((k0 : Int) = (k1 : Int)) := by omega
              have e3 : ((k0 : Int) == (k1 : Int)) = false := by simp; omega
              have e3' : (k0 == k1) = false := by simp; omega
              have HN2 := Lib.hid (HNext.out (by rw [HF3.out, decide_eq_true s4]; rfl))
              go_wp2
              go_quiet (fail)
              go_wp2
              go_roundg gk
              case measure => omega
              case rel => exact ⟨i + 1, by omega, by go_num, below_drewN HB2.out _, HBl2.out.drewN _, HN2.out⟩
      have e6 : (ov == 6) = false := by simp [q6]
      have HF3 : Hid (fitB T n = if ov = 12 then decide (n.a0 ≠ n.a1) && ownB T n.a0 && ownB T n.a1 else true) := Lib.hid (by rw [HF2.out, if_neg q6])
      clear HF2 q6
      by_cases q12 : ov = 12
      rotate_left
      · have e12 : (ov == 12) = false := by simp [q12]
        have HN2 := Lib.hid (HNext.out (by rw [HF3.out, if_neg q12]))
        clear q12 HF3
        go_wp2
        go_roundg gk
        case measure => omega
        case rel => exact ⟨i + 1, by omega, by go_num, HB2.out, HBl2.out, HN2.out⟩
      obtain ⟨⟨h0, h1⟩, h2, h3⟩ := HST.out.two (.inr (.inl (HOV.out.trans q12)))
      obtain ⟨k0, hk0⟩ : ∃ k0 : Nat, n.a0 = k0 := ⟨n.a0.toNat, by omega⟩
      obtain ⟨k1, hk1⟩ : ∃ k1 : Nat, n.a1 = k1 := ⟨n.a1.toNat, by omega⟩
      have hk0T : k0 < T.length := by omega
      have hk1T : k1 < T.length := by omega
      have K0 := Lib.hid (fun (W : World) (hW : Below w.heap.size w W) => rown_ok c k0 hk0T (H.out.below hW))
      have K1 := Lib.hid (fun (W : World) (hW : Below w.heap.size w W) => rown_ok c k1 hk1T (H.out.below hW))
      have HF4 : Hid (fitB T n = (decide ((k0 : Int) ≠ k1) && ownB T k0 && ownB T k1)) := Lib.hid (by rw [HF3.out, if_pos q12, hk0, hk1])
      have u1 : (0 : Int) ≤ (k0 : Int) := by omega
      have u3 : (0 : Int) ≤ (k1 : Int) := by omega
      subst q12
      rw [hk0] at x2 HB2 HBl2 HAr
      rw [hk1] at x3 HB2 HBl2 HAr
      clear HC2 HBN h0 h1 h2 h3 hk0 hk1 hk0T hk1T HF3 e1 e4 e5 e8 e9 e6
      generalize ownB T k0 = o0 at *
      generalize ownB T k1 = o1 at *
      have cT := HBl2.out.cell 0
      have cA := HAr.out.cell 0
      have cB := HAr.out.cell 1
      simp only [List.getElem?_toArray, List.getElem?_cons_zero, List.getElem?_cons_succ] at cT cA cB
      go_wp2_with fail
      refine (K0.out _ HB2.out).mono ?_
      rintro e w4 ⟨rfl, hb⟩
      have HB4 := Lib.hid (HB2.out.trans (hb.mono HB2.out.size))
      have HBl4 := Lib.hid (HBl2.out.below hb HBl2.out.lt)
      have HAr4 := Lib.hid (HAr.out.below hb HAr.out.lt)
      have v0 := HBl4.out.cell 0
      have v1 := HAr4.out.cell 0
      have v2 := HAr4.out.cell 1
      simp only [List.getElem?_toArray, List.getElem?_cons_zero, List.getElem?_cons_succ] at v0 v1 v2
      clear hb
      cases o0 with
      | false =>
        have HBad := Lib.hid (HStop.out (by rw [HF4.out]; simp))
        go_wp2
        go_ret
        rw [HBad.out]
        exact ⟨rfl, HB4.out⟩
      | true =>
        go_wp2_with fail
        refine (K1.out _ HB4.out).mono ?_
        rintro e w5 ⟨rfl, hb⟩
        have HB5 := Lib.hid (HB4.out.trans (hb.mono HB4.out.size))
        have HBl5 := Lib.hid (HBl4.out.below hb HBl4.out.lt)
        have HAr5 := Lib.hid (HAr4.out.below hb HAr4.out.lt)
        have v3 := HAr5.out.cell 0
        have v4 := HAr5.out.cell 1
        simp only [List.getElem?_toArray, List.getElem?_cons_zero, List.getElem?_cons_succ] at v3 v4
        clear hb v0 v1 v2
        cases o1 with
        | false =>
          have HBad := Lib.hid (HStop.out (by rw [HF4.out]; simp))
          go_wp2
          go_ret
          rw [HBad.out]
          exact ⟨rfl, HB5.out⟩
        | true =>
          by_cases s3 : k0 = k1
          · subst s3
            have HBad := Lib.hid (HStop.out (by rw [HF4.out]; simp))
            go_wp2
            go_ret
            rw [HBad.out]
            exact ⟨rfl, HB5.out⟩
          · have s4 : ¬ ((k0 : Int) = (k1 : Int)) := by omega
            have e3 : ((k0 : Int) == (k1 : Int)) = false := by simp; omega
            have e3' : (k0 == k1) = false := by simp; omega
            have HN2 := Lib.hid (HNext.out (by rw [HF4.out, decide_eq_true s4]; rfl))
            clear s3 s4
            go_wp2
            go_roundg gk
            case measure => omega
            case rel => exact ⟨i + 1, by omega, by go_num, HB5.out, HBl5.out, HN2.out⟩

set_option maxRecDepth 100000 in
set_option maxHeartbeats 4000000 in
theorem rcore_ok {T : List Nd} {w : World} {A : Option Addr} (c : Nat) (h : Tab w A T) : Calls Tryz.prog 60 #[.agg #[.slice A T.length c]] w (BoolIs (coreB T) w) := by
  have HB0 := Lib.hid (show Below w.heap.size w (w.alloc (.cells #[.slice A T.length c] 33)) from (Below.refl _ w).alloc (Nat.le_refl _) _)
  have HBL := Lib.hid (show Blk (w.alloc (.cells #[.slice A T.length c] 33)) w.heap.size 33 #[.slice A T.length c] from Blk.new w _ _)
  have H := Lib.hid h
  clear h
  have HG : Hid (coreB T = (tabB T && ordB T && T.all (fitB T))) := Lib.hid rfl
  go_enter Tryz.func60, Tryz.ntmps60
  go_wp2_with fail
  refine (rcheck_ok c (H.out.below HB0.out)).mono ?_
  rintro e w1 ⟨r, rfl, hr, hb⟩
  have HR := Lib.hid hr
  have HB1 := Lib.hid (HB0.out.trans (hb.mono HB0.out.size))
  have HBL1 := Lib.hid (HBL.out.below hb HBL.out.lt)
  have c0 := HBL1.out.cell 0
  simp only [List.getElem?_toArray, List.getElem?_cons_zero] at c0
  clear hr hb
  cases r with
  | false =>
    have HN : Hid (tabB T = false) := Lib.hid (tabB_false fun ht => by have := HR.out.2 ht; cases this)
    go_wp2
    go_ret
    rw [HG.out, HN.out]
    exact ⟨rfl, HB1.out⟩
  | true =>
    have HT := Lib.hid (HR.out.1 rfl)
    have HTB := Lib.hid (tabB_iff.2 HT.out)
    go_wp2_with fail
    refine (rordered_ok c (H.out.below HB1.out)).mono ?_
    rintro e w2 ⟨rfl, hb⟩
    have HB2 := Lib.hid (HB1.out.trans (hb.mono HB1.out.size))
    have HBL2 := Lib.hid (HBL1.out.below hb HBL1.out.lt)
    have c1 := HBL2.out.cell 0
    simp only [List.getElem?_toArray, List.getElem?_cons_zero] at c1
    clear hb c0
    generalize hbo : (tabB T && ordB T) = bo at *
    have HBO := Lib.hid hbo
    clear hbo
    cases bo with
    | false =>
      go_wp2
      go_ret
      rw [HG.out]
      exact ⟨rfl, HB2.out⟩
    | true =>
      go_wp2_with fail
      refine (rkinds_ok c (H.out.below HB2.out) HT.out).mono ?_
      rintro e w3 ⟨rfl, hb⟩
      have HB3 := Lib.hid (HB2.out.trans (hb.mono HB2.out.size))
      generalize T.all (fitB T) = bk at *
      clear hb
      go_wp2
      go_ret
      rw [HG.out]
      exact ⟨by simp, HB3.out⟩
end Go.Proofs.YtlipnnibagidiaaGreat

/- The document's Le: gantryref11.Le. -/
import Derived.Test.YtlipnnibagidiaaGreatRfC
import Derived.Test.YtlipnnibagidiaaGreatRfD
import Derived.Test.YtlipnnibagidiaaGreatSwA
namespace Go.Proofs.YtlipnnibagidiaaGreat
open Go.RowKit

set_option maxRecDepth 100000 in
set_option maxHeartbeats 4000000 in
theorem rle_ok {T : List Nd} {w : World} {A : Option Addr} (k : Nat) (a b c most : Int) (ha : In64 a) (hb : In64 b) (hk : T.length ≤ k) (h : Tab w A T) (hl : T.length < 100000) (ho : TabOk T → ordB T = true) :
    Calls Tryz.prog 155 #[.agg #[.slice A T.length k], .int .i64 a, .int .i64 b, .int .i64 c, .int .i64 most] w (LeIs A T (leT T a b c most) w) := by
  obtain ⟨w0, hw0⟩ : ∃ w0, (w.alloc (.cells #[.slice A T.length k] 33)).alloc (.cells #[.slice none 0 0] 33) = w0 := ⟨_, rfl⟩
  have HS0 : Hid (w0.heap.size = w.heap.size + 2) := Lib.hid (by rw [← hw0]; simp)
  have HT0 : Hid (Blk w0 w.heap.size 33 #[.slice A T.length k]) := Lib.hid (by rw [← hw0]; exact (Blk.new w _ _).alloc _)
  have HR0 : Hid (Blk w0 (w.heap.size + 1) 33 #[.slice none 0 0]) := Lib.hid (by rw [← hw0]; exact Blk.new_at (by simp) _ _)
  have HB0 : Hid (Below w.heap.size w w0) := Lib.hid (by rw [← hw0]; exact ((Below.refl _ w).alloc (Nat.le_refl _) _).alloc (by simp) _)
  have KD := Lib.hid (fun (W : World) (hw : Below w.heap.size w W) => rdiff_ok k a b c ha hb (h.below hw) ho)
  have KP := Lib.hid (fun (W : World) (hw : Below w.heap.size w W) (n : Nd) (hn : NdWf n) => rput_ok k n hn most hk (h.below hw) hl)
  have HIN := Lib.hid (fun he => diffT_in h.wfs ha hb (c := c) he)
  have HG := Lib.hid (leT_R T a b c most)
  have HLE := Lib.hid (fun (he : (diffT T a b c).e = 0) => diffT_pos he)
  have H := Lib.hid h
  have HK := Lib.hid hk
  have z0 := HT0.out.cell 0
  simp only [List.getElem?_toArray, List.getElem?_cons_zero] at z0
  clear h ho hk ha hb hl
  go_enter Tryz.func155, Tryz.ntmps155
  go_wp2_with fail
  refine (KD.out _ HB0.out).mono ?_
  rintro e w1 ⟨rfl, hb⟩
  generalize diffT T a b c = p at *
  obtain ⟨x, y, d, e⟩ := p
  have HT1 := Lib.hid (HT0.out.below hb HT0.out.lt)
  have HR1 := Lib.hid (HR0.out.below hb HR0.out.lt)
  have HSZ1 : Hid (w.heap.size + 2 ≤ w1.heap.size) := Lib.hid (by rw [← HS0.out]; exact hb.size)
  have HB1 : Hid (Below w.heap.size w w1) := Lib.hid (HB0.out.trans (hb.mono HB0.out.size))
  have a0 := HT1.out.cell 0
  have b0 := HR1.out.cell 0
  have f0 := HR1.out.frozen 0
  simp only [List.getElem?_toArray, List.getElem?_cons_zero] at a0 b0
  clear hb hw0 z0
  by_cases t1 : e = 0
  rotate_left
  · have d1 : (e == 0) = false := by simp [t1]
    have HS : Hid (leT T a b c most = ⟨[], 0, false, e⟩) := Lib.hid (by rw [HG.out]; unfold leR; rw [if_pos t1])
    clear t1
    go_wp2
    refine bodyPost_ret (v := .tuple #[.agg #[.slice none 0 0], .int .i64 0, .bool false, .int .i64 e]) ?_ rfl ?_
    · have c1 := (HR1.out.set_ 0 (.slice none 0 0)).cell 0
      simp only [List.getElem?_toArray, List.getElem?_cons_zero, List.setIfInBounds_toArray, List.set_cons_zero] at c1
      simp [results, Tryz.results155, go_sem, c1]
    · rw [HS.out]
      exact ⟨none, 0, rfl, ⟨by simp, .inl rfl⟩, Nat.le_refl _, Fr.none, HB1.out.setCell (by simp) _⟩
  subst t1
  have hin := HIN.out rfl
  have HPos := Lib.hid (HLE.out rfl)
  by_cases t2 : x = y
  · have d2 : (x == y) = true := by simp [t2]
    by_cases t3 : 0 ≤ d
    · have d3 := decide_eq_true t3
      have HS : Hid (leT T a b c most = ⟨T, 0, false, 0⟩) := Lib.hid (by rw [HG.out]; simp [leR, t2, t3])
      clear t3 hin t2
      go_wp2
      refine bodyPost_ret (v := .tuple #[.agg #[.slice A T.length k], .int .i64 0, .bool false, .int .i64 0]) ?_ rfl ?_
      · have c1 := (HR1.out.set_ 0 (.slice A T.length k)).cell 0
        simp only [List.getElem?_toArray, List.getElem?_cons_zero, List.setIfInBounds_toArray, List.set_cons_zero] at c1
        simp [results, Tryz.results155, go_sem, c1]
      · rw [HS.out]
        have h4 := HB1.out.setCell (p := ⟨w.heap.size + 1, 0, none⟩) (by simp) (.slice A T.length k)
        exact ⟨A, k, rfl, H.out.below h4, HK.out, fun b e => .inl ⟨e, HPos.out⟩, h4⟩
    · have d3 := decide_eq_false t3
      have HS : Hid (leT T a b c most = ⟨(putT T (notNd 0) most).T, (putT T (notNd 0) most).id, false, (putT T (notNd 0) most).e⟩) := Lib.hid (by rw [HG.out]; simp [leR, t2, t3])
      have KP1 := Lib.hid (KP.out _ HB1.out (notNd 0) notNd_wf)
      clear t3 hin t2
      generalize putT T (notNd 0) most = r at *
      obtain ⟨T', id', e'⟩ := r
      simp only [nodeVal, nodeCells, notNd] at KP1
      go_wp2_with fail
      refine KP1.out.mono ?_
      rintro e w2 ⟨A2, c2, rfl, ht, hc2, hf, hb⟩
      have HT2 := Lib.hid ht
      have HC2 := Lib.hid hc2
      have HF2 := Lib.hid hf
      have HR2 := Lib.hid (HR1.out.below hb HR1.out.lt)
      have HB2 := Lib.hid (HB1.out.trans (hb.mono HB1.out.size))
      have HSZ2 : Hid (w.heap.size + 2 ≤ w2.heap.size) := Lib.hid (Nat.le_trans HSZ1.out hb.size)
      have b2 := HR2.out.cell 0
      have f2 := HR2.out.frozen 0
      have hlt2 := HR2.out.lt
      simp only [List.getElem?_toArray, List.getElem?_cons_zero] at b2
      clear ht hc2 hf hb a0 b0 f0
      have HRA := Lib.hid (HR2.out.alloc (.cells #[.slice A2 T'.length c2] 33))
      have b3 := HRA.out.cell 0
      have f3 := HRA.out.frozen 0
      simp only [List.getElem?_toArray, List.getElem?_cons_zero] at b3
      go_wp2
      refine bodyPost_ret (v := .tuple #[.agg #[.slice A2 T'.length c2], .int .i64 id', .bool false, .int .i64 e']) ?_ rfl ?_
      · have c1 := ((HR2.out.set_ 0 (.slice A2 T'.length c2)).alloc (.cells #[.slice A2 T'.length c2] 33)).cell 0
        simp only [List.getElem?_toArray, List.getElem?_cons_zero, List.setIfInBounds_toArray, List.set_cons_zero] at c1
        simp [results, Tryz.results155, go_sem, c1]
      · rw [HS.out]
        have hb4 := (HB2.out.setCell (p := ⟨w.heap.size + 1, 0, none⟩) (by simp) (.slice A2 T'.length c2)).alloc (by simpa using HB2.out.size) (.cells #[.slice A2 T'.length c2] 33)
        refine ⟨A2, c2, rfl, ?_, HC2.out, fun b e => (HF2.out b e).imp id fun h => Nat.le_trans (Nat.le_trans (by omega) HSZ1.out) h, hb4⟩
        refine Tab.alloc (HT2.out.kept1 (Kept.set1 w2 (w.heap.size + 1) 0 _) fun b e => ?_) _
        rcases HF2.out b e with ⟨e1, h0⟩ | h1
        · have := Tab.lt (e1 ▸ H.out) h0
          omega
        · have := HSZ1.out
          omega
  · have d2 : (x == y) = false := by simp [t2]
    have HS : Hid (leT T a b c most = ⟨(putT T (diffNd x y d) most).T, (putT T (diffNd x y d) most).id, decide ((putT T (diffNd x y d) most).e = 0), (putT T (diffNd x y d) most).e⟩) := Lib.hid (by rw [HG.out]; simp [leR, t2])
    have KP1 := Lib.hid (KP.out _ HB1.out (diffNd x y d) (diffNd_wf hin.1 hin.2.1 hin.2.2))
    clear hin t2
    generalize putT T (diffNd x y d) most = r at *
    obtain ⟨T', id', e'⟩ := r
    simp only [nodeVal, nodeCells, diffNd] at KP1
    go_wp2_with fail
    refine KP1.out.mono ?_
    rintro e w2 ⟨A2, c2, rfl, ht, hc2, hf, hb⟩
    have HT2 := Lib.hid ht
    have HC2 := Lib.hid hc2
    have HF2 := Lib.hid hf
    have HR2 := Lib.hid (HR1.out.below hb HR1.out.lt)
    have HB2 := Lib.hid (HB1.out.trans (hb.mono HB1.out.size))
    have HSZ2 : Hid (w.heap.size + 2 ≤ w2.heap.size) := Lib.hid (Nat.le_trans HSZ1.out hb.size)
    have b2 := HR2.out.cell 0
    have f2 := HR2.out.frozen 0
    have hlt2 := HR2.out.lt
    simp only [List.getElem?_toArray, List.getElem?_cons_zero] at b2
    clear ht hc2 hf hb a0 b0 f0
    have HRA := Lib.hid (HR2.out.alloc (.cells #[.slice A2 T'.length c2] 33))
    have b3 := HRA.out.cell 0
    have f3 := HRA.out.frozen 0
    simp only [List.getElem?_toArray, List.getElem?_cons_zero] at b3
    by_cases te : e' = 0
    · subst te
      go_wp2
      refine bodyPost_ret (v := .tuple #[.agg #[.slice A2 T'.length c2], .int .i64 id', .bool true, .int .i64 0]) ?_ rfl ?_
      · have c1 := ((HR2.out.set_ 0 (.slice A2 T'.length c2)).alloc (.cells #[.slice A2 T'.length c2] 33)).cell 0
        simp only [List.getElem?_toArray, List.getElem?_cons_zero, List.setIfInBounds_toArray, List.set_cons_zero] at c1
        simp [results, Tryz.results155, go_sem, c1]
      · rw [HS.out]
        have hb4 := (HB2.out.setCell (p := ⟨w.heap.size + 1, 0, none⟩) (by simp) (.slice A2 T'.length c2)).alloc (by simpa using HB2.out.size) (.cells #[.slice A2 T'.length c2] 33)
        refine ⟨A2, c2, rfl, ?_, HC2.out, fun b e => (HF2.out b e).imp id fun h => Nat.le_trans (Nat.le_trans (by omega) HSZ1.out) h, hb4⟩
        refine Tab.alloc (HT2.out.kept1 (Kept.set1 w2 (w.heap.size + 1) 0 _) fun b e => ?_) _
        rcases HF2.out b e with ⟨e1, h0⟩ | h1
        · have := Tab.lt (e1 ▸ H.out) h0
          omega
        · have := HSZ1.out
          omega
    · have de : (e' == 0) = false := by simp [te]
      have HDE : Hid (decide (e' = 0) = false) := Lib.hid (decide_eq_false te)
      clear te
      go_wp2
      refine bodyPost_ret (v := .tuple #[.agg #[.slice A2 T'.length c2], .int .i64 id', .bool false, .int .i64 e']) ?_ rfl ?_
      · have c1 := ((HR2.out.set_ 0 (.slice A2 T'.length c2)).alloc (.cells #[.slice A2 T'.length c2] 33)).cell 0
        simp only [List.getElem?_toArray, List.getElem?_cons_zero, List.setIfInBounds_toArray, List.set_cons_zero] at c1
        simp [results, Tryz.results155, go_sem, c1]
      · rw [HS.out]
        try dsimp only
        rw [HDE.out]
        have hb4 := (HB2.out.setCell (p := ⟨w.heap.size + 1, 0, none⟩) (by simp) (.slice A2 T'.length c2)).alloc (by simpa using HB2.out.size) (.cells #[.slice A2 T'.length c2] 33)
        refine ⟨A2, c2, rfl, ?_, HC2.out, fun b e => (HF2.out b e).imp id fun h => Nat.le_trans (Nat.le_trans (by omega) HSZ1.out) h, hb4⟩
        refine Tab.alloc (HT2.out.kept1 (Kept.set1 w2 (w.heap.size + 1) 0 _) fun b e => ?_) _
        rcases HF2.out b e with ⟨e1, h0⟩ | h1
        · have := Tab.lt (e1 ▸ H.out) h0
          omega
        · have := HSZ1.out
          omega
end Go.Proofs.YtlipnnibagidiaaGreat

/- Kinds a core table may have: share.fits. -/
namespace Go.Proofs.YtlipnnibagidiaaGreat
open Go.RowKit

set_option maxRecDepth 100000 in
set_option maxHeartbeats 8000000 in
theorem sfits_ok {T : List Nd} {w : World} {A : Option Addr} (c : Nat) (n : Nd) (at_ : Int) (hst : Stands n at_) (hat : at_ ≤ T.length) (h : Tab w A T) :
    Calls Tryz.prog 90 #[.agg #[.slice A T.length c], nodeVal n] w (BoolIs (fitB T n) w) := by
  have HB0 := Lib.hid (show Below w.heap.size w ((w.alloc (.cells #[.slice A T.length c] 33)).alloc (.cells (nodeCells n).toArray 51)) from ((Below.refl _ w).alloc (Nat.le_refl _) _).alloc (by simp) _)
  have HBT : Hid (Blk ((w.alloc (.cells #[.slice A T.length c] 33)).alloc (.cells (nodeCells n).toArray 51)) w.heap.size 33 #[.slice A T.length c]) := Lib.hid ((Blk.new w _ _).alloc _)
  have KI := Lib.hid (fun (W : World) (hW : Below w.heap.size w W) => sints_ok c n (fun ho => by have := (hst.two (.inl ho)).1; omega) (h.below hW))
  have KO := Lib.hid (fun (W : World) (k : Nat) (hk : k < T.length) (hW : Below w.heap.size w W) => sown_ok c k hk (h.below hW))
  have HN := Lib.hid (fun (W : World) (hW : Below w.heap.size w W) => h.below hW)
  have HST := Lib.hid hst
  simp only [nodeVal, nodeCells] at HB0 HBT KI ⊢
  by_cases q4 : n.op = 4 ∨ n.op = 5 ∨ n.op = 8 ∨ n.op = 9
  · have HR : Hid (fitB T n = false) := Lib.hid (by unfold fitB; rw [if_pos q4])
    clear h hst
    rcases q4 with q | q | q | q
    all_goals
      rw [q] at HB0 HBT ⊢
      go_enter Tryz.func90, Tryz.ntmps90
      go_wp2
      go_quiet (fail)
      go_wp2
      go_ret
      rw [HR.out]
      exact ⟨rfl, below_drewN HB0.out _⟩
  have HF : Hid (fitB T n = if n.op = 1 then decide ((ndAt T n.a0).op ≠ 1)
      else if n.op = 6 then (if (ndAt T n.a0).sort = 1 then decide (n.a0 < n.a1) && decide ((ndAt T n.a1).sort = 1) else decide ((ndAt T n.a0).sort = 0) || decide (n.a0 ≠ n.a1))
      else if n.op = 12 then decide (n.a0 ≠ n.a1) && ownB T n.a0 && ownB T n.a1
      else true) := Lib.hid (by unfold fitB; rw [if_neg q4])
  have q4' : n.op ≠ 4 ∧ n.op ≠ 5 ∧ n.op ≠ 8 ∧ n.op ≠ 9 := by omega
  clear q4
  obtain ⟨q4, q5, q8, q9⟩ := q4'
  by_cases q1 : n.op = 1
  · have HR : Hid (fitB T n = decide ((ndAt T n.a0).op ≠ 1)) := Lib.hid (by rw [HF.out, if_pos q1])
    obtain ⟨h0, h1⟩ := hst.one (.inl q1)
    obtain ⟨k, hk⟩ : ∃ k : Nat, n.a0 = k := ⟨n.a0.toNat, by omega⟩
    have hkT : k < T.length := by omega
    obtain ⟨b, off, hA, hbb, hcell⟩ := h.at_.resolve_left (by omega)
    subst hA
    have hm := (hcell k hkT).below HB0.out
    have hnd : ndAt T n.a0 = T[k] := by rw [hk, ndAt_nat hkT]
    rw [hnd] at HR
    have g1 : (0 : Int) ≤ (k : Int) := by omega
    have g2 : (k : Int) < (T.length : Int) := by omega
    generalize T[k] = m at *
    obtain ⟨z0, z1, z2, z3, z4, z5, z6, z7⟩ := hm.all
    rw [q1, hk] at z0 z1 z2 z3 z4 z5 z6 z7 HB0 HBT ⊢
    clear hm hcell hbb hnd h h0 h1 hst q1 q4 q5 q8 q9 HF KI KO HN HST
    go_enter Tryz.func90, Tryz.ntmps90
    go_wp2
    go_quiet (fail)
    go_wp2
    go_ret
    rw [HR.out]
    refine ⟨?_, below_drewN HB0.out _⟩
    by_cases hq : m.op = 1 <;> simp [hq]
  by_cases q6 : n.op = 6
  · have HR : Hid (fitB T n = (if (ndAt T n.a0).sort = 1 then decide (n.a0 < n.a1) && decide ((ndAt T n.a1).sort = 1) else decide ((ndAt T n.a0).sort = 0) || decide (n.a0 ≠ n.a1))) := Lib.hid (by rw [HF.out, if_neg q1, if_pos q6])
    obtain ⟨⟨h0, h1⟩, h2, h3⟩ := hst.two (.inl q6)
    obtain ⟨k, hk⟩ : ∃ k : Nat, n.a0 = k := ⟨n.a0.toNat, by omega⟩
    obtain ⟨j, hj⟩ : ∃ j : Nat, n.a1 = j := ⟨n.a1.toNat, by omega⟩
    have hkT : k < T.length := by omega
    have hjT : j < T.length := by omega
    have HKJ := Lib.hid (And.intro hkT hjT)
    have hnd : ndAt T n.a0 = T[k] := by rw [hk, ndAt_nat hkT]
    have hnd2 : ndAt T n.a1 = T[j] := by rw [hj, ndAt_nat hjT]
    have HIB : Hid (intsB T n = decide (T[k].sort = 1)) := Lib.hid (by unfold intsB; rw [hnd, decide_eq_true q6]; rfl)
    rw [hnd, hnd2, hk, hj] at HR
    rw [q6, hk, hj] at HB0 HBT ⊢
    rw [HIB.out, q6, hk, hj] at KI
    clear h h0 h1 h2 h3 hst hnd hnd2 q4 q5 q8 q9 q1 HF KO HST
    go_enter Tryz.func90, Tryz.ntmps90
    go_wp2
    go_quiet (fail)
    go_wp2_with fail
    refine (KI.out _ (below_drewN HB0.out nq)).mono ?_
    rintro e w1 ⟨rfl, hb⟩
    have HB1 : Hid (Below w.heap.size w w1) := Lib.hid ((below_drewN HB0.out nq).trans (hb.mono (below_drewN HB0.out nq).size))
    have c0 := (HBT.out.below (w' := w1) (B := _) ((below_drewN (Below.refl _ _) nq).trans hb) HBT.out.lt).cell 0
    simp only [List.getElem?_toArray, List.getElem?_cons_zero] at c0
    obtain ⟨b, off, hA, hbb, hcell⟩ := (HN.out w1 HB1.out).at_.resolve_left (by omega)
    subst hA
    obtain ⟨y0, y1, y2, y3, y4, y5, y6, y7⟩ := (hcell k hkT).all
    obtain ⟨z0, z1, z2, z3, z4, z5, z6, z7⟩ := (hcell j hjT).all
    have g1 : (0 : Int) ≤ (k : Int) := by omega
    have g2 : (k : Int) < (T.length : Int) := by omega
    have g3 : (0 : Int) ≤ (j : Int) := by omega
    have g4 : (j : Int) < (T.length : Int) := by omega
    clear hb hbb hcell
    generalize T[k] = m at *
    generalize T[j] = o at *
    clear hkT hjT
    by_cases t1 : m.sort = 1
    · have d0 := decide_eq_true t1
      rw [if_pos t1] at HR
      rw [d0]
      by_cases t2 : k < j
      · have d2 := decide_eq_true t2
        go_wp2
        go_ret
        rw [HR.out]
        refine ⟨?_, HB1.out⟩
        have d3 : decide ((k : Int) < (j : Int)) = true := by simp; omega
        rw [d3]
        rfl
      · have d2 := decide_eq_false t2
        go_wp2
        go_ret
        rw [HR.out]
        refine ⟨?_, HB1.out⟩
        have d3 : decide ((k : Int) < (j : Int)) = false := by simp; omega
        rw [d3]
        rfl
    · have d0 := decide_eq_false t1
      rw [if_neg t1] at HR
      rw [d0]
      by_cases t2 : m.sort = 0
      · rw [t2] at y5
        go_wp2
        go_ret
        rw [HR.out]
        exact ⟨by rw [decide_eq_true t2]; rfl, HB1.out⟩
      · have d2 : (m.sort == 0) = false := by simp [t2]
        go_wp2
        go_ret
        rw [HR.out]
        refine ⟨?_, HB1.out⟩
        rw [decide_eq_false t2]
        have e3 : ((k : Int) != (j : Int)) = decide ((k : Int) ≠ (j : Int)) := by
          rw [Bool.eq_iff_iff]
          simp
        rw [e3]
        rfl
  by_cases q12 : n.op = 12
  · have HR : Hid (fitB T n = (decide (n.a0 ≠ n.a1) && ownB T n.a0 && ownB T n.a1)) := Lib.hid (by rw [HF.out, if_neg q1, if_neg q6, if_pos q12])
    obtain ⟨⟨h0, h1⟩, h2, h3⟩ := hst.two (.inr (.inl q12))
    obtain ⟨k, hk⟩ : ∃ k : Nat, n.a0 = k := ⟨n.a0.toNat, by omega⟩
    obtain ⟨j, hj⟩ : ∃ j : Nat, n.a1 = j := ⟨n.a1.toNat, by omega⟩
    have HK := Lib.hid (show k < T.length by omega)
    have HJ := Lib.hid (show j < T.length by omega)
    have K1 := Lib.hid (fun W hW => KO.out W k HK.out hW)
    have K2 := Lib.hid (fun W hW => KO.out W j HJ.out hW)
    rw [hk, hj] at HR
    rw [q12, hk, hj] at HB0 HBT ⊢
    clear h h0 h1 h2 h3 hst q4 q5 q8 q9 q1 q6 HF KO HST KI HN
    generalize ownB T k = o1 at *
    generalize ownB T j = o2 at *
    by_cases t1 : k = j
    · subst t1
      go_enter Tryz.func90, Tryz.ntmps90
      go_wp2
      go_quiet (fail)
      go_wp2
      go_ret
      rw [HR.out]
      exact ⟨by rw [show decide ((k : Int) ≠ (k : Int)) = false by simp]; rfl, below_drewN HB0.out _⟩
    · have t5 : ¬ ((k : Int) = (j : Int)) := by omega
      have d2 : ((k : Int) != (j : Int)) = true := by simp [t5]
      have d3 : ((k : Int) == (j : Int)) = false := by simp [t5]
      have HD : Hid (decide ((k : Int) ≠ (j : Int)) = true) := Lib.hid (by simp [t5])
      go_enter Tryz.func90, Tryz.ntmps90
      go_wp2
      go_quiet (fail)
      go_wp2_with fail
      refine (K1.out _ (below_drewN HB0.out nq)).mono ?_
      rintro e w1 ⟨rfl, hb⟩
      have HB1 : Hid (Below w.heap.size w w1) := Lib.hid ((below_drewN HB0.out nq).trans (hb.mono (below_drewN HB0.out nq).size))
      have c0 := (HBT.out.below (w' := w1) (B := _) ((below_drewN (Below.refl _ _) nq).trans hb) HBT.out.lt).cell 0
      simp only [List.getElem?_toArray, List.getElem?_cons_zero] at c0
      clear hb
      cases o1 with
      | false =>
        go_wp2
        go_ret
        rw [HR.out, HD.out]
        exact ⟨rfl, HB1.out⟩
      | true =>
        go_wp2_with fail
        refine (K2.out _ HB1.out).mono ?_
        rintro e w2 ⟨rfl, hb⟩
        have HB2 : Hid (Below w.heap.size w w2) := Lib.hid (HB1.out.trans (hb.mono HB1.out.size))
        clear hb
        go_wp2
        go_ret
        rw [HR.out, HD.out]
        exact ⟨rfl, HB2.out⟩
  · have HR : Hid (fitB T n = true) := Lib.hid (by rw [HF.out, if_neg q1, if_neg q6, if_neg q12])
    have e4 : (n.op == 4) = false := by simp [q4]
    have e5 : (n.op == 5) = false := by simp [q5]
    have e8 : (n.op == 8) = false := by simp [q8]
    have e9 : (n.op == 9) = false := by simp [q9]
    have e1 : (n.op == 1) = false := by simp [q1]
    have e6 : (n.op == 6) = false := by simp [q6]
    have e12 : (n.op == 12) = false := by simp [q12]
    clear h hst q4 q5 q8 q9 q1 q6 q12 HF KI KO HN HST
    go_enter Tryz.func90, Tryz.ntmps90
    go_wp2
    go_quiet (fail)
    go_wp2
    go_ret
    rw [HR.out]
    exact ⟨rfl, below_drewN HB0.out _⟩
end Go.Proofs.YtlipnnibagidiaaGreat

/- Core so far: share.Core. -/
namespace Go.Proofs.YtlipnnibagidiaaGreat
open Go.RowKit

theorem coreB_any (T : List Nd) : coreB T = (tabB T && ordB T && !T.any fun n => !fitB T n) := by
  unfold coreB
  congr 1
  rw [Bool.eq_iff_iff, List.all_eq_true, Bool.not_eq_true', List.any_eq_false]
  refine forall_congr' fun n => forall_congr' fun _ => ?_
  simp

set_option maxRecDepth 100000 in
set_option maxHeartbeats 4000000 in
theorem coref_ok {W : World} {q : Nat} {A : Option Addr} {c : Nat} {T : List Nd} (hb : Blk W q 33 #[.slice A T.length c]) (ht : Tab W A T) (hT : TabOk T) (x : Nd) (hx : x ∈ T) :
    Calls Tryz.prog 89 #[nodeVal x, .pointer (some ⟨q, 0, none⟩)] W fun e w' => e = .returned (.bool (!fitB T x)) ∧ Below W.heap.size W w' := by
  obtain ⟨i, hi, hti, hst⟩ := hT.stands hx
  have HB0 := Lib.hid (show Below W.heap.size W (W.alloc (.cells (nodeCells x).toArray 51)) from (Below.refl _ W).alloc (Nat.le_refl _) _)
  have KF := Lib.hid (sfits_ok c x i hst (by omega) (ht.below HB0.out))
  have hb1 := hb.alloc (.cells (nodeCells x).toArray 51)
  have c0 := hb1.cell 0
  simp only [List.getElem?_toArray, List.getElem?_cons_zero] at c0
  simp only [nodeVal, nodeCells] at HB0 KF c0 ⊢
  clear hb hb1 ht hT hst hti hi hx
  go_enter Tryz.func89, Tryz.ntmps89
  go_wp2_with fail
  refine KF.out.mono ?_
  rintro e w1 ⟨rfl, hb⟩
  have HB1 := Lib.hid (HB0.out.trans (hb.mono HB0.out.size))
  clear hb
  go_wp2
  go_ret
  exact ⟨rfl, HB1.out⟩

set_option maxRecDepth 100000 in
set_option maxHeartbeats 4000000 in
theorem score_ok {T : List Nd} {w : World} {A : Option Addr} (c : Nat) (hc : T.length ≤ c) (h : Tab w A T) : Calls Tryz.prog 53 #[.agg #[.slice A T.length c]] w (BoolIs (coreB T) w) := by
  have HB1 := Lib.hid (show Below w.heap.size w (w.alloc (.cells #[.slice A T.length c] 33)) from (Below.refl _ w).alloc (Nat.le_refl _) _)
  have HBL := Lib.hid (show Blk (w.alloc (.cells #[.slice A T.length c] 33)) w.heap.size 33 #[.slice A T.length c] from Blk.new w _ _)
  have HL1 : Hid (w.heap.size < (w.alloc (.cells #[.slice A T.length c] 33)).heap.size) := Lib.hid (by simp)
  have H := Lib.hid h
  have HC := Lib.hid hc
  have HG := Lib.hid (coreB_any T)
  clear h hc
  go_enter Tryz.func53, Tryz.ntmps53
  go_wp2_with fail
  refine (check_ok c HC.out (H.out.below HB1.out)).mono ?_
  rintro e w1 ⟨r, rfl, hr, hb⟩
  have HR := Lib.hid hr
  have HB2 : Hid (Below w.heap.size w w1) := Lib.hid (HB1.out.trans (hb.mono (Nat.le_of_lt HL1.out)))
  have HBL2 := Lib.hid (HBL.out.below hb HL1.out)
  have c0 := HBL2.out.cell 0
  simp only [List.getElem?_toArray, List.getElem?_cons_zero] at c0
  clear hr hb
  cases r with
  | false =>
    have HN : Hid (tabB T = false) := Lib.hid (by
      cases ht : tabB T with
      | false => rfl
      | true => exact absurd (HR.out.2 (tabB_iff.1 ht)) (by simp))
    go_wp2
    go_ret
    rw [HG.out, HN.out]
    exact ⟨rfl, HB2.out⟩
  | true =>
    have HT := Lib.hid (HR.out.1 rfl)
    go_wp2_with fail
    refine (ordered_ok c HC.out (H.out.below HB2.out)).mono ?_
    rintro e w2 ⟨rfl, hb⟩
    have HB3 := Lib.hid (HB2.out.trans (hb.mono HB2.out.size))
    have HBL3 := Lib.hid (HBL2.out.below hb HBL2.out.lt)
    have c1 := HBL3.out.cell 0
    simp only [List.getElem?_toArray, List.getElem?_cons_zero] at c1
    clear hb c0
    generalize (tabB T && ordB T) = bo at *
    cases bo with
    | false =>
      go_wp2
      go_ret
      rw [HG.out]
      exact ⟨rfl, HB3.out⟩
    | true =>
      go_wp2_with fail
      refine (ncontains_ok c 89 #[.pointer (some ⟨w.heap.size, 0, none⟩)] (fun n => !fitB T n) (enters_of Tryz.func89 (by kernel_rfl) rfl) (H.out.below HB3.out) (fun W x hx hW => coref_ok (HBL3.out.below hW HBL3.out.lt) (H.out.below (HB3.out.trans (hW.mono HB3.out.size))) HT.out x hx)).mono ?_
      rintro e w3 ⟨rfl, hb2⟩
      generalize (T.any fun n => !fitB T n) = bb at *
      have HB4 := Lib.hid (HB3.out.trans (hb2.mono HB3.out.size))
      clear hb2
      go_wp2
      go_ret
      rw [HG.out]
      exact ⟨rfl, HB4.out⟩
end Go.Proofs.YtlipnnibagidiaaGreat

/- The document's Le: gantryref11.Le. -/
import Derived.Test.YtlipnnibagidiaaRfD
namespace Go.Proofs.Ytlipnnibagidiaa
open Go.RowKit

set_option maxRecDepth 100000 in
set_option maxHeartbeats 4000000 in
theorem rle_ok {T : List Nd} {w : World} {A : Option Addr} (k : Nat) (a b c most : Int) (ha : In64 a) (hb : In64 b) (hk : T.length ≤ k) (h : Tab w A T) (hl : T.length < 100000) (ho : TabOk T → ordB T = true) :
    Calls Try.prog 40 #[.agg #[.slice A T.length k], .int .i64 a, .int .i64 b, .int .i64 c, .int .i64 most] w (LeIs A T (leT T a b c most) w) := by
  obtain ⟨w0, hw0⟩ : ∃ w0, (w.alloc (.cells #[.slice A T.length k] 24)).alloc (.cells #[.slice none 0 0] 24) = w0 := ⟨_, rfl⟩
  have HS0 : Hid (w0.heap.size = w.heap.size + 2) := Lib.hid (by rw [← hw0]; simp)
  have HT0 : Hid (Blk w0 w.heap.size 24 #[.slice A T.length k]) := Lib.hid (by rw [← hw0]; exact (Blk.new w _ _).alloc _)
  have HR0 : Hid (Blk w0 (w.heap.size + 1) 24 #[.slice none 0 0]) := Lib.hid (by rw [← hw0]; exact Blk.new_at (by simp) _ _)
  have HB0 : Hid (Below w.heap.size w w0) := Lib.hid (by rw [← hw0]; exact ((Below.refl _ w).alloc (Nat.le_refl _) _).alloc (by simp) _)
  have KD := Lib.hid (fun (W : World) (hw : Below w.heap.size w W) => rdiff_ok k a b c ha hb (h.below hw) ho)
  have KP := Lib.hid (fun (W : World) (hw : Below w.heap.size w W) (n : Nd) (hn : NdWf n) => rput_ok k n hn most hk (h.below hw) hl)
  have HIN := Lib.hid (fun he => diffT_in h.wfs ha hb (c := c) he)
  have HG := Lib.hid (leT_R T a b c most)
  have HLE := Lib.hid (fun (he : (diffT T a b c).e = 0) => diffT_pos he)
  have H := Lib.hid h
  have HK := Lib.hid hk
  have z0 := HT0.out.cell 0
  simp only [List.getElem?_toArray, List.getElem?_cons_zero] at z0
  clear h ho hk ha hb hl
  go_enter Try.func40, Try.ntmps40
  go_wp2_with fail
  refine (KD.out _ HB0.out).mono ?_
  rintro e w1 ⟨rfl, hb⟩
  generalize diffT T a b c = p at *
  obtain ⟨x, y, d, e⟩ := p
  have HT1 := Lib.hid (HT0.out.below hb HT0.out.lt)
  have HR1 := Lib.hid (HR0.out.below hb HR0.out.lt)
  have HSZ1 : Hid (w.heap.size + 2 ≤ w1.heap.size) := Lib.hid (by rw [← HS0.out]; exact hb.size)
  have HB1 : Hid (Below w.heap.size w w1) := Lib.hid (HB0.out.trans (hb.mono HB0.out.size))
  have a0 := HT1.out.cell 0
  have b0 := HR1.out.cell 0
  have f0 := HR1.out.frozen 0
  simp only [List.getElem?_toArray, List.getElem?_cons_zero] at a0 b0
  clear hb hw0 z0
  by_cases t1 : e = 0
  rotate_left
  · have d1 : (e == 0) = false := by simp [t1]
    have HS : Hid (leT T a b c most = ⟨[], 0, false, e⟩) := Lib.hid (by rw [HG.out]; unfold leR; rw [if_pos t1])
    clear t1
    go_wp2
    refine bodyPost_ret (v := .tuple #[.agg #[.slice none 0 0], .int .i64 0, .bool false, .int .i64 e]) ?_ rfl ?_
    · have c1 := (HR1.out.set_ 0 (.slice none 0 0)).cell 0
      simp only [List.getElem?_toArray, List.getElem?_cons_zero, List.setIfInBounds_toArray, List.set_cons_zero] at c1
      simp [results, Try.results40, go_sem, c1]
    · rw [HS.out]
      exact ⟨none, 0, rfl, ⟨by simp, .inl rfl⟩, Nat.le_refl _, Fr.none, HB1.out.setCell (by simp) _⟩
  subst t1
  have hin := HIN.out rfl
  have HPos := Lib.hid (HLE.out rfl)
  by_cases t2 : x = y
  · have d2 : (x == y) = true := by simp [t2]
    by_cases t3 : 0 ≤ d
    · have d3 := decide_eq_true t3
      have HS : Hid (leT T a b c most = ⟨T, 0, false, 0⟩) := Lib.hid (by rw [HG.out]; simp [leR, t2, t3])
      clear t3 hin t2
      go_wp2
      refine bodyPost_ret (v := .tuple #[.agg #[.slice A T.length k], .int .i64 0, .bool false, .int .i64 0]) ?_ rfl ?_
      · have c1 := (HR1.out.set_ 0 (.slice A T.length k)).cell 0
        simp only [List.getElem?_toArray, List.getElem?_cons_zero, List.setIfInBounds_toArray, List.set_cons_zero] at c1
        simp [results, Try.results40, go_sem, c1]
      · rw [HS.out]
        have h4 := HB1.out.setCell (p := ⟨w.heap.size + 1, 0, none⟩) (by simp) (.slice A T.length k)
        exact ⟨A, k, rfl, H.out.below h4, HK.out, fun b e => .inl ⟨e, HPos.out⟩, h4⟩
    · have d3 := decide_eq_false t3
      have HS : Hid (leT T a b c most = ⟨(putT T (notNd 0) most).T, (putT T (notNd 0) most).id, false, (putT T (notNd 0) most).e⟩) := Lib.hid (by rw [HG.out]; simp [leR, t2, t3])
      have KP1 := Lib.hid (KP.out _ HB1.out (notNd 0) notNd_wf)
      clear t3 hin t2
      generalize putT T (notNd 0) most = r at *
      obtain ⟨T', id', e'⟩ := r
      simp only [nodeVal, nodeCells, notNd] at KP1
      go_wp2_with fail
      refine KP1.out.mono ?_
      rintro e w2 ⟨A2, c2, rfl, ht, hc2, hf, hb⟩
      have HT2 := Lib.hid ht
      have HC2 := Lib.hid hc2
      have HF2 := Lib.hid hf
      have HR2 := Lib.hid (HR1.out.below hb HR1.out.lt)
      have HB2 := Lib.hid (HB1.out.trans (hb.mono HB1.out.size))
      have HSZ2 : Hid (w.heap.size + 2 ≤ w2.heap.size) := Lib.hid (Nat.le_trans HSZ1.out hb.size)
      have b2 := HR2.out.cell 0
      have f2 := HR2.out.frozen 0
      have hlt2 := HR2.out.lt
      simp only [List.getElem?_toArray, List.getElem?_cons_zero] at b2
      clear ht hc2 hf hb a0 b0 f0
      have HRA := Lib.hid (HR2.out.alloc (.cells #[.slice A2 T'.length c2] 24))
      have b3 := HRA.out.cell 0
      have f3 := HRA.out.frozen 0
      simp only [List.getElem?_toArray, List.getElem?_cons_zero] at b3
      go_wp2
      refine bodyPost_ret (v := .tuple #[.agg #[.slice A2 T'.length c2], .int .i64 id', .bool false, .int .i64 e']) ?_ rfl ?_
      · have c1 := ((HR2.out.set_ 0 (.slice A2 T'.length c2)).alloc (.cells #[.slice A2 T'.length c2] 24)).cell 0
        simp only [List.getElem?_toArray, List.getElem?_cons_zero, List.setIfInBounds_toArray, List.set_cons_zero] at c1
        simp [results, Try.results40, go_sem, c1]
      · rw [HS.out]
        have hb4 := (HB2.out.setCell (p := ⟨w.heap.size + 1, 0, none⟩) (by simp) (.slice A2 T'.length c2)).alloc (by simpa using HB2.out.size) (.cells #[.slice A2 T'.length c2] 24)
        refine ⟨A2, c2, rfl, ?_, HC2.out, fun b e => (HF2.out b e).imp id fun h => Nat.le_trans (Nat.le_trans (by omega) HSZ1.out) h, hb4⟩
        refine Tab.alloc (HT2.out.kept1 (Kept.set1 w2 (w.heap.size + 1) 0 _) fun b e => ?_) _
        rcases HF2.out b e with ⟨e1, h0⟩ | h1
        · have := Tab.lt (e1 ▸ H.out) h0
          omega
        · have := HSZ1.out
          omega
  · have d2 : (x == y) = false := by simp [t2]
    have HS : Hid (leT T a b c most = ⟨(putT T (diffNd x y d) most).T, (putT T (diffNd x y d) most).id, decide ((putT T (diffNd x y d) most).e = 0), (putT T (diffNd x y d) most).e⟩) := Lib.hid (by rw [HG.out]; simp [leR, t2])
    have KP1 := Lib.hid (KP.out _ HB1.out (diffNd x y d) (diffNd_wf hin.1 hin.2.1 hin.2.2))
    clear hin t2
    generalize putT T (diffNd x y d) most = r at *
    obtain ⟨T', id', e'⟩ := r
    simp only [nodeVal, nodeCells, diffNd] at KP1
    go_wp2_with fail
    refine KP1.out.mono ?_
    rintro e w2 ⟨A2, c2, rfl, ht, hc2, hf, hb⟩
    have HT2 := Lib.hid ht
    have HC2 := Lib.hid hc2
    have HF2 := Lib.hid hf
    have HR2 := Lib.hid (HR1.out.below hb HR1.out.lt)
    have HB2 := Lib.hid (HB1.out.trans (hb.mono HB1.out.size))
    have HSZ2 : Hid (w.heap.size + 2 ≤ w2.heap.size) := Lib.hid (Nat.le_trans HSZ1.out hb.size)
    have b2 := HR2.out.cell 0
    have f2 := HR2.out.frozen 0
    have hlt2 := HR2.out.lt
    simp only [List.getElem?_toArray, List.getElem?_cons_zero] at b2
    clear ht hc2 hf hb a0 b0 f0
    have HRA := Lib.hid (HR2.out.alloc (.cells #[.slice A2 T'.length c2] 24))
    have b3 := HRA.out.cell 0
    have f3 := HRA.out.frozen 0
    simp only [List.getElem?_toArray, List.getElem?_cons_zero] at b3
    by_cases te : e' = 0
    · subst te
      go_wp2
      refine bodyPost_ret (v := .tuple #[.agg #[.slice A2 T'.length c2], .int .i64 id', .bool true, .int .i64 0]) ?_ rfl ?_
      · have c1 := ((HR2.out.set_ 0 (.slice A2 T'.length c2)).alloc (.cells #[.slice A2 T'.length c2] 24)).cell 0
        simp only [List.getElem?_toArray, List.getElem?_cons_zero, List.setIfInBounds_toArray, List.set_cons_zero] at c1
        simp [results, Try.results40, go_sem, c1]
      · rw [HS.out]
        have hb4 := (HB2.out.setCell (p := ⟨w.heap.size + 1, 0, none⟩) (by simp) (.slice A2 T'.length c2)).alloc (by simpa using HB2.out.size) (.cells #[.slice A2 T'.length c2] 24)
        refine ⟨A2, c2, rfl, ?_, HC2.out, fun b e => (HF2.out b e).imp id fun h => Nat.le_trans (Nat.le_trans (by omega) HSZ1.out) h, hb4⟩
        refine Tab.alloc (HT2.out.kept1 (Kept.set1 w2 (w.heap.size + 1) 0 _) fun b e => ?_) _
        rcases HF2.out b e with ⟨e1, h0⟩ | h1
        · have := Tab.lt (e1 ▸ H.out) h0
          omega
        · have := HSZ1.out
          omega
    · have de : (e' == 0) = false := by simp [te]
      have HDE : Hid (decide (e' = 0) = false) := Lib.hid (decide_eq_false te)
      clear te
      go_wp2
      refine bodyPost_ret (v := .tuple #[.agg #[.slice A2 T'.length c2], .int .i64 id', .bool false, .int .i64 e']) ?_ rfl ?_
      · have c1 := ((HR2.out.set_ 0 (.slice A2 T'.length c2)).alloc (.cells #[.slice A2 T'.length c2] 24)).cell 0
        simp only [List.getElem?_toArray, List.getElem?_cons_zero, List.setIfInBounds_toArray, List.set_cons_zero] at c1
        simp [results, Try.results40, go_sem, c1]
      · rw [HS.out]
        try dsimp only
        rw [HDE.out]
        have hb4 := (HB2.out.setCell (p := ⟨w.heap.size + 1, 0, none⟩) (by simp) (.slice A2 T'.length c2)).alloc (by simpa using HB2.out.size) (.cells #[.slice A2 T'.length c2] 24)
        refine ⟨A2, c2, rfl, ?_, HC2.out, fun b e => (HF2.out b e).imp id fun h => Nat.le_trans (Nat.le_trans (by omega) HSZ1.out) h, hb4⟩
        refine Tab.alloc (HT2.out.kept1 (Kept.set1 w2 (w.heap.size + 1) 0 _) fun b e => ?_) _
        rcases HF2.out b e with ⟨e1, h0⟩ | h1
        · have := Tab.lt (e1 ▸ H.out) h0
          omega
        · have := HSZ1.out
          omega
end Go.Proofs.Ytlipnnibagidiaa

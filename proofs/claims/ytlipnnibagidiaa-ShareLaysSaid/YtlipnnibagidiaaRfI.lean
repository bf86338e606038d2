/- The document's laying of two: gantryref26.equality, lay. -/
import Derived.Test.YtlipnnibagidiaaRfH
import Derived.Test.YtlipnnibagidiaaSwH
namespace Go.Proofs.Ytlipnnibagidiaa
open Go.RowKit

set_option maxRecDepth 100000 in
theorem requality_ok (w : World) (x y : Int) : Calls Try.prog 38 #[.int .i64 x, .int .i64 y] w fun e w' => e = .returned (nodeVal (eqNd x y)) ∧ Below w.heap.size w w' := by
  have HB0 := Lib.hid (show Below w.heap.size w (w.alloc (.cells (nodeCells (eqNd x y)).toArray 36)) from (Below.refl _ w).alloc (Nat.le_refl _) _)
  have HBN := Lib.hid (show Blk (w.alloc (.cells (nodeCells (eqNd x y)).toArray 36)) w.heap.size 36 (nodeCells (eqNd x y)).toArray from Blk.new w _ _)
  simp only [nodeCells, eqNd] at HB0 HBN
  go_enter Try.func38, Try.ntmps38
  go_wp2
  refine bodyPost_ret (v := nodeVal (eqNd x y)) ?_ rfl ⟨rfl, HB0.out⟩
  have n0 := HBN.out.cell 0
  have n1 := HBN.out.cell 1
  have n2 := HBN.out.cell 2
  have n3 := HBN.out.cell 3
  have n4 := HBN.out.cell 4
  have n5 := HBN.out.cell 5
  have n6 := HBN.out.cell 6
  have n7 := HBN.out.cell 7
  simp only [List.getElem?_toArray, List.getElem?_cons_zero, List.getElem?_cons_succ] at n0 n1 n2 n3 n4 n5 n6 n7
  simp [results, Try.results38, go_sem, n0, n1, n2, n3, n4, n5, n6, n7, nodeVal, nodeCells, eqNd]

/-- The two boxes of a laying: the table at B, the result at B + 1. -/
structure LY (w : World) (B : Nat) (A : Option Addr) (T : List Nd) (c : Nat) (W : World) : Prop where
  t4 : Blk W B 24 #[.slice A T.length c]
  t8 : Blk W (B + 1) 24 #[.slice none 0 0]
  tab : Tab W A T
  cap : T.length ≤ c
  kept : Below B w W
theorem LY.below {w W W' : World} {B c : Nat} {A : Option Addr} {T : List Nd} (h : LY w B A T c W) (hb : Below W.heap.size W W') : LY w B A T c W' :=
  ⟨h.t4.below hb h.t4.lt, h.t8.below hb h.t8.lt, h.tab.below hb, h.cap, h.kept.trans (hb.mono (Nat.le_of_lt h.t4.lt))⟩
theorem LY.store {w W : World} {B c c' : Nat} {A A' : Option Addr} {T T' : List Nd} (h : LY w B A T c W) (ht : Tab W A' T') (hc : T'.length ≤ c') : LY w B A' T' c' (W.setCell ⟨B, 0, none⟩ (.slice A' T'.length c')) := by
  have hk := Kept.set1 W B 0 (.slice A' T'.length c')
  exact ⟨h.t4.set_ 0 _, h.t8.kept hk (by omega), ht.far (fun i => h.t4.small i) hk, hc, h.kept.trans (hk.below (Nat.le_of_lt h.t4.lt) (fun k e => Nat.le_of_eq e.symm))⟩
/-- The result written. -/
theorem LY.out {w W : World} {B c c' : Nat} {A A' : Option Addr} {T T' : List Nd} (h : LY w B A T c W) (ht : Tab W A' T') : Tab (W.setCell ⟨B + 1, 0, none⟩ (.slice A' T'.length c')) A' T' ∧ Below B w (W.setCell ⟨B + 1, 0, none⟩ (.slice A' T'.length c')) ∧ (W.setCell ⟨B + 1, 0, none⟩ (.slice A' T'.length c')).cell? ⟨B + 1, 0, none⟩ = some (.slice A' T'.length c') := by
  have hk := Kept.set1 W (B + 1) 0 (.slice A' T'.length c')
  have hc := (h.t8.set_ 0 (.slice A' T'.length c')).cell 0
  simp only [List.getElem?_toArray, List.getElem?_cons_zero, List.setIfInBounds_toArray, List.set_cons_zero] at hc
  exact ⟨ht.far (fun i => h.t8.small i) hk, h.kept.trans (hk.below (by have := h.t4.lt; omega) (fun k e => by omega)), hc⟩
theorem LY.cells {w W : World} {B c : Nat} {A : Option Addr} {T : List Nd} (h : LY w B A T c W) : W.cell? ⟨B, 0, none⟩ = some (.slice A T.length c) ∧ W.cell? ⟨B + 1, 0, none⟩ = some (.slice none 0 0) ∧ W.frozen? ⟨B, 0, none⟩ = false ∧ W.frozen? ⟨B + 1, 0, none⟩ = false := by
  have h4 := h.t4.cell 0
  have h8 := h.t8.cell 0
  simp only [List.getElem?_toArray, List.getElem?_cons_zero] at h4 h8
  exact ⟨h4, h8, h.t4.frozen 0, h.t8.frozen 0⟩

set_option maxRecDepth 100000 in
set_option maxHeartbeats 4000000 in
theorem rlay_ok {T : List Nd} {w : World} {A : Option Addr} (c : Nat) (x y most : Int) (hx : In64 x) (hy : In64 y) (hc : T.length ≤ c) (h : Tab w A T) (hl : T.length ≤ 90000) (ho : OrdK T) :
    Calls Try.prog 22 #[.agg #[.slice A T.length c], .int .i64 x, .int .i64 y, .int .i64 most] w (ShIs (layT T x y most) w) := by
  obtain ⟨w0, hw0⟩ : ∃ w0, (w.alloc (.cells #[.slice A T.length c] 24)).alloc (.cells #[.slice none 0 0] 24) = w0 := ⟨_, rfl⟩
  have HY0 : Hid (LY w w.heap.size A T c w0) := Lib.hid (by
    rw [← hw0]
    exact ⟨(Blk.new w _ _).alloc _, Blk.new_at (by simp) _ _, (h.alloc _).alloc _, hc, ((Below.refl _ w).alloc (Nat.le_refl _) _).alloc (by simp) _⟩)
  have HLen := Lib.hid hl
  have HO := Lib.hid ho
  have HXY := Lib.hid (And.intro hx hy)
  have HE : Hid (layT T x y most = if (putT T (eqNd x y) most).e ≠ 0 then ⟨[], (putT T (eqNd x y) most).e⟩ else
    if (diffT (putT T (eqNd x y) most).T x y 0).e ≠ 0 then ⟨[], (diffT (putT T (eqNd x y) most).T x y 0).e⟩ else
    if (diffT (putT T (eqNd x y) most).T x y 0).x = (diffT (putT T (eqNd x y) most).T x y 0).y then ⟨(putT T (eqNd x y) most).T, 0⟩ else
    if (leT (putT T (eqNd x y) most).T x y 0 most).e ≠ 0 then ⟨[], (leT (putT T (eqNd x y) most).T x y 0 most).e⟩ else
    ⟨(leT (leT (putT T (eqNd x y) most).T x y 0 most).T y x 0 most).T, (leT (leT (putT T (eqNd x y) most).T x y 0 most).T y x 0 most).e⟩) := Lib.hid rfl
  have HO1 := Lib.hid (putT_ordK (n := eqNd x y) (most := most) ho (by show (6 : Int) ≠ 11; decide))
  have HL1 := Lib.hid (putT_len T (eqNd x y) most)
  have KP := Lib.hid (fun (W : World) (hW : LY w w.heap.size A T c W) => rput_ok c (eqNd x y) (eq_wf hx hy) most hc hW.tab (by omega))
  obtain ⟨p, hp⟩ : ∃ p, putT T (eqNd x y) most = p := ⟨_, rfl⟩
  rw [hp] at HE HO1 HL1 KP
  obtain ⟨T1, id1, e1⟩ := p
  dsimp only at HE HO1 HL1
  clear hp h hc hl ho hx hy
  go_enter Try.func22, Try.ntmps22
  go_upto_region 1 with (fail)
  have HYd : Hid (LY w w.heap.size A T c w0.drew) := Lib.hid (HY0.out.below (below_drewN (Below.refl w0.heap.size w0) 1))
  obtain ⟨z1, z2, z3, z4⟩ := HYd.out.cells
  clear hw0
  go_region_with (first
    | (go_at_call 38; refine (requality_ok _ x y).mono ?_; rintro e w1 ⟨rfl, hb⟩; have HY1 := Lib.hid (HYd.out.below hb); obtain ⟨y1, y2, y3, y4⟩ := HY1.out.cells; clear hb)
    | (go_at_call 37; refine (KP.out _ HY1.out).mono ?_; rintro e w2 ⟨A1, c1, rfl, ht, hc1, hf, hb⟩; have HY2 := Lib.hid (HY1.out.below hb); have HT1 := Lib.hid ht; have HC1 := Lib.hid hc1; obtain ⟨x1, x2, x3, x4⟩ := HY2.out.cells; clear ht hc1 hf hb))
  all_goals
    have HY3 := Lib.hid (HY2.out.store HT1.out HC1.out)
    clear HY0 HYd HY1 HY2 HT1 HC1 z1 z2 z3 z4 y1 y2 y3 y4 x1 x2 x3 x4
    generalize w2.setCell ⟨w.heap.size, 0, none⟩ (.slice A1 T1.length c1) = w3 at *
    obtain ⟨x1, x2, x3, x4⟩ := HY3.out.cells
    by_cases t1 : e1 = 0
    rotate_left
    · have d1 : (e1 == 0) = false := by simp [t1]
      have HS : Hid (layT T x y most = ⟨[], e1⟩) := Lib.hid (by rw [HE.out, if_pos t1])
      clear t1
      go_wp2
      obtain ⟨o1, o2, o3⟩ := HY3.out.out (A' := none) (T' := []) (c' := 0) ⟨by simp, .inl rfl⟩
      refine bodyPost_ret (v := .tuple #[.agg #[.slice none 0 0], .int .i64 e1]) (by simp only [List.length_nil] at o3; simp [results, Try.results22, go_sem, o3]) rfl ?_
      rw [HS.out]
      exact ⟨none, 0, rfl, o1, Nat.le_refl _, o2⟩
    subst t1
    have HE1 : Hid (layT T x y most = if (diffT T1 x y 0).e ≠ 0 then ⟨[], (diffT T1 x y 0).e⟩ else if (diffT T1 x y 0).x = (diffT T1 x y 0).y then ⟨T1, 0⟩ else if (leT T1 x y 0 most).e ≠ 0 then ⟨[], (leT T1 x y 0 most).e⟩ else ⟨(leT (leT T1 x y 0 most).T y x 0 most).T, (leT (leT T1 x y 0 most).T y x 0 most).e⟩) := Lib.hid (by rw [HE.out, if_neg (by simp)])
    have KL := Lib.hid (fun (W : World) (hW : LY w w.heap.size A1 T1 c1 W) => rle_ok c1 x y 0 most HXY.out.1 HXY.out.2 hW.cap hW.tab (by have := HL1.out; have := HLen.out; omega) HO1.out)
    have HO2 := Lib.hid (leT_ordK (a := x) (b := y) (c := 0) (most := most) HO1.out)
    have HL2 := Lib.hid (leT_len T1 x y 0 most)
    have KD := Lib.hid (rdiff_ok c1 x y 0 HXY.out.1 HXY.out.2 HY3.out.tab HO1.out)
    clear HE
    go_wp2_with fail
    refine KD.out.mono ?_
    rintro e w4 ⟨rfl, hb⟩
    have HY4 := Lib.hid (HY3.out.below hb)
    clear hb x1 x2 x3 x4
    generalize diffT T1 x y 0 = q at *
    obtain ⟨q1, q2, q3, q4⟩ := q
    obtain ⟨x1, x2, x3, x4⟩ := HY4.out.cells
    by_cases t2 : q4 = 0
    rotate_left
    · have d1 : (q4 == 0) = false := by simp [t2]
      have HS : Hid (layT T x y most = ⟨[], q4⟩) := Lib.hid (by rw [HE1.out, if_pos t2])
      clear t2
      go_wp2
      obtain ⟨o1, o2, o3⟩ := HY4.out.out (A' := none) (T' := []) (c' := 0) ⟨by simp, .inl rfl⟩
      refine bodyPost_ret (v := .tuple #[.agg #[.slice none 0 0], .int .i64 q4]) (by simp only [List.length_nil] at o3; simp [results, Try.results22, go_sem, o3]) rfl ?_
      rw [HS.out]
      exact ⟨none, 0, rfl, o1, Nat.le_refl _, o2⟩
    subst t2
    by_cases t3 : q1 = q2
    · have d1 : (q1 == q2) = true := by simp [t3]
      have HS : Hid (layT T x y most = ⟨T1, 0⟩) := Lib.hid (by rw [HE1.out, if_neg (by simp), if_pos t3])
      clear t3
      go_wp2
      obtain ⟨o1, o2, o3⟩ := HY4.out.out (A' := A1) (T' := T1) (c' := c1) HY4.out.tab
      refine bodyPost_ret (v := .tuple #[.agg #[.slice A1 T1.length c1], .int .i64 0]) (by simp [results, Try.results22, go_sem, o3]) rfl ?_
      rw [HS.out]
      exact ⟨A1, c1, rfl, o1, HY4.out.cap, o2⟩
    have d1 : (q1 == q2) = false := by simp [t3]
    have HE2 : Hid (layT T x y most = if (leT T1 x y 0 most).e ≠ 0 then ⟨[], (leT T1 x y 0 most).e⟩ else ⟨(leT (leT T1 x y 0 most).T y x 0 most).T, (leT (leT T1 x y 0 most).T y x 0 most).e⟩) := Lib.hid (by rw [HE1.out, if_neg (by simp), if_neg t3])
    clear t3 HE1
    go_wp2_with fail
    refine (KL.out _ HY4.out).mono ?_
    rintro e w5 ⟨A2, c2, rfl, ht, hc2, hf, hb⟩
    have HY5 := Lib.hid ((HY4.out.below hb).store ht hc2)
    obtain ⟨y1, y2, y3, y4⟩ := (HY4.out.below hb).cells
    clear ht hc2 hf hb x1 x2 x3 x4 KL KD
    generalize leT T1 x y 0 most = r2 at *
    obtain ⟨T2, id2, is2, e2⟩ := r2
    dsimp only at HO2 HL2 HE2 HY5
    obtain ⟨x1, x2, x3, x4⟩ := HY5.out.cells
    by_cases t4 : e2 = 0
    rotate_left
    · have d1 : (e2 == 0) = false := by simp [t4]
      have HS : Hid (layT T x y most = ⟨[], e2⟩) := Lib.hid (by rw [HE2.out, if_pos t4])
      clear t4
      go_wp2
      obtain ⟨o1, o2, o3⟩ := HY5.out.out (A' := none) (T' := []) (c' := 0) ⟨by simp, .inl rfl⟩
      refine bodyPost_ret (v := .tuple #[.agg #[.slice none 0 0], .int .i64 e2]) (by simp only [List.length_nil] at o3; simp [results, Try.results22, go_sem, o3]) rfl ?_
      rw [HS.out]
      exact ⟨none, 0, rfl, o1, Nat.le_refl _, o2⟩
    subst t4
    have HE3 : Hid (layT T x y most = ⟨(leT T2 y x 0 most).T, (leT T2 y x 0 most).e⟩) := Lib.hid (by rw [HE2.out, if_neg (by simp)])
    have KL := Lib.hid (fun (W : World) (hW : LY w w.heap.size A2 T2 c2 W) => rle_ok c2 y x 0 most HXY.out.2 HXY.out.1 hW.cap hW.tab (by have := HL1.out; have := HL2.out; have := HLen.out; omega) HO2.out)
    clear HE2
    go_wp2_with fail
    refine (KL.out _ HY5.out).mono ?_
    rintro e w6 ⟨A3, c3, rfl, ht, hc3, hf, hb⟩
    have HY6 := Lib.hid ((HY5.out.below hb).store ht hc3)
    obtain ⟨u1, u2, u3, u4⟩ := (HY5.out.below hb).cells
    clear ht hc3 hf hb x1 x2 x3 x4 y1 y2 y3 y4 KL
    generalize leT T2 y x 0 most = r3 at *
    obtain ⟨T3, id3, is3, e3⟩ := r3
    dsimp only at HE3 HY6
    obtain ⟨x1, x2, x3, x4⟩ := HY6.out.cells
    go_wp2
    obtain ⟨o1, o2, o3⟩ := HY6.out.out (A' := A3) (T' := T3) (c' := c3) HY6.out.tab
    refine bodyPost_ret (v := .tuple #[.agg #[.slice A3 T3.length c3], .int .i64 e3]) (by simp [results, Try.results22, go_sem, o3]) rfl ?_
    rw [HE3.out]
    exact ⟨A3, c3, rfl, o1, HY6.out.cap, o2⟩
end Go.Proofs.Ytlipnnibagidiaa

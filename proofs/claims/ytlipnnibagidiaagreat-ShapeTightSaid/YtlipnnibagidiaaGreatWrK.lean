/- shape.writer: ite of Bools. -/
import Derived.Test.YtlipnnibagidiaaGreatWrG
namespace Go.Proofs.YtlipnnibagidiaaGreat
open Go.RowKit Go.Lib
set_option maxRecDepth 100000 in
set_option maxHeartbeats 2000000 in
theorem tfind_ok {T : List Nd} {w : World} {A : Option Addr} (c : Nat) (n : Nd) (hwn : NdWf n) (h : Tab w A T) : Calls Tryz.prog 178 #[.agg #[.slice A T.length c], nodeVal n] w (FindIs T n w) := by
  have hlen := h.len
  have HB0 := Lib.hid (show Below w.heap.size w ((w.alloc (.cells #[.slice A T.length c] 33)).alloc (.cells (nodeCells n).toArray 51)) from ((Below.refl _ w).alloc (Nat.le_refl _) _).alloc (by simp) _)
  have HBT := Lib.hid (show Blk ((w.alloc (.cells #[.slice A T.length c] 33)).alloc (.cells (nodeCells n).toArray 51)) w.heap.size 33 #[.slice A T.length c] from (Blk.new w _ _).alloc _)
  have HBN := Lib.hid (show Blk ((w.alloc (.cells #[.slice A T.length c] 33)).alloc (.cells (nodeCells n).toArray 51)) (w.heap.size + 1) 51 (nodeCells n).toArray from Blk.new_at (by simp) _ _)
  have KI := Lib.hid (fun (W : World) (hW : Below w.heap.size w W) => nidx_ok c n hwn (h.below hW))
  clear h hwn
  simp only [nodeVal, nodeCells] at HB0 HBT HBN KI ⊢
  generalize hw0 : ((w.alloc (.cells #[.slice A T.length c] 33)).alloc (.cells #[.int .i8 n.op, .int .i8 n.len, .int .i64 n.a0, .int .i64 n.a1, .int .i64 n.a2, .int .i64 n.sort, .int .i64 n.fn, .int .i64 n.num] 51)) = w0 at HB0 HBT HBN
  have HW0 := Lib.hid hw0
  have c0 := HBT.out.cell 0
  have n0 := HBN.out.cell 0
  have n1 := HBN.out.cell 1
  have n2 := HBN.out.cell 2
  have n3 := HBN.out.cell 3
  have n4 := HBN.out.cell 4
  have n5 := HBN.out.cell 5
  have n6 := HBN.out.cell 6
  have n7 := HBN.out.cell 7
  simp only [List.getElem?_toArray, List.getElem?_cons_zero, List.getElem?_cons_succ] at c0 n0 n1 n2 n3 n4 n5 n6 n7
  subst hw0
  go_enter Tryz.func178, Tryz.ntmps178
  go_wp2_with fail
  refine (KI.out _ HB0.out).mono ?_
  rintro e w1 ⟨i, rfl, hi, hn, hb⟩
  have HB1 := Lib.hid (HB0.out.trans (hb.mono HB0.out.size))
  clear hb
  by_cases hm : n ∈ T
  · obtain rfl := hi hm
    have HM := Lib.hid hm
    clear hi hn hm
    obtain ⟨k, hk⟩ : ∃ k, T.idxOf n = k := ⟨_, rfl⟩
    have HK := Lib.hid hk
    rw [hk]
    clear hk
    go_wp2
    refine bodyPost_ret (v := .tuple #[.int .i64 (k : Nat), .bool true]) (by simp [results, Tryz.results178, go_sem]) rfl ?_
    exact ⟨(k : Nat), true, rfl, ⟨fun _ => HM.out, fun _ => rfl⟩, fun _ => by rw [HK.out], fun e => absurd HM.out e, HB1.out⟩
  · obtain rfl := hn hm
    have HM := Lib.hid hm
    clear hi hn hm
    go_wp2
    refine bodyPost_ret (v := .tuple #[.int .i64 0, .bool false]) (by simp [results, Tryz.results178, go_sem]; decide) rfl ?_
    exact ⟨0, false, rfl, ⟨fun e => (by cases e), fun e => absurd e HM.out⟩, fun e => absurd e HM.out, fun _ => rfl, HB1.out⟩
set_option maxRecDepth 100000 in
set_option maxHeartbeats 2000000 in
theorem wat_ok {w : World} {r c id : Nat} {A : Option Addr} {T : List Nd} {ov : Value} {rows : List (Option Addr × Nat × List Int)} {bad : Bool} (h : WrS w r A T c id ov rows bad) (n : Nd) (hwn : NdWf n) (hn : n ∈ T) :
    Calls Tryz.prog 160 #[.pointer (some ⟨r, 0, none⟩), nodeVal n] w fun e w' => e = .returned (.int .i64 (litT T n)) ∧ WrS w' r A T c id ov rows bad ∧ Kept (fun b => b = r) w w' := by
  have hlen := h.tab.len
  have hrl := h.blk.lt
  have hb0 : Below w.heap.size w (w.alloc (.cells (nodeCells n).toArray 51)) := (Below.refl _ w).alloc (Nat.le_refl _) _
  have HS0 : Hid (WrS (w.alloc (.cells (nodeCells n).toArray 51)).drew r A T c id ov rows bad) := Lib.hid ((h.keep hb0).drewN 1)
  have HK0 : Hid (Kept (fun b => b = r) w (w.alloc (.cells (nodeCells n).toArray 51)).drew) := Lib.hid (((Kept.refl _ w).alloc _).drew)
  have HBN := Lib.hid (Blk.new w 51 (nodeCells n).toArray)
  have x0 : (w.alloc (.cells (nodeCells n).toArray 51)).cell? ⟨r, 0, none⟩ = some (.slice A T.length c) := (h.keep hb0).blk.cell 0
  have KF := Lib.hid (tfind_ok c n hwn HS0.out.tab)
  have HI : Hid (T.idxOf n ≤ 1000000) := Lib.hid (by have := List.idxOf_lt_length_of_mem hn; omega)
  have HN := Lib.hid hn
  clear h hwn hb0 hn
  simp only [nodeVal, nodeCells] at HS0 HK0 HBN x0 KF ⊢
  have HSZ : Hid ((w.alloc (.cells #[.int .i8 n.op, .int .i8 n.len, .int .i64 n.a0, .int .i64 n.a1, .int .i64 n.a2, .int .i64 n.sort, .int .i64 n.fn, .int .i64 n.num] 51)).heap.size = w.heap.size + 1) := Lib.hid (by simp)
  generalize hw0 : (w.alloc (.cells #[.int .i8 n.op, .int .i8 n.len, .int .i64 n.a0, .int .i64 n.a1, .int .i64 n.a2, .int .i64 n.sort, .int .i64 n.fn, .int .i64 n.num] 51)) = w0 at HS0 HK0 HBN x0 KF HSZ
  have n0 := HBN.out.cell 0
  have n1 := HBN.out.cell 1
  have n2 := HBN.out.cell 2
  have n3 := HBN.out.cell 3
  have n4 := HBN.out.cell 4
  have n5 := HBN.out.cell 5
  have n6 := HBN.out.cell 6
  have n7 := HBN.out.cell 7
  simp only [List.getElem?_toArray, List.getElem?_cons_zero, List.getElem?_cons_succ] at n0 n1 n2 n3 n4 n5 n6 n7
  have HGL : Hid (w.heap.size < w0.heap.size) := Lib.hid (by rw [HSZ.out]; omega)
  obtain ⟨k, hk⟩ : ∃ k, T.idxOf n = k := ⟨_, rfl⟩
  have HK := Lib.hid hk
  rw [hk] at HI
  have KM := Lib.hid (fun W => atom_ok (k : Int) ⟨by omega, by have := HI.out; omega⟩ W)
  clear hk
  go_enter Tryz.func160, Tryz.ntmps160
  go_upto_region 1 with (fail)
  clear hw0
  go_region_held3 (fun w' => w'.cell? ⟨r, 0, none⟩ = some (.slice A T.length c) ∧ w'.cell? ⟨w.heap.size, 0, none⟩ = some (.int .i8 n.op) ∧ w'.cell? ⟨w.heap.size, 1, none⟩ = some (.int .i8 n.len) ∧ w'.cell? ⟨w.heap.size, 2, none⟩ = some (.int .i64 n.a0) ∧ w'.cell? ⟨w.heap.size, 3, none⟩ = some (.int .i64 n.a1) ∧ w'.cell? ⟨w.heap.size, 4, none⟩ = some (.int .i64 n.a2) ∧ w'.cell? ⟨w.heap.size, 5, none⟩ = some (.int .i64 n.sort) ∧ w'.cell? ⟨w.heap.size, 6, none⟩ = some (.int .i64 n.fn) ∧ w'.cell? ⟨w.heap.size, 7, none⟩ = some (.int .i64 n.num)) (first | exact ⟨p0, m0, m1, m2, m3, m4, m5, m6, m7⟩ | exact ⟨x0, n0, n1, n2, n3, n4, n5, n6, n7⟩ | go_keep)
    ((go_at_call 178; (with_reducible refine KF.out.mono ?_); rintro e w1 ⟨i, rr, rfl, hr, hi, hni, hb⟩; obtain rfl := hi HN.out; obtain rfl := hr.2 HN.out; rw [HK.out]; have h1 := HS0.out.keep hb; have hB := HBN.out.drew.below hb HGL.out; have p0 : w1.cell? ⟨r, 0, none⟩ = some (.slice A T.length c) := h1.blk.cell 0; have m0 := hB.cell 0; have m1 := hB.cell 1; have m2 := hB.cell 2; have m3 := hB.cell 3; have m4 := hB.cell 4; have m5 := hB.cell 5; have m6 := hB.cell 6; have m7 := hB.cell 7; simp only [List.getElem?_toArray, List.getElem?_cons_zero, List.getElem?_cons_succ] at m0 m1 m2 m3 m4 m5 m6 m7; have H1 := Lib.hid h1; have K1 : Hid (Kept (fun b => b = r) w w1) := Lib.hid (HK0.out.trans (Kept.of_below hb)); clear hr hi hni hb h1 hB))
  have x3 : w1.cell? ⟨r, 3, none⟩ = some (.bool bad) := H1.out.blk.cell 3
  have f3 := H1.out.blk.frozen 3
  clear x0 n0 n1 n2 n3 n4 n5 n6 n7 p0 m0 m1 m2 m3 m4 m5 m6 m7
  have HL : Hid (litT T n = 2 * (k : Int)) := Lib.hid (by unfold litT; rw [HK.out])
  cases bad with
  | false =>
    go_wp2_with fail
    refine (KM.out _).mono ?_
    rintro e w2 ⟨rfl, rfl⟩
    go_wp2
    have hp := H1.out.setb false
    refine bodyPost_ret (v := .int .i64 (2 * (k : Int))) (by simp [results, Tryz.results160, go_sem]) rfl ?_
    rw [HL.out]
    exact ⟨rfl, hp.1, K1.out.trans (Kept.set1 _ r 3 _)⟩
  | true =>
    go_wp2_with fail
    refine (KM.out _).mono ?_
    rintro e w2 ⟨rfl, rfl⟩
    go_wp2
    have hp := H1.out.setb true
    refine bodyPost_ret (v := .int .i64 (2 * (k : Int))) (by simp [results, Tryz.results160, go_sem]) rfl ?_
    rw [HL.out]
    exact ⟨rfl, hp.1, K1.out.trans (Kept.set1 _ r 3 _)⟩
set_option maxRecDepth 100000 in
set_option maxHeartbeats 2000000 in
theorem wdiff_ok {w : World} {r c id : Nat} {A : Option Addr} {T : List Nd} {ov : Value} {rows : List (Option Addr × Nat × List Int)} {bad : Bool} (hc : T.length ≤ c) (h : WrS w r A T c id ov rows bad) (ho : ordB T = true) (a b x y d : Int) (ha : 0 ≤ a ∧ a ≤ 1000000) (hb : 0 ≤ b ∧ b ≤ 1000000) (hd : diffT T a b 0 = ⟨x, y, d, 0⟩) (hxy : x ≠ y) (hwn : NdWf (diffNd x y d)) (hn : diffNd x y d ∈ T) :
    Calls Tryz.prog 131 #[.pointer (some ⟨r, 0, none⟩), .int .i64 a, .int .i64 b] w fun e w' => e = .returned (.int .i64 (litT T (diffNd x y d))) ∧ WrS w' r A T c id ov rows bad ∧ Kept (fun b => b = r) w w' := by
  have KD := Lib.hid (diff_ok c a b 0 (by omega) (by omega) hc h.tab (fun _ => ho))
  rw [hd] at KD
  have KA := Lib.hid (fun (W : World) (hW : Below w.heap.size w W) => wat_ok (h.keep hW) (diffNd x y d) hwn hn)
  have x0 : w.cell? ⟨r, 0, none⟩ = some (.slice A T.length c) := h.blk.cell 0
  have d1 : (x == y) = false := by simp [hxy]
  simp only [nodeVal, nodeCells, diffNd] at KA ⊢
  generalize litT T ⟨12, 2, x, y, 0, 0, 0, d⟩ = l at *
  clear hc h ho ha hb hd hwn hn hxy
  go_enter Tryz.func131, Tryz.ntmps131
  go_wp2_with fail
  refine KD.out.mono ?_
  rintro e w1 ⟨rfl, hb⟩
  have HB := Lib.hid hb
  clear hb x0
  dsimp only
  go_wp2_with fail
  refine (KA.out w1 HB.out).mono ?_
  rintro e w2 ⟨rfl, h2, k2⟩
  have H2 := Lib.hid h2
  have K2 := Lib.hid k2
  clear h2 k2
  go_wp2
  refine bodyPost_ret (v := .int .i64 l) (by simp [results, Tryz.results131, go_sem]) rfl ?_
  exact ⟨rfl, H2.out, (Kept.of_below HB.out).trans K2.out⟩
set_option maxRecDepth 100000 in
set_option maxHeartbeats 2000000 in
theorem wsame_ok {w : World} {r c id : Nat} {A : Option Addr} {T : List Nd} {ov : Value} {rows : List (Option Addr × Nat × List Int)} {bad : Bool} (h : WrS w r A T c id ov rows bad) (a b : Int) (hwn : NdWf (eqNd (min a b) (max a b))) (hn : eqNd (min a b) (max a b) ∈ T) :
    Calls Tryz.prog 132 #[.pointer (some ⟨r, 0, none⟩), .int .i64 a, .int .i64 b] w fun e w' => e = .returned (.int .i64 (sameP T a b)) ∧ WrS w' r A T c id ov rows bad ∧ Kept (fun b => b = r) w w' := by
  have KA := Lib.hid (wat_ok h (eqNd (min a b) (max a b)) hwn hn)
  unfold sameP
  simp only [nodeVal, nodeCells, eqNd] at KA ⊢
  generalize litT T ⟨6, 2, min a b, max a b, 0, 0, 0, 0⟩ = l at *
  clear h hwn hn
  go_enter Tryz.func132, Tryz.ntmps132
  go_wp2_with fail
  refine KA.out.mono ?_
  rintro e w2 ⟨rfl, h2, k2⟩
  have H2 := Lib.hid h2
  have K2 := Lib.hid k2
  clear h2 k2
  go_wp2
  refine bodyPost_ret (v := .int .i64 l) (by simp [results, Tryz.results132, go_sem]) rfl ?_
  exact ⟨rfl, H2.out, K2.out⟩
set_option maxRecDepth 100000 in
set_option maxHeartbeats 4000000 in
theorem wite0_ok {w : World} {r c k : Nat} {A : Option Addr} {T : List Nd} {ov : Value} {rows : List (Option Addr × Nat × List Int)} {bad : Bool} (hc : T.length ≤ c) (h : WrS w r A T c k ov rows bad) (hr9 : rows.length ≤ 890) (hw : Well T) (hT : T.length ≤ 1000000) (hk : k < T.length) {a b c2 : Nat} (ha : (ndAt T k).a0 = a) (hb : (ndAt T k).a1 = b) (hc2 : (ndAt T k).a2 = c2) (ha1 : a < T.length) (hb1 : b < T.length) (hc1 : c2 < T.length) (hs : (ndAt T k).sort = 0) (hsa : (ndAt T a).sort = 0) (hsb : (ndAt T b).sort = 0) (hsc : (ndAt T c2).sort = 0) :
    Calls Tryz.prog 83 #[.pointer (some ⟨r, 0, none⟩)] w fun e w' => e = .returned (.tuple #[]) ∧ WrP r c k A T rows bad w w' [[negL (litP T k), negL (litP T a), (litP T b)], [negL (litP T k), (litP T a), (litP T c2)], [(litP T k), negL (litP T a), negL (litP T b)], [(litP T k), (litP T a), negL (litP T c2)]] := by
  have HL := Lib.hid (fun (W : World) (h : WrS W r A T c k ov rows bad) => wlit_ok hc h hw a ha1 hsa)
  have HLk := Lib.hid (fun (W : World) (h : WrS W r A T c k ov rows bad) => wlit_ok hc h hw k hk hs)
  have HLb := Lib.hid (fun (W : World) (h : WrS W r A T c k ov rows bad) => wlit_ok hc h hw b hb1 hsb)
  have HLc := Lib.hid (fun (W : World) (h : WrS W r A T c k ov rows bad) => wlit_ok hc h hw c2 hc1 hsc)
  have HT := Lib.hid (litP_small hw hT k hk hs)
  have HX2 := Lib.hid (litP_small hw hT a ha1 hsa)
  have HY := Lib.hid (litP_small hw hT b hb1 hsb)
  have HZ := Lib.hid (litP_small hw hT c2 hc1 hsc)
  have x0 : w.cell? ⟨r, 0, none⟩ = some (.slice A T.length c) := h.blk.cell 0
  have x1 : w.cell? ⟨r, 1, none⟩ = some (.int .i64 k) := h.blk.cell 1
  have HRl := Lib.hid h.blk.lt
  have H := Lib.hid h
  have t1 : (0 : Int) ≤ (k : Int) := by omega
  have t2 : (k : Int) < (T.length : Int) := by omega
  obtain ⟨bk, off, hA, hbb, hcell⟩ := h.tab.at_.resolve_left (by omega)
  have hm := hcell k hk
  rw [ndAt_nat hk] at ha hb hc2 hs
  obtain ⟨y0, y1, y2, y3, y4, y5, y6, y7⟩ := hm.all
  subst hA
  clear hcell hm h hc hw hsa hsb hsc ha1 hb1 hc1 hT
  generalize T[k] = m at *
  rw [ha] at y2
  rw [hb] at y3
  rw [hc2] at y4
  rw [hs] at y5
  clear ha hb hc2 hs hk
  generalize litP T k = tt at *
  generalize litP T a = xx at *
  generalize litP T b = yy at *
  generalize litP T c2 = zz at *
  go_enter Tryz.func83, Tryz.ntmps83
  have hrl := HRl.out
  go_upto_region 0 with (fail)
  go_region_held3 (fun w' => w'.cell? ⟨r, 0, none⟩ = some (.slice (some ⟨bk, off, none⟩) T.length c) ∧ w'.cell? ⟨r, 1, none⟩ = some (.int .i64 k) ∧ w'.cell? ⟨bk, off + k * 8, none⟩ = some (.int .i8 m.op) ∧ w'.cell? ⟨bk, off + k * 8 + 1, none⟩ = some (.int .i8 m.len) ∧ w'.cell? ⟨bk, off + k * 8 + 2, none⟩ = some (.int .i64 a) ∧ w'.cell? ⟨bk, off + k * 8 + 3, none⟩ = some (.int .i64 b) ∧ w'.cell? ⟨bk, off + k * 8 + 4, none⟩ = some (.int .i64 c2) ∧ w'.cell? ⟨bk, off + k * 8 + 5, none⟩ = some (.int .i64 0) ∧ w'.cell? ⟨bk, off + k * 8 + 6, none⟩ = some (.int .i64 m.fn) ∧ w'.cell? ⟨bk, off + k * 8 + 7, none⟩ = some (.int .i64 m.num)) (go_keep) ((fail))
  go_upto_region 1 with (fail)
  have hbx := Blk.new w 51 #[Value.int .i8 m.op, Value.int .i8 m.len, Value.int .i64 a, Value.int .i64 b, Value.int .i64 c2, Value.int .i64 0, Value.int .i64 m.fn, Value.int .i64 m.num]
  have hkx : Kept (fun _ => False) w (w.alloc (.cells #[Value.int .i8 m.op, Value.int .i8 m.len, Value.int .i64 a, Value.int .i64 b, Value.int .i64 c2, Value.int .i64 0, Value.int .i64 m.fn, Value.int .i64 m.num] 51)).drew := ((Kept.refl _ w).alloc _).drew
  have n2 := hbx.drew.cell 2
  have n3 := hbx.drew.cell 3
  have n4 := hbx.drew.cell 4
  simp only [List.getElem?_toArray, List.getElem?_cons_zero, List.getElem?_cons_succ] at n2 n3 n4
  have hbx2 := hbx.drew
  clear hbx
  generalize (w.alloc (.cells #[Value.int .i8 m.op, Value.int .i8 m.len, Value.int .i64 a, Value.int .i64 b, Value.int .i64 c2, Value.int .i64 0, Value.int .i64 m.fn, Value.int .i64 m.num] 51)).drew = wx at *
  have HBX : Hid (Blk wx.drew w.heap.size 51 #[Value.int .i8 m.op, Value.int .i8 m.len, Value.int .i64 a, Value.int .i64 b, Value.int .i64 c2, Value.int .i64 0, Value.int .i64 m.fn, Value.int .i64 m.num]) := Lib.hid hbx2.drew
  have HNR : Hid (¬ (w.heap.size = r)) := Lib.hid (by omega)
  clear hbx2
  have HKX := Lib.hid hkx
  have HX := Lib.hid (H.out.keep (hkx.below (Nat.le_refl _) (fun _ h => h.elim)))
  have HXd : Hid (WrS wx.drew r (some ⟨bk, off, none⟩) T c k ov rows bad) := Lib.hid (HX.out.keep ⟨rfl, rfl, rfl, Nat.le_refl _, fun _ _ => rfl⟩)
  clear hkx x0 x1 y0 y1 y2 y3 y4 y5 y6 y7
  go_region_held3 (fun w' => w'.cell? ⟨w.heap.size, 2, none⟩ = some (.int .i64 a) ∧ w'.cell? ⟨w.heap.size, 3, none⟩ = some (.int .i64 b) ∧ w'.cell? ⟨w.heap.size, 4, none⟩ = some (.int .i64 c2)) (first | exact ⟨p2, p3, p4⟩ | exact ⟨n2, n3, n4⟩ | go_keep)
    ((go_at_call 130; (with_reducible refine (HL.out wx.drew HXd.out).mono ?_); rintro e w1 ⟨rfl, h1, k1⟩; have H1 := Lib.hid h1; have K1 := Lib.hid k1; have hB1 := HBX.out.kept k1 HNR.out; have B1 := Lib.hid hB1; have p2 : w1.cell? ⟨w.heap.size, 2, none⟩ = some (.int .i64 a) := hB1.cell 2; have p3 : w1.cell? ⟨w.heap.size, 3, none⟩ = some (.int .i64 b) := hB1.cell 3; have p4 : w1.cell? ⟨w.heap.size, 4, none⟩ = some (.int .i64 c2) := hB1.cell 4; clear h1 k1 hB1))
  have p5 : w1.cell? ⟨w.heap.size, 5, none⟩ = some (.int .i64 0) := B1.out.cell 5
  have p1 : w1.cell? ⟨r, 1, none⟩ = some (.int .i64 k) := H1.out.blk.cell 1
  have K01 : Hid (Kept (fun b => b = r) w w1) := Lib.hid ((HKX.out.mono (fun _ _ h => h.elim)).drew.trans K1.out)
  go_wp2_with fail
  refine (HLk.out w1 H1.out).mono ?_
  rintro e w2 ⟨rfl, h2, k2⟩
  have H2 := Lib.hid h2
  have K02 := Lib.hid (K01.out.trans k2)
  clear h2 k2
  go_wp2_with fail
  refine (HLb.out w2 H2.out).mono ?_
  rintro e w3 ⟨rfl, h3, k3⟩
  have H3 := Lib.hid h3
  have K03 := Lib.hid (K02.out.trans k3)
  clear h3 k3
  go_wp2_with fail
  refine (HLc.out w3 H3.out).mono ?_
  rintro e w4 ⟨rfl, h4, k4⟩
  have P0 := Lib.hid (WrP.start (w := w) h4 ((K03.out.trans k4).below (Nat.le_of_lt HRl.out) (fun _ h => Nat.le_of_eq h.symm)))
  clear h4 k4
  go_wp2_with fail
  refine (wnegL_ok HT.out.1 HT.out.2.1 _).mono ?_
  rintro e w' ⟨rfl, rfl⟩
  go_wp2_with fail
  refine (wnegL_ok HX2.out.1 HX2.out.2.1 _).mono ?_
  rintro e w' ⟨rfl, rfl⟩
  go_wp2_with fail
  refine (wput3_ok P0.out (by simp; omega) (negL tt) (negL xx) (yy) HT.out.2.2 HX2.out.2.2 HY.out.1).mono ?_
  rintro e v1 ⟨rfl, h1⟩
  have P1 := Lib.hid h1
  clear h1
  go_wp2_with fail
  refine (wnegL_ok HT.out.1 HT.out.2.1 _).mono ?_
  rintro e w' ⟨rfl, rfl⟩
  go_wp2_with fail
  refine (wput3_ok P1.out (by simp; omega) (negL tt) (xx) (zz) HT.out.2.2 HX2.out.1 HZ.out.1).mono ?_
  rintro e v2 ⟨rfl, h2⟩
  have P2 := Lib.hid h2
  clear h2
  go_wp2_with fail
  refine (wnegL_ok HX2.out.1 HX2.out.2.1 _).mono ?_
  rintro e w' ⟨rfl, rfl⟩
  go_wp2_with fail
  refine (wnegL_ok HY.out.1 HY.out.2.1 _).mono ?_
  rintro e w' ⟨rfl, rfl⟩
  go_wp2_with fail
  refine (wput3_ok P2.out (by simp; omega) (tt) (negL xx) (negL yy) HT.out.1 HX2.out.2.2 HY.out.2.2).mono ?_
  rintro e v3 ⟨rfl, h3⟩
  have P3 := Lib.hid h3
  clear h3
  go_wp2_with fail
  refine (wnegL_ok HZ.out.1 HZ.out.2.1 _).mono ?_
  rintro e w' ⟨rfl, rfl⟩
  go_wp2_with fail
  refine (wput3_ok P3.out (by simp; omega) (tt) (xx) (negL zz) HT.out.1 HX2.out.1 HZ.out.2.2).mono ?_
  rintro e v4 ⟨rfl, h4⟩
  have P4 := Lib.hid h4
  clear h4
  go_wp2
  exact bodyPost_end (results_none rfl _ _ _) rfl ⟨rfl, P4.out⟩
end Go.Proofs.YtlipnnibagidiaaGreat

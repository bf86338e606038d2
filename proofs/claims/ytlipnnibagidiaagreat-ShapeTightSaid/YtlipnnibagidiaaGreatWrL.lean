/- shape.writer: ite of other sorts. -/
import Derived.Test.YtlipnnibagidiaaGreatWrK
namespace Go.Proofs.YtlipnnibagidiaaGreat
open Go.RowKit Go.Lib
def DifW (f r c k : Nat) (A : Option Addr) (T : List Nd) (bad : Bool) (p q l : Int) : Prop :=
  ∀ (W : World) (ov : Value) (rows : List (Option Addr × Nat × List Int)), WrS W r A T c k ov rows bad → Calls Tryz.prog f #[.pointer (some ⟨r, 0, none⟩), .int .i64 p, .int .i64 q] W fun e w' => e = .returned (.int .i64 l) ∧ WrS w' r A T c k ov rows bad ∧ Kept (fun b => b = r) W w'
theorem WrP.dif {f r c k : Nat} {A : Option Addr} {T : List Nd} {rows : List (Option Addr × Nat × List Int)} {bad : Bool} {w w1 : World} {cs : List (List Int)} {p q l : Int} (hd : DifW f r c k A T bad p q l) (h : WrP r c k A T rows bad w w1 cs) : Calls Tryz.prog f #[.pointer (some ⟨r, 0, none⟩), .int .i64 p, .int .i64 q] w1 fun e w' => e = .returned (.int .i64 l) ∧ WrP r c k A T rows bad w w' cs := by
  obtain ⟨ov, ps, hw, hp, hb⟩ := h
  refine (hd _ _ _ hw).mono ?_
  rintro e w' ⟨rfl, h', k'⟩
  exact ⟨rfl, ov, ps, h', hp, hb.trans (k'.below (Nat.le_of_lt hw.blk.lt) (fun _ h => Nat.le_of_eq h.symm))⟩
theorem WrP.cell1 {r c k : Nat} {A : Option Addr} {T : List Nd} {rows : List (Option Addr × Nat × List Int)} {bad : Bool} {w w1 : World} {cs : List (List Int)} (h : WrP r c k A T rows bad w w1 cs) : w1.cell? ⟨r, 1, none⟩ = some (.int .i64 k) ∧ r < w1.heap.size := by
  obtain ⟨ov, ps, hw, hp, hb⟩ := h
  exact ⟨hw.blk.cell 1, hw.blk.lt⟩
theorem WrP.drew {r c k : Nat} {A : Option Addr} {T : List Nd} {rows : List (Option Addr × Nat × List Int)} {bad : Bool} {w w1 : World} {cs : List (List Int)} (h : WrP r c k A T rows bad w w1 cs) : WrP r c k A T rows bad w w1.drew cs := by
  obtain ⟨ov, ps, hw, hp, hb⟩ := h
  exact ⟨ov, ps, hw.drewN 1, hp, below_drewN hb 1⟩
set_option maxRecDepth 100000 in
set_option maxHeartbeats 4000000 in
theorem wite1_ok {w : World} {r c k : Nat} {A : Option Addr} {T : List Nd} {ov : Value} {rows : List (Option Addr × Nat × List Int)} {bad : Bool} (hc : T.length ≤ c) (h : WrS w r A T c k ov rows bad) (hr9 : rows.length ≤ 890) (hw : Well T) (hT : T.length ≤ 1000000) (hk : k < T.length) {a b c2 : Nat} (ha : (ndAt T k).a0 = a) (hb : (ndAt T k).a1 = b) (hc2 : (ndAt T k).a2 = c2) (ha1 : a < T.length) (hsa : (ndAt T a).sort = 0) (hs : (ndAt T k).sort = 1) {l0 : Int} (hd0 : DifW 131 r c k A T bad k b l0) (hl0 : 0 ≤ l0) {l1 : Int} (hd1 : DifW 131 r c k A T bad b k l1) (hl1 : 0 ≤ l1) {l2 : Int} (hd2 : DifW 131 r c k A T bad k c2 l2) (hl2 : 0 ≤ l2) {l3 : Int} (hd3 : DifW 131 r c k A T bad c2 k l3) (hl3 : 0 ≤ l3) :
    Calls Tryz.prog 83 #[.pointer (some ⟨r, 0, none⟩)] w fun e w' => e = .returned (.tuple #[]) ∧ WrP r c k A T rows bad w w' [[negL (litP T a), l0], [negL (litP T a), l1], [(litP T a), l2], [(litP T a), l3]] := by
  have HL := Lib.hid (fun (W : World) (h : WrS W r A T c k ov rows bad) => wlit_ok hc h hw a ha1 hsa)
  have HX2 := Lib.hid (litP_small hw hT a ha1 hsa)
  have x0 : w.cell? ⟨r, 0, none⟩ = some (.slice A T.length c) := h.blk.cell 0
  have x1 : w.cell? ⟨r, 1, none⟩ = some (.int .i64 k) := h.blk.cell 1
  have HRl := Lib.hid h.blk.lt
  have H := Lib.hid h
  have t1 : (0 : Int) ≤ (k : Int) := by omega
  have t2 : (k : Int) < (T.length : Int) := by omega
  obtain ⟨bk, off, hA, hbb, hcell⟩ := h.tab.at_.resolve_left (by omega)
  have hm := hcell k hk
  rw [ndAt_nat hk] at ha hb hc2 hs
  obtain ⟨y0, y1, y2, y3, y4, y5, y6, y7⟩ := hm.all
  subst hA
  clear hcell hm h hc hw hsa ha1 hT
  generalize T[k] = m at *
  rw [ha] at y2
  rw [hb] at y3
  rw [hc2] at y4
  rw [hs] at y5
  clear ha hb hc2 hs hk
  generalize litP T a = xx at *
  have HD0 := Lib.hid hd0
  have KP0 := Lib.hid (fun (W : World) (h : WrP r c k (some ⟨bk, off, none⟩) T rows bad w W ([])) => wput2_ok h (by simp; omega) (negL xx) l0 HX2.out.2.2 hl0)
  have HD1 := Lib.hid hd1
  have KP1 := Lib.hid (fun (W : World) (h : WrP r c k (some ⟨bk, off, none⟩) T rows bad w W ([] ++ [[negL xx, l0]])) => wput2_ok h (by simp; omega) (negL xx) l1 HX2.out.2.2 hl1)
  have HD2 := Lib.hid hd2
  have KP2 := Lib.hid (fun (W : World) (h : WrP r c k (some ⟨bk, off, none⟩) T rows bad w W ([] ++ [[negL xx, l0]] ++ [[negL xx, l1]])) => wput2_ok h (by simp; omega) xx l2 HX2.out.1 hl2)
  have HD3 := Lib.hid hd3
  have KP3 := Lib.hid (fun (W : World) (h : WrP r c k (some ⟨bk, off, none⟩) T rows bad w W ([] ++ [[negL xx, l0]] ++ [[negL xx, l1]] ++ [[xx, l2]])) => wput2_ok h (by simp; omega) xx l3 HX2.out.1 hl3)
  clear hd0 hl0 hd1 hl1 hd2 hl2 hd3 hl3
  go_enter Tryz.func83, Tryz.ntmps83
  have hrl := HRl.out
  go_upto_region 0 with (fail)
  go_region_held3 (fun w' => w'.cell? ⟨r, 0, none⟩ = some (.slice (some ⟨bk, off, none⟩) T.length c) ∧ w'.cell? ⟨r, 1, none⟩ = some (.int .i64 k) ∧ w'.cell? ⟨bk, off + k * 8, none⟩ = some (.int .i8 m.op) ∧ w'.cell? ⟨bk, off + k * 8 + 1, none⟩ = some (.int .i8 m.len) ∧ w'.cell? ⟨bk, off + k * 8 + 2, none⟩ = some (.int .i64 a) ∧ w'.cell? ⟨bk, off + k * 8 + 3, none⟩ = some (.int .i64 b) ∧ w'.cell? ⟨bk, off + k * 8 + 4, none⟩ = some (.int .i64 c2) ∧ w'.cell? ⟨bk, off + k * 8 + 5, none⟩ = some (.int .i64 1) ∧ w'.cell? ⟨bk, off + k * 8 + 6, none⟩ = some (.int .i64 m.fn) ∧ w'.cell? ⟨bk, off + k * 8 + 7, none⟩ = some (.int .i64 m.num)) (go_keep) ((fail))
  go_upto_region 1 with (fail)
  have hbx := Blk.new w 51 #[Value.int .i8 m.op, Value.int .i8 m.len, Value.int .i64 a, Value.int .i64 b, Value.int .i64 c2, Value.int .i64 1, Value.int .i64 m.fn, Value.int .i64 m.num]
  have hkx : Kept (fun _ => False) w (w.alloc (.cells #[Value.int .i8 m.op, Value.int .i8 m.len, Value.int .i64 a, Value.int .i64 b, Value.int .i64 c2, Value.int .i64 1, Value.int .i64 m.fn, Value.int .i64 m.num] 51)).drew := ((Kept.refl _ w).alloc _).drew
  have n2 := hbx.drew.cell 2
  have n3 := hbx.drew.cell 3
  have n4 := hbx.drew.cell 4
  simp only [List.getElem?_toArray, List.getElem?_cons_zero, List.getElem?_cons_succ] at n2 n3 n4
  have hbx2 := hbx.drew
  clear hbx
  generalize (w.alloc (.cells #[Value.int .i8 m.op, Value.int .i8 m.len, Value.int .i64 a, Value.int .i64 b, Value.int .i64 c2, Value.int .i64 1, Value.int .i64 m.fn, Value.int .i64 m.num] 51)).drew = wx at *
  have HBX : Hid (Blk wx.drew w.heap.size 51 #[Value.int .i8 m.op, Value.int .i8 m.len, Value.int .i64 a, Value.int .i64 b, Value.int .i64 c2, Value.int .i64 1, Value.int .i64 m.fn, Value.int .i64 m.num]) := Lib.hid hbx2.drew
  have HNR : Hid (¬ (w.heap.size = r)) := Lib.hid (by omega)
  clear hbx2
  have HKX := Lib.hid hkx
  have HX := Lib.hid (H.out.keep (hkx.below (Nat.le_refl _) (fun _ h => h.elim)))
  have HXd : Hid (WrS wx.drew r (some ⟨bk, off, none⟩) T c k ov rows bad) := Lib.hid (HX.out.keep ⟨rfl, rfl, rfl, Nat.le_refl _, fun _ _ => rfl⟩)
  clear hkx x0 x1 y0 y1 y2 y3 y4 y5 y6 y7
  go_region_held3 (fun w' => w'.cell? ⟨w.heap.size, 2, none⟩ = some (.int .i64 a) ∧ w'.cell? ⟨w.heap.size, 3, none⟩ = some (.int .i64 b) ∧ w'.cell? ⟨w.heap.size, 4, none⟩ = some (.int .i64 c2)) (first | exact ⟨p2, p3, p4⟩ | exact ⟨n2, n3, n4⟩ | go_keep)
    ((go_at_call 130; (with_reducible refine (HL.out wx.drew HXd.out).mono ?_); rintro e w1 ⟨rfl, h1, k1⟩; have H1 := Lib.hid h1; have K1 := Lib.hid k1; have hB1 := HBX.out.kept k1 HNR.out; have B1 := Lib.hid hB1; have p2 : w1.cell? ⟨w.heap.size, 2, none⟩ = some (.int .i64 a) := hB1.cell 2; have p3 : w1.cell? ⟨w.heap.size, 3, none⟩ = some (.int .i64 b) := hB1.cell 3; have p4 : w1.cell? ⟨w.heap.size, 4, none⟩ = some (.int .i64 c2) := hB1.cell 4; clear h1 k1 hB1))
  have p5 : w1.cell? ⟨w.heap.size, 5, none⟩ = some (.int .i64 1) := B1.out.cell 5
  have p1 : w1.cell? ⟨r, 1, none⟩ = some (.int .i64 k) := H1.out.blk.cell 1
  have K01 : Hid (Kept (fun b => b = r) w w1) := Lib.hid ((HKX.out.mono (fun _ _ h => h.elim)).drew.trans K1.out)
  have P0 := Lib.hid (WrP.start (w := w) H1.out (K01.out.below (Nat.le_of_lt HRl.out) (fun _ h => Nat.le_of_eq h.symm)))
  have P0d := Lib.hid P0.out.drew
  have hr0 := P0.out.cell1.2
  go_upto_region 12 with (fail)
  go_region_held3 (fun w' => w'.cell? ⟨r, 1, none⟩ = some (.int .i64 k)) (first | exact u1 | go_keep) (first
    | (go_at_call 129; refine (wnegL_ok HX2.out.1 HX2.out.2.1 _).mono ?_; rintro e w' ⟨rfl, rfl⟩)
    | (go_at_call 131; refine (WrP.dif HD0.out P0d.out).mono ?_; rintro e q0 ⟨rfl, hq⟩; have Q0 := Lib.hid hq; have s0 := hq.cell1.1; have sl0 := hq.cell1.2; clear hq)
    | (go_at_call 126; refine (KP0.out _ Q0.out).mono ?_; rintro e v1 ⟨rfl, hv⟩; have P1 := Lib.hid hv; have u1 := hv.cell1.1; have hr1 := hv.cell1.2; clear hv))
  have P1d := Lib.hid P1.out.drew
  go_upto_region 13 with (fail)
  go_region_held3 (fun w' => w'.cell? ⟨r, 1, none⟩ = some (.int .i64 k)) (first | exact u2 | go_keep) (first
    | (go_at_call 129; refine (wnegL_ok HX2.out.1 HX2.out.2.1 _).mono ?_; rintro e w' ⟨rfl, rfl⟩)
    | (go_at_call 131; refine (WrP.dif HD1.out P1d.out).mono ?_; rintro e q1 ⟨rfl, hq⟩; have Q1 := Lib.hid hq; have s1 := hq.cell1.1; have sl1 := hq.cell1.2; clear hq)
    | (go_at_call 126; refine (KP1.out _ Q1.out).mono ?_; rintro e v2 ⟨rfl, hv⟩; have P2 := Lib.hid hv; have u2 := hv.cell1.1; have hr2 := hv.cell1.2; clear hv))
  have P2d := Lib.hid P2.out.drew
  go_wp2_with fail
  refine (WrP.dif HD2.out P2.out).mono ?_
  rintro e q2 ⟨rfl, hq⟩
  have Q2 := Lib.hid hq
  clear hq
  go_wp2_with fail
  refine (KP2.out _ Q2.out).mono ?_
  rintro e v3 ⟨rfl, hv⟩
  have P3 := Lib.hid hv
  have u3 := hv.cell1.1
  clear hv
  go_wp2_with fail
  refine (WrP.dif HD3.out P3.out).mono ?_
  rintro e q3 ⟨rfl, hq⟩
  have Q3 := Lib.hid hq
  clear hq
  go_wp2_with fail
  refine (KP3.out _ Q3.out).mono ?_
  rintro e v4 ⟨rfl, hv⟩
  have P4 := Lib.hid hv
  have u4 := hv.cell1.1
  clear hv
  go_wp2
  exact bodyPost_end (results_none rfl _ _ _) rfl ⟨rfl, P4.out⟩
set_option maxRecDepth 100000 in
set_option maxHeartbeats 4000000 in
theorem wite2_ok {w : World} {r c k : Nat} {A : Option Addr} {T : List Nd} {ov : Value} {rows : List (Option Addr × Nat × List Int)} {bad : Bool} (hc : T.length ≤ c) (h : WrS w r A T c k ov rows bad) (hr9 : rows.length ≤ 890) (hw : Well T) (hT : T.length ≤ 1000000) (hk : k < T.length) {a b c2 : Nat} (ha : (ndAt T k).a0 = a) (hb : (ndAt T k).a1 = b) (hc2 : (ndAt T k).a2 = c2) (ha1 : a < T.length) (hsa : (ndAt T a).sort = 0) {sv : Int} (hs : (ndAt T k).sort = sv) (hs0 : sv ≠ 0) (hs1 : sv ≠ 1) {l0 : Int} (hd0 : DifW 132 r c k A T bad k b l0) (hl0 : 0 ≤ l0) {l1 : Int} (hd1 : DifW 132 r c k A T bad k c2 l1) (hl1 : 0 ≤ l1) :
    Calls Tryz.prog 83 #[.pointer (some ⟨r, 0, none⟩)] w fun e w' => e = .returned (.tuple #[]) ∧ WrP r c k A T rows bad w w' [[negL (litP T a), l0], [(litP T a), l1]] := by
  have HL := Lib.hid (fun (W : World) (h : WrS W r A T c k ov rows bad) => wlit_ok hc h hw a ha1 hsa)
  have HX2 := Lib.hid (litP_small hw hT a ha1 hsa)
  have x0 : w.cell? ⟨r, 0, none⟩ = some (.slice A T.length c) := h.blk.cell 0
  have x1 : w.cell? ⟨r, 1, none⟩ = some (.int .i64 k) := h.blk.cell 1
  have HRl := Lib.hid h.blk.lt
  have H := Lib.hid h
  have t1 : (0 : Int) ≤ (k : Int) := by omega
  have t2 : (k : Int) < (T.length : Int) := by omega
  obtain ⟨bk, off, hA, hbb, hcell⟩ := h.tab.at_.resolve_left (by omega)
  have hm := hcell k hk
  rw [ndAt_nat hk] at ha hb hc2 hs
  obtain ⟨y0, y1, y2, y3, y4, y5, y6, y7⟩ := hm.all
  subst hA
  clear hcell hm h hc hw hsa ha1 hT
  generalize T[k] = m at *
  rw [ha] at y2
  rw [hb] at y3
  rw [hc2] at y4
  rw [hs] at y5
  clear ha hb hc2 hs hk
  generalize litP T a = xx at *
  have HD0 := Lib.hid hd0
  have KP0 := Lib.hid (fun (W : World) (h : WrP r c k (some ⟨bk, off, none⟩) T rows bad w W ([])) => wput2_ok h (by simp; omega) (negL xx) l0 HX2.out.2.2 hl0)
  have HD1 := Lib.hid hd1
  have KP1 := Lib.hid (fun (W : World) (h : WrP r c k (some ⟨bk, off, none⟩) T rows bad w W ([] ++ [[negL xx, l0]])) => wput2_ok h (by simp; omega) xx l1 HX2.out.1 hl1)
  clear hd0 hl0 hd1 hl1
  have d0 : (sv == 0) = false := by simp [hs0]
  have d1 : (sv == 1) = false := by simp [hs1]
  clear hs0 hs1
  go_enter Tryz.func83, Tryz.ntmps83
  have hrl := HRl.out
  go_upto_region 0 with (fail)
  go_region_held3 (fun w' => w'.cell? ⟨r, 0, none⟩ = some (.slice (some ⟨bk, off, none⟩) T.length c) ∧ w'.cell? ⟨r, 1, none⟩ = some (.int .i64 k) ∧ w'.cell? ⟨bk, off + k * 8, none⟩ = some (.int .i8 m.op) ∧ w'.cell? ⟨bk, off + k * 8 + 1, none⟩ = some (.int .i8 m.len) ∧ w'.cell? ⟨bk, off + k * 8 + 2, none⟩ = some (.int .i64 a) ∧ w'.cell? ⟨bk, off + k * 8 + 3, none⟩ = some (.int .i64 b) ∧ w'.cell? ⟨bk, off + k * 8 + 4, none⟩ = some (.int .i64 c2) ∧ w'.cell? ⟨bk, off + k * 8 + 5, none⟩ = some (.int .i64 sv) ∧ w'.cell? ⟨bk, off + k * 8 + 6, none⟩ = some (.int .i64 m.fn) ∧ w'.cell? ⟨bk, off + k * 8 + 7, none⟩ = some (.int .i64 m.num)) (go_keep) ((fail))
  go_upto_region 1 with (fail)
  have hbx := Blk.new w 51 #[Value.int .i8 m.op, Value.int .i8 m.len, Value.int .i64 a, Value.int .i64 b, Value.int .i64 c2, Value.int .i64 sv, Value.int .i64 m.fn, Value.int .i64 m.num]
  have hkx : Kept (fun _ => False) w (w.alloc (.cells #[Value.int .i8 m.op, Value.int .i8 m.len, Value.int .i64 a, Value.int .i64 b, Value.int .i64 c2, Value.int .i64 sv, Value.int .i64 m.fn, Value.int .i64 m.num] 51)).drew := ((Kept.refl _ w).alloc _).drew
  have n2 := hbx.drew.cell 2
  have n3 := hbx.drew.cell 3
  have n4 := hbx.drew.cell 4
  simp only [List.getElem?_toArray, List.getElem?_cons_zero, List.getElem?_cons_succ] at n2 n3 n4
  have hbx2 := hbx.drew
  clear hbx
  generalize (w.alloc (.cells #[Value.int .i8 m.op, Value.int .i8 m.len, Value.int .i64 a, Value.int .i64 b, Value.int .i64 c2, Value.int .i64 sv, Value.int .i64 m.fn, Value.int .i64 m.num] 51)).drew = wx at *
  have HBX : Hid (Blk wx.drew w.heap.size 51 #[Value.int .i8 m.op, Value.int .i8 m.len, Value.int .i64 a, Value.int .i64 b, Value.int .i64 c2, Value.int .i64 sv, Value.int .i64 m.fn, Value.int .i64 m.num]) := Lib.hid hbx2.drew
  have HNR : Hid (¬ (w.heap.size = r)) := Lib.hid (by omega)
  clear hbx2
  have HKX := Lib.hid hkx
  have HX := Lib.hid (H.out.keep (hkx.below (Nat.le_refl _) (fun _ h => h.elim)))
  have HXd : Hid (WrS wx.drew r (some ⟨bk, off, none⟩) T c k ov rows bad) := Lib.hid (HX.out.keep ⟨rfl, rfl, rfl, Nat.le_refl _, fun _ _ => rfl⟩)
  clear hkx x0 x1 y0 y1 y2 y3 y4 y5 y6 y7
  go_region_held3 (fun w' => w'.cell? ⟨w.heap.size, 2, none⟩ = some (.int .i64 a) ∧ w'.cell? ⟨w.heap.size, 3, none⟩ = some (.int .i64 b) ∧ w'.cell? ⟨w.heap.size, 4, none⟩ = some (.int .i64 c2)) (first | exact ⟨p2, p3, p4⟩ | exact ⟨n2, n3, n4⟩ | go_keep)
    ((go_at_call 130; (with_reducible refine (HL.out wx.drew HXd.out).mono ?_); rintro e w1 ⟨rfl, h1, k1⟩; have H1 := Lib.hid h1; have K1 := Lib.hid k1; have hB1 := HBX.out.kept k1 HNR.out; have B1 := Lib.hid hB1; have p2 : w1.cell? ⟨w.heap.size, 2, none⟩ = some (.int .i64 a) := hB1.cell 2; have p3 : w1.cell? ⟨w.heap.size, 3, none⟩ = some (.int .i64 b) := hB1.cell 3; have p4 : w1.cell? ⟨w.heap.size, 4, none⟩ = some (.int .i64 c2) := hB1.cell 4; clear h1 k1 hB1))
  have p5 : w1.cell? ⟨w.heap.size, 5, none⟩ = some (.int .i64 sv) := B1.out.cell 5
  have p1 : w1.cell? ⟨r, 1, none⟩ = some (.int .i64 k) := H1.out.blk.cell 1
  have K01 : Hid (Kept (fun b => b = r) w w1) := Lib.hid ((HKX.out.mono (fun _ _ h => h.elim)).drew.trans K1.out)
  have P0 := Lib.hid (WrP.start (w := w) H1.out (K01.out.below (Nat.le_of_lt HRl.out) (fun _ h => Nat.le_of_eq h.symm)))
  have P0d := Lib.hid P0.out.drew
  have hr0 := P0.out.cell1.2
  go_upto_region 3 with (fail)
  go_region_held3 (fun w' => w'.cell? ⟨r, 1, none⟩ = some (.int .i64 k)) (first | exact u1 | go_keep) (first
    | (go_at_call 129; refine (wnegL_ok HX2.out.1 HX2.out.2.1 _).mono ?_; rintro e w' ⟨rfl, rfl⟩)
    | (go_at_call 132; refine (WrP.dif HD0.out P0d.out).mono ?_; rintro e q0 ⟨rfl, hq⟩; have Q0 := Lib.hid hq; have s0 := hq.cell1.1; have sl0 := hq.cell1.2; clear hq)
    | (go_at_call 126; refine (KP0.out _ Q0.out).mono ?_; rintro e v1 ⟨rfl, hv⟩; have P1 := Lib.hid hv; have u1 := hv.cell1.1; have hr1 := hv.cell1.2; clear hv))
  have P1d := Lib.hid P1.out.drew
  go_wp2_with fail
  refine (WrP.dif HD1.out P1.out).mono ?_
  rintro e q1 ⟨rfl, hq⟩
  have Q1 := Lib.hid hq
  clear hq
  go_wp2_with fail
  refine (KP1.out _ Q1.out).mono ?_
  rintro e v2 ⟨rfl, hv⟩
  have P2 := Lib.hid hv
  have u2 := hv.cell1.1
  clear hv
  go_wp2
  exact bodyPost_end (results_none rfl _ _ _) rfl ⟨rfl, P2.out⟩
end Go.Proofs.YtlipnnibagidiaaGreat

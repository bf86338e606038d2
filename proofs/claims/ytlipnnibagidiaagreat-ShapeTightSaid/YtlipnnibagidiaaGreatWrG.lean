/- slices.Index over nodes; term.Find. -/
import Derived.Test.YtlipnnibagidiaaGreatWrB
import Derived.Deep.RegionHeld3
import Derived.BigQuiet
namespace Go.Proofs.YtlipnnibagidiaaGreat
open Go.RowKit Go.Lib
set_option maxRecDepth 100000 in
set_option maxHeartbeats 2000000 in
theorem wthree_ok {w : World} {r c k : Nat} {A : Option Addr} {T : List Nd} {ov : Value} {rows : List (Option Addr × Nat × List Int)} {bad : Bool} (hc : T.length ≤ c) (h : WrS w r A T c k ov rows bad) (hw : Well T) (hk : k < T.length) {a b : Nat} (ha : (ndAt T k).a0 = a) (hb : (ndAt T k).a1 = b) (ha1 : a < T.length) (hb1 : b < T.length) (hs : (ndAt T k).sort = 0) (hsa : (ndAt T a).sort = 0) (hsb : (ndAt T b).sort = 0) :
    Calls Tryz.prog 128 #[.pointer (some ⟨r, 0, none⟩)] w fun e w' => e = .returned (.tuple #[.int .i64 (litP T k), .int .i64 (litP T a), .int .i64 (litP T b)]) ∧ WrS w' r A T c k ov rows bad ∧ Below r w w' := by
  have HL := Lib.hid (fun (W : World) (h : WrS W r A T c k ov rows bad) => wlit_ok hc h hw k hk hs)
  have HLa := Lib.hid (fun (W : World) (h : WrS W r A T c k ov rows bad) => wlit_ok hc h hw a ha1 hsa)
  have HLb := Lib.hid (fun (W : World) (h : WrS W r A T c k ov rows bad) => wlit_ok hc h hw b hb1 hsb)
  have x0 : w.cell? ⟨r, 0, none⟩ = some (.slice A T.length c) := h.blk.cell 0
  have x1 : w.cell? ⟨r, 1, none⟩ = some (.int .i64 k) := h.blk.cell 1
  have HRl := Lib.hid h.blk.lt
  have H := Lib.hid h
  have t1 : (0 : Int) ≤ (k : Int) := by omega
  have t2 : (k : Int) < (T.length : Int) := by omega
  obtain ⟨bk, off, hA, hbb, hcell⟩ := h.tab.at_.resolve_left (by omega)
  have hm := hcell k hk
  rw [ndAt_nat hk] at ha hb
  obtain ⟨y0, y1, y2, y3, y4, y5, y6, y7⟩ := hm.all
  subst hA
  clear hcell hm h hc hw hs hsa hsb ha1 hb1
  generalize T[k] = m at *
  rw [ha] at y2
  rw [hb] at y3
  clear ha hb hk
  go_enter Tryz.func128, Tryz.ntmps128
  go_upto_region 1 with (fail)
  have hrl := HRl.out
  go_region_held3 (fun w' => w'.cell? ⟨r, 0, none⟩ = some (.slice (some ⟨bk, off, none⟩) T.length c) ∧ w'.cell? ⟨r, 1, none⟩ = some (.int .i64 k) ∧ w'.cell? ⟨bk, off + k * 8, none⟩ = some (.int .i8 m.op) ∧ w'.cell? ⟨bk, off + k * 8 + 1, none⟩ = some (.int .i8 m.len) ∧ w'.cell? ⟨bk, off + k * 8 + 2, none⟩ = some (.int .i64 a) ∧ w'.cell? ⟨bk, off + k * 8 + 3, none⟩ = some (.int .i64 b) ∧ w'.cell? ⟨bk, off + k * 8 + 4, none⟩ = some (.int .i64 m.a2) ∧ w'.cell? ⟨bk, off + k * 8 + 5, none⟩ = some (.int .i64 m.sort) ∧ w'.cell? ⟨bk, off + k * 8 + 6, none⟩ = some (.int .i64 m.fn) ∧ w'.cell? ⟨bk, off + k * 8 + 7, none⟩ = some (.int .i64 m.num)) (go_keep) ((fail))
  go_upto_region 2 with (fail)
  have hbx := Blk.new w 51 #[Value.int .i8 m.op, Value.int .i8 m.len, Value.int .i64 a, Value.int .i64 b, Value.int .i64 m.a2, Value.int .i64 m.sort, Value.int .i64 m.fn, Value.int .i64 m.num]
  have hkx : Kept (fun _ => False) w (w.alloc (.cells #[Value.int .i8 m.op, Value.int .i8 m.len, Value.int .i64 a, Value.int .i64 b, Value.int .i64 m.a2, Value.int .i64 m.sort, Value.int .i64 m.fn, Value.int .i64 m.num] 51)).drew := ((Kept.refl _ w).alloc _).drew
  have hsz : (w.alloc (.cells #[Value.int .i8 m.op, Value.int .i8 m.len, Value.int .i64 a, Value.int .i64 b, Value.int .i64 m.a2, Value.int .i64 m.sort, Value.int .i64 m.fn, Value.int .i64 m.num] 51)).drew.heap.size = w.heap.size + 1 := by simp
  have n2 := hbx.drew.cell 2
  have n3 := hbx.drew.cell 3
  simp only [List.getElem?_toArray, List.getElem?_cons_zero, List.getElem?_cons_succ] at n2 n3
  have hbx2 := hbx.drew
  clear hbx
  generalize (w.alloc (.cells #[Value.int .i8 m.op, Value.int .i8 m.len, Value.int .i64 a, Value.int .i64 b, Value.int .i64 m.a2, Value.int .i64 m.sort, Value.int .i64 m.fn, Value.int .i64 m.num] 51)).drew = wx at *
  have HBX : Hid (Blk wx.drew w.heap.size 51 #[Value.int .i8 m.op, Value.int .i8 m.len, Value.int .i64 a, Value.int .i64 b, Value.int .i64 m.a2, Value.int .i64 m.sort, Value.int .i64 m.fn, Value.int .i64 m.num]) := Lib.hid hbx2.drew
  have HNR : Hid (¬ (w.heap.size = r)) := Lib.hid (by omega)
  clear hbx2 hsz
  have HKX := Lib.hid hkx
  have HX := Lib.hid (H.out.keep (hkx.below (Nat.le_refl _) (fun _ h => h.elim)))
  have HXd : Hid (WrS wx.drew r (some ⟨bk, off, none⟩) T c k ov rows bad) := Lib.hid (HX.out.keep ⟨rfl, rfl, rfl, Nat.le_refl _, fun _ _ => rfl⟩)
  have z1 : wx.cell? ⟨r, 1, none⟩ = some (.int .i64 k) := HX.out.blk.cell 1
  clear hkx x0 x1 y0 y1 y2 y3 y4 y5 y6 y7
  go_region_held3 (fun w' => w'.cell? ⟨r, 1, none⟩ = some (.int .i64 k) ∧ w'.cell? ⟨w.heap.size, 2, none⟩ = some (.int .i64 a) ∧ w'.cell? ⟨w.heap.size, 3, none⟩ = some (.int .i64 b)) (first | exact ⟨s1, s2, s3⟩ | exact ⟨q1, q2, q3⟩ | exact ⟨p1, p2, p3⟩ | exact ⟨z1, n2, n3⟩ | go_keep) (first
    | (go_at_call 130; (with_reducible refine (HLb.out w2 H2.out).mono ?_); rintro e w3 ⟨rfl, h3, k3⟩; have H3 := Lib.hid h3; have K3 := Lib.hid k3; have hB3 := B2.out.kept k3 HNR.out; have B3 := Lib.hid hB3; have s1 : w3.cell? ⟨r, 1, none⟩ = some (.int .i64 k) := h3.blk.cell 1; have s2 : w3.cell? ⟨w.heap.size, 2, none⟩ = some (.int .i64 a) := hB3.cell 2; have s3 : w3.cell? ⟨w.heap.size, 3, none⟩ = some (.int .i64 b) := hB3.cell 3; clear h3 k3 hB3)
    | (go_at_call 130; (with_reducible refine (HLa.out w1 H1.out).mono ?_); rintro e w2 ⟨rfl, h2, k2⟩; have H2 := Lib.hid h2; have K2 := Lib.hid k2; have hB2 := B1.out.kept k2 HNR.out; have B2 := Lib.hid hB2; have q1 : w2.cell? ⟨r, 1, none⟩ = some (.int .i64 k) := h2.blk.cell 1; have q2 : w2.cell? ⟨w.heap.size, 2, none⟩ = some (.int .i64 a) := hB2.cell 2; have q3 : w2.cell? ⟨w.heap.size, 3, none⟩ = some (.int .i64 b) := hB2.cell 3; clear h2 k2 hB2)
    | (go_at_call 130; (with_reducible refine (HL.out wx.drew HXd.out).mono ?_); rintro e w1 ⟨rfl, h1, k1⟩; have H1 := Lib.hid h1; have K1 := Lib.hid k1; have hB1 := HBX.out.kept k1 HNR.out; have B1 := Lib.hid hB1; have p1 : w1.cell? ⟨r, 1, none⟩ = some (.int .i64 k) := h1.blk.cell 1; have p2 : w1.cell? ⟨w.heap.size, 2, none⟩ = some (.int .i64 a) := hB1.cell 2; have p3 : w1.cell? ⟨w.heap.size, 3, none⟩ = some (.int .i64 b) := hB1.cell 3; clear h1 k1 hB1))
  go_wp2
  refine bodyPost_ret (v := .tuple #[.int .i64 (litP T k), .int .i64 (litP T a), .int .i64 (litP T b)]) (by simp [results, Tryz.results128, go_sem]) rfl ⟨rfl, H3.out, ?_⟩
  have hk0 : Kept (fun b => b = r) w wx.drew := (HKX.out.mono (fun _ _ h => h.elim)).drew
  exact (((hk0.trans K1.out).trans K2.out).trans K3.out).below (Nat.le_of_lt HRl.out) (fun _ h => Nat.le_of_eq h.symm)
def WrP (r c id : Nat) (A : Option Addr) (T : List Nd) (rows : List (Option Addr × Nat × List Int)) (bad : Bool) (w w1 : World) (cs : List (List Int)) : Prop :=
  ∃ ov ps, WrS w1 r A T c id ov (rows ++ ps) bad ∧ ps.map (fun p => p.2.2) = cs.map makeM ∧ Below r w w1
theorem WrP.start {w w1 : World} {r c id : Nat} {A : Option Addr} {T : List Nd} {ov : Value} {rows : List (Option Addr × Nat × List Int)} {bad : Bool} (h : WrS w1 r A T c id ov rows bad) (hb : Below r w w1) : WrP r c id A T rows bad w w1 [] := ⟨ov, [], by rw [List.append_nil]; exact h, rfl, hb⟩
theorem wputs_ok {w w1 : World} {r c id : Nat} {A : Option Addr} {T : List Nd} {rows : List (Option Addr × Nat × List Int)} {bad : Bool} {cs : List (List Int)} (h : WrP r c id A T rows bad w w1 cs) (hr9 : rows.length + cs.length ≤ 900) (zs : List Int) (hz : ∀ x ∈ zs, 0 ≤ x) (hn : zs.length ≤ 3) :
    Calls Tryz.prog 126 #[.pointer (some ⟨r, 0, none⟩), .slice (some ⟨w1.heap.size, 0, none⟩) zs.length zs.length] (w1.alloc (.cells (zs.map (Value.int .i64)).toArray 3)) fun e w' => e = .returned (.tuple #[]) ∧ WrP r c id A T rows bad w w' (cs ++ [zs]) := by
  obtain ⟨ov, ps, hw, hp, hb⟩ := h
  have hl : ps.length = cs.length := by have := congrArg List.length hp; simpa using this
  refine (wrput_ok hw (by rw [List.length_append]; omega) hz hn).mono ?_
  rintro e w' ⟨rfl, ⟨ov', h'⟩, hb'⟩
  refine ⟨rfl, ov', ps ++ [(some ⟨w1.heap.size, 0, none⟩, zs.length, makeM zs)], ?_, by rw [List.map_append, hp, List.map_append]; rfl, hb.trans hb'⟩
  rw [← List.append_assoc]
  exact h'
theorem wput1_ok {w w1 : World} {r c id : Nat} {A : Option Addr} {T : List Nd} {rows : List (Option Addr × Nat × List Int)} {bad : Bool} {cs : List (List Int)} (h : WrP r c id A T rows bad w w1 cs) (hr9 : rows.length + cs.length ≤ 900) (x : Int) (hx : 0 ≤ x) :
    Calls Tryz.prog 126 #[.pointer (some ⟨r, 0, none⟩), .slice (some ⟨w1.heap.size, 0, none⟩) 1 1] (w1.alloc (.cells #[.int .i64 x] 3)) fun e w' => e = .returned (.tuple #[]) ∧ WrP r c id A T rows bad w w' (cs ++ [[x]]) :=
  wputs_ok h hr9 [x] (fun y hy => by rw [List.mem_singleton.1 hy]; exact hx) (by simp)
theorem wput2_ok {w w1 : World} {r c id : Nat} {A : Option Addr} {T : List Nd} {rows : List (Option Addr × Nat × List Int)} {bad : Bool} {cs : List (List Int)} (h : WrP r c id A T rows bad w w1 cs) (hr9 : rows.length + cs.length ≤ 900) (x y : Int) (hx : 0 ≤ x) (hy : 0 ≤ y) :
    Calls Tryz.prog 126 #[.pointer (some ⟨r, 0, none⟩), .slice (some ⟨w1.heap.size, 0, none⟩) 2 2] (w1.alloc (.cells #[.int .i64 x, .int .i64 y] 3)) fun e w' => e = .returned (.tuple #[]) ∧ WrP r c id A T rows bad w w' (cs ++ [[x, y]]) :=
  wputs_ok h hr9 [x, y] (fun z hz => by simp at hz; rcases hz with rfl | rfl <;> assumption) (by simp)
theorem wput3_ok {w w1 : World} {r c id : Nat} {A : Option Addr} {T : List Nd} {rows : List (Option Addr × Nat × List Int)} {bad : Bool} {cs : List (List Int)} (h : WrP r c id A T rows bad w w1 cs) (hr9 : rows.length + cs.length ≤ 900) (x y z : Int) (hx : 0 ≤ x) (hy : 0 ≤ y) (hz : 0 ≤ z) :
    Calls Tryz.prog 126 #[.pointer (some ⟨r, 0, none⟩), .slice (some ⟨w1.heap.size, 0, none⟩) 3 3] (w1.alloc (.cells #[.int .i64 x, .int .i64 y, .int .i64 z] 3)) fun e w' => e = .returned (.tuple #[]) ∧ WrP r c id A T rows bad w w' (cs ++ [[x, y, z]]) :=
  wputs_ok h hr9 [x, y, z] (fun u hu => by simp at hu; rcases hu with rfl | rfl | rfl <;> assumption) (by simp)
set_option maxRecDepth 100000 in
set_option maxHeartbeats 2000000 in
theorem wtruth_ok {w : World} {r c k : Nat} {A : Option Addr} {T : List Nd} {ov : Value} {rows : List (Option Addr × Nat × List Int)} {bad : Bool} (h : WrS w r A T c k ov rows bad) (hr9 : rows.length ≤ 890) (hk : k ≤ 1000000) :
    Calls Tryz.prog 79 #[.pointer (some ⟨r, 0, none⟩)] w fun e w' => e = .returned (.tuple #[]) ∧ WrP r c k A T rows bad w w' [[2 * (k : Int)]] := by
  have x1 : w.cell? ⟨r, 1, none⟩ = some (.int .i64 k) := h.blk.cell 1
  have KP := Lib.hid (wput1_ok (WrP.start h (Below.refl r w)) (by simp; omega) (2 * (k : Int)) (by omega))
  have KA := Lib.hid (fun W => atom_ok (k : Int) (by omega) W)
  clear h
  go_enter Tryz.func79, Tryz.ntmps79
  go_wp2_with fail
  refine (KA.out _).mono ?_
  rintro e w1 ⟨rfl, rfl⟩
  go_wp2_with fail
  refine KP.out.mono ?_
  rintro e w1 ⟨rfl, hp⟩
  go_wp2
  exact bodyPost_end (results_none rfl _ _ _) rfl ⟨rfl, hp⟩
theorem wnegL_ok {x : Int} (h0 : 0 ≤ x) (h1 : x ≤ 3000000) (w : World) : Calls Tryz.prog 129 #[.int .i64 x] w fun e w' => e = .returned (.int .i64 (negL x)) ∧ w = w' := by
  have := wneg_ok x w
  rw [negG_pos h0 (by omega)] at this
  exact this
theorem litP_small {T : List Nd} (hw : Well T) (hT : T.length ≤ 1000000) (k : Nat) (hk : k < T.length) (hs : (ndAt T k).sort = 0) : 0 ≤ litP T k ∧ litP T k ≤ 3000000 ∧ 0 ≤ negL (litP T k) := by
  obtain ⟨h0, h1, _⟩ := litP_facts hw (id := (k : Int)) (by omega) (by omega) hs
  exact ⟨h0, by omega, (negL_facts h0).1⟩
set_option maxRecDepth 100000 in
set_option maxHeartbeats 2000000 in
theorem wand_ok {w : World} {r c k : Nat} {A : Option Addr} {T : List Nd} {ov : Value} {rows : List (Option Addr × Nat × List Int)} {bad : Bool} (hc : T.length ≤ c) (h : WrS w r A T c k ov rows bad) (hr9 : rows.length ≤ 890) (hw : Well T) (hT : T.length ≤ 1000000) (hk : k < T.length) {a b : Nat} (ha : (ndAt T k).a0 = a) (hb : (ndAt T k).a1 = b) (ha1 : a < T.length) (hb1 : b < T.length) (hs : (ndAt T k).sort = 0) (hsa : (ndAt T a).sort = 0) (hsb : (ndAt T b).sort = 0) :
    Calls Tryz.prog 80 #[.pointer (some ⟨r, 0, none⟩)] w fun e w' => e = .returned (.tuple #[]) ∧ WrP r c k A T rows bad w w' [[negL (litP T k), (litP T a)], [negL (litP T k), (litP T b)], [(litP T k), negL (litP T a), negL (litP T b)]] := by
  have K3 := Lib.hid (wthree_ok hc h hw hk ha hb ha1 hb1 hs hsa hsb)
  have ht := litP_small hw hT k hk hs
  have hx := litP_small hw hT a ha1 hsa
  have hy := litP_small hw hT b hb1 hsb
  clear h hc hw hk hs hsa hsb ha1 hb1 ha hb
  generalize litP T k = tt at *
  generalize litP T a = xx at *
  generalize litP T b = yy at *
  have HT := Lib.hid ht
  have HX := Lib.hid hx
  have HY := Lib.hid hy
  clear ht hx hy
  go_enter Tryz.func80, Tryz.ntmps80
  go_wp2_with fail
  refine K3.out.mono ?_
  rintro e w0 ⟨rfl, hs0, hb0⟩
  have P0 := Lib.hid (WrP.start (w := w) hs0 hb0)
  clear hs0 hb0
  go_wp2_with fail
  refine (wnegL_ok HT.out.1 HT.out.2.1 _).mono ?_
  rintro e w' ⟨rfl, rfl⟩
  go_wp2_with fail
  refine (wput2_ok P0.out (by simp; omega) (negL tt) (xx) HT.out.2.2 HX.out.1).mono ?_
  rintro e w1 ⟨rfl, h1⟩
  have P1 := Lib.hid h1
  clear h1
  go_wp2_with fail
  refine (wnegL_ok HT.out.1 HT.out.2.1 _).mono ?_
  rintro e w' ⟨rfl, rfl⟩
  go_wp2_with fail
  refine (wput2_ok P1.out (by simp; omega) (negL tt) (yy) HT.out.2.2 HY.out.1).mono ?_
  rintro e w2 ⟨rfl, h2⟩
  have P2 := Lib.hid h2
  clear h2
  go_wp2_with fail
  refine (wnegL_ok HX.out.1 HX.out.2.1 _).mono ?_
  rintro e w' ⟨rfl, rfl⟩
  go_wp2_with fail
  refine (wnegL_ok HY.out.1 HY.out.2.1 _).mono ?_
  rintro e w' ⟨rfl, rfl⟩
  go_wp2_with fail
  refine (wput3_ok P2.out (by simp; omega) (tt) (negL xx) (negL yy) HT.out.1 HX.out.2.2 HY.out.2.2).mono ?_
  rintro e w3 ⟨rfl, h3⟩
  have P3 := Lib.hid h3
  clear h3
  go_wp2
  exact bodyPost_end (results_none rfl _ _ _) rfl ⟨rfl, P3.out⟩
set_option maxRecDepth 100000 in
set_option maxHeartbeats 2000000 in
theorem wor_ok {w : World} {r c k : Nat} {A : Option Addr} {T : List Nd} {ov : Value} {rows : List (Option Addr × Nat × List Int)} {bad : Bool} (hc : T.length ≤ c) (h : WrS w r A T c k ov rows bad) (hr9 : rows.length ≤ 890) (hw : Well T) (hT : T.length ≤ 1000000) (hk : k < T.length) {a b : Nat} (ha : (ndAt T k).a0 = a) (hb : (ndAt T k).a1 = b) (ha1 : a < T.length) (hb1 : b < T.length) (hs : (ndAt T k).sort = 0) (hsa : (ndAt T a).sort = 0) (hsb : (ndAt T b).sort = 0) :
    Calls Tryz.prog 81 #[.pointer (some ⟨r, 0, none⟩)] w fun e w' => e = .returned (.tuple #[]) ∧ WrP r c k A T rows bad w w' [[(litP T k), negL (litP T a)], [(litP T k), negL (litP T b)], [negL (litP T k), (litP T a), (litP T b)]] := by
  have K3 := Lib.hid (wthree_ok hc h hw hk ha hb ha1 hb1 hs hsa hsb)
  have ht := litP_small hw hT k hk hs
  have hx := litP_small hw hT a ha1 hsa
  have hy := litP_small hw hT b hb1 hsb
  clear h hc hw hk hs hsa hsb ha1 hb1 ha hb
  generalize litP T k = tt at *
  generalize litP T a = xx at *
  generalize litP T b = yy at *
  have HT := Lib.hid ht
  have HX := Lib.hid hx
  have HY := Lib.hid hy
  clear ht hx hy
  go_enter Tryz.func81, Tryz.ntmps81
  go_wp2_with fail
  refine K3.out.mono ?_
  rintro e w0 ⟨rfl, hs0, hb0⟩
  have P0 := Lib.hid (WrP.start (w := w) hs0 hb0)
  clear hs0 hb0
  go_wp2_with fail
  refine (wnegL_ok HX.out.1 HX.out.2.1 _).mono ?_
  rintro e w' ⟨rfl, rfl⟩
  go_wp2_with fail
  refine (wput2_ok P0.out (by simp; omega) (tt) (negL xx) HT.out.1 HX.out.2.2).mono ?_
  rintro e w1 ⟨rfl, h1⟩
  have P1 := Lib.hid h1
  clear h1
  go_wp2_with fail
  refine (wnegL_ok HY.out.1 HY.out.2.1 _).mono ?_
  rintro e w' ⟨rfl, rfl⟩
  go_wp2_with fail
  refine (wput2_ok P1.out (by simp; omega) (tt) (negL yy) HT.out.1 HY.out.2.2).mono ?_
  rintro e w2 ⟨rfl, h2⟩
  have P2 := Lib.hid h2
  clear h2
  go_wp2_with fail
  refine (wnegL_ok HT.out.1 HT.out.2.1 _).mono ?_
  rintro e w' ⟨rfl, rfl⟩
  go_wp2_with fail
  refine (wput3_ok P2.out (by simp; omega) (negL tt) (xx) (yy) HT.out.2.2 HX.out.1 HY.out.1).mono ?_
  rintro e w3 ⟨rfl, h3⟩
  have P3 := Lib.hid h3
  clear h3
  go_wp2
  exact bodyPost_end (results_none rfl _ _ _) rfl ⟨rfl, P3.out⟩
theorem WrS.drewN {W : World} {r : Nat} {A : Option Addr} {T : List Nd} {c id : Nat} {ov : Value} {rows : List (Option Addr × Nat × List Int)} {bad : Bool} (h : WrS W r A T c id ov rows bad) (n : Nat) : WrS (W.drewN n) r A T c id ov rows bad := h.keep ⟨rfl, rfl, rfl, Nat.le_refl _, fun _ _ => rfl⟩
set_option maxRecDepth 100000 in
set_option maxHeartbeats 2000000 in
theorem weq_ok {w : World} {r c k : Nat} {A : Option Addr} {T : List Nd} {ov : Value} {rows : List (Option Addr × Nat × List Int)} {bad : Bool} (hc : T.length ≤ c) (h : WrS w r A T c k ov rows bad) (hr9 : rows.length ≤ 890) (hw : Well T) (hT : T.length ≤ 1000000) (hk : k < T.length) {a b : Nat} (ha : (ndAt T k).a0 = a) (hb : (ndAt T k).a1 = b) (ha1 : a < T.length) (hb1 : b < T.length) (hs : (ndAt T k).sort = 0) (hsa : (ndAt T a).sort = 0) (hsb : (ndAt T b).sort = 0) :
    Calls Tryz.prog 82 #[.pointer (some ⟨r, 0, none⟩)] w fun e w' => e = .returned (.tuple #[]) ∧ WrP r c k A T rows bad w w' [[negL (litP T k), negL (litP T a), (litP T b)], [negL (litP T k), (litP T a), negL (litP T b)], [(litP T k), (litP T a), (litP T b)], [(litP T k), negL (litP T a), negL (litP T b)]] := by
  have x0 : w.cell? ⟨r, 0, none⟩ = some (.slice A T.length c) := h.blk.cell 0
  have x1 : w.cell? ⟨r, 1, none⟩ = some (.int .i64 k) := h.blk.cell 1
  have t1 : (0 : Int) ≤ (k : Int) := by omega
  have t2 : (k : Int) < (T.length : Int) := by omega
  have t3 : (0 : Int) ≤ (a : Int) := by omega
  have t4 : (a : Int) < (T.length : Int) := by omega
  obtain ⟨bk, off, hA, hbb, hcell⟩ := h.tab.at_.resolve_left (by omega)
  have y2 := (hcell k hk).all.2.2.1
  have y5 := (hcell a ha1).all.2.2.2.2.2.1
  rw [← ndAt_nat hk, ha] at y2
  rw [← ndAt_nat ha1, hsa] at y5
  subst hA
  have K3 := Lib.hid (fun n => wthree_ok hc (h.drewN n) hw hk ha hb ha1 hb1 hs hsa hsb)
  have ht := litP_small hw hT k hk hs
  have hx := litP_small hw hT a ha1 hsa
  have hy := litP_small hw hT b hb1 hsb
  clear hcell h hc hw hk hs hsa hsb ha1 hb1 ha hb
  generalize litP T k = tt at *
  generalize litP T a = xx at *
  generalize litP T b = yy at *
  have HT := Lib.hid ht
  have HX := Lib.hid hx
  have HY := Lib.hid hy
  clear ht hx hy
  go_enter Tryz.func82, Tryz.ntmps82
  go_upto_region 0 with (fail)
  go_quiet (fail)
  go_wp2_with fail
  refine (K3.out _).mono ?_
  rintro e w0 ⟨rfl, hs0, hb0⟩
  have P0 := Lib.hid (WrP.start (w := w) hs0 ((below_drewN (Below.refl r w) _).trans hb0))
  clear hs0 hb0
  go_wp2_with fail
  refine (wnegL_ok HT.out.1 HT.out.2.1 _).mono ?_
  rintro e w' ⟨rfl, rfl⟩
  go_wp2_with fail
  refine (wnegL_ok HX.out.1 HX.out.2.1 _).mono ?_
  rintro e w' ⟨rfl, rfl⟩
  go_wp2_with fail
  refine (wput3_ok P0.out (by simp; omega) (negL tt) (negL xx) (yy) HT.out.2.2 HX.out.2.2 HY.out.1).mono ?_
  rintro e w1 ⟨rfl, h1⟩
  have P1 := Lib.hid h1
  clear h1
  go_wp2_with fail
  refine (wnegL_ok HT.out.1 HT.out.2.1 _).mono ?_
  rintro e w' ⟨rfl, rfl⟩
  go_wp2_with fail
  refine (wnegL_ok HY.out.1 HY.out.2.1 _).mono ?_
  rintro e w' ⟨rfl, rfl⟩
  go_wp2_with fail
  refine (wput3_ok P1.out (by simp; omega) (negL tt) (xx) (negL yy) HT.out.2.2 HX.out.1 HY.out.2.2).mono ?_
  rintro e w2 ⟨rfl, h2⟩
  have P2 := Lib.hid h2
  clear h2
  go_wp2_with fail
  refine (wput3_ok P2.out (by simp; omega) (tt) (xx) (yy) HT.out.1 HX.out.1 HY.out.1).mono ?_
  rintro e w3 ⟨rfl, h3⟩
  have P3 := Lib.hid h3
  clear h3
  go_wp2_with fail
  refine (wnegL_ok HX.out.1 HX.out.2.1 _).mono ?_
  rintro e w' ⟨rfl, rfl⟩
  go_wp2_with fail
  refine (wnegL_ok HY.out.1 HY.out.2.1 _).mono ?_
  rintro e w' ⟨rfl, rfl⟩
  go_wp2_with fail
  refine (wput3_ok P3.out (by simp; omega) (tt) (negL xx) (negL yy) HT.out.1 HX.out.2.2 HY.out.2.2).mono ?_
  rintro e w4 ⟨rfl, h4⟩
  have P4 := Lib.hid h4
  clear h4
  go_wp2
  exact bodyPost_end (results_none rfl _ _ _) rfl ⟨rfl, P4.out⟩
set_option maxRecDepth 100000 in
set_option maxHeartbeats 2000000 in
theorem weq_none {w : World} {r c k : Nat} {A : Option Addr} {T : List Nd} {ov : Value} {rows : List (Option Addr × Nat × List Int)} {bad : Bool} (h : WrS w r A T c k ov rows bad) (hk : k < T.length) {a : Nat} (ha : (ndAt T k).a0 = a) (ha1 : a < T.length) (hsa : (ndAt T a).sort ≠ 0) :
    Calls Tryz.prog 82 #[.pointer (some ⟨r, 0, none⟩)] w fun e w' => e = .returned (.tuple #[]) ∧ WrP r c k A T rows bad w w' [] := by
  have x0 : w.cell? ⟨r, 0, none⟩ = some (.slice A T.length c) := h.blk.cell 0
  have x1 : w.cell? ⟨r, 1, none⟩ = some (.int .i64 k) := h.blk.cell 1
  have t1 : (0 : Int) ≤ (k : Int) := by omega
  have t2 : (k : Int) < (T.length : Int) := by omega
  have t3 : (0 : Int) ≤ (a : Int) := by omega
  have t4 : (a : Int) < (T.length : Int) := by omega
  obtain ⟨bk, off, hA, hbb, hcell⟩ := h.tab.at_.resolve_left (by omega)
  have y2 := (hcell k hk).all.2.2.1
  have y5 := (hcell a ha1).all.2.2.2.2.2.1
  rw [← ndAt_nat hk, ha] at y2
  rw [← ndAt_nat ha1] at y5
  subst hA
  have P0 := Lib.hid (fun n => WrP.start (w := w) (h.drewN n) (below_drewN (Below.refl r w) n))
  have d1 : ((ndAt T a).sort != 0) = true := by simpa using hsa
  generalize (ndAt T a).sort = srt at *
  clear hcell h hk ha1 ha hsa
  go_enter Tryz.func82, Tryz.ntmps82
  go_upto_region 0 with (fail)
  go_quiet (fail)
  go_wp2
  exact bodyPost_ret (v := .tuple #[]) (by simp [results, Tryz.results82, go_sem]) rfl ⟨rfl, P0.out _⟩
def IdxN (T : List Nd) (n : Nd) (w : World) (e : Ending) (w' : World) : Prop := ∃ i : Int, e = .returned (.int .i64 i) ∧ (n ∈ T → i = (T.idxOf n : Nat)) ∧ (n ∉ T → i = -1) ∧ Below w.heap.size w w'
set_option maxRecDepth 100000 in
set_option maxHeartbeats 4000000 in
theorem nidx_ok {T : List Nd} {w : World} {A : Option Addr} (c : Nat) (n : Nd) (hwn : NdWf n) (h : Tab w A T) : Calls Tryz.prog 197 #[.slice A T.length c, nodeVal n] w (IdxN T n w) := by
  have hlen := h.len
  have HB0 := Lib.hid (show Below w.heap.size w (w.alloc (.cells (nodeCells n).toArray 51)) from (Below.refl _ w).alloc (Nat.le_refl _) _)
  have HBN := Lib.hid (show Blk (w.alloc (.cells (nodeCells n).toArray 51)) w.heap.size 51 (nodeCells n).toArray from Blk.new w _ _)
  have H := Lib.hid h
  have HW := Lib.hid hwn
  have HIN := Lib.hid (fun (m : Nd) (hm : NdWf m) => node_eq hwn hm)
  clear h hwn
  simp only [nodeVal, nodeCells] at HB0 HBN HIN ⊢
  go_enter Tryz.func197, Tryz.ntmps197
  go_wp2
  go_loopg [8] T.length (fun g v wr => ∃ i : Nat, i + g = T.length ∧ v = .int .i64 i ∧ n ∉ T.take i ∧ Below w.heap.size w wr ∧ Blk wr w.heap.size 51 #[.int .i8 n.op, .int .i8 n.len, .int .i64 n.a0, .int .i64 n.a1, .int .i64 n.a2, .int .i64 n.sort, .int .i64 n.fn, .int .i64 n.num])
  case atStart => exact ⟨0, by omega, rfl, by simp, HB0.out, HBN.out⟩
  case round =>
    obtain ⟨i, hig, rfl, hnot, hb, hbn⟩ := hrel
    have HNOT := Lib.hid hnot
    have HB := Lib.hid hb
    have n0 := hbn.cell 0
    have n1 := hbn.cell 1
    have n2 := hbn.cell 2
    have n3 := hbn.cell 3
    have n4 := hbn.cell 4
    have n5 := hbn.cell 5
    have n6 := hbn.cell 6
    have n7 := hbn.cell 7
    simp only [List.getElem?_toArray, List.getElem?_cons_zero, List.getElem?_cons_succ] at n0 n1 n2 n3 n4 n5 n6 n7
    have HBNr := Lib.hid hbn
    clear hnot hb hbn
    cases gk with
    | zero =>
      obtain rfl : i = T.length := by omega
      have d1 : decide ((T.length : Int) < T.length) = false := by simp
      go_wp2
      go_ret
      have hn : n ∉ T := by have := HNOT.out; rwa [List.take_length] at this
      exact ⟨-1, rfl, fun e => absurd e hn, fun _ => rfl, HB.out⟩
    | succ gk =>
      have hlt : i < T.length := by omega
      have d1 : decide ((i : Int) < T.length) = true := by simp; omega
      have t1 : (0 : Int) ≤ (i : Int) := by omega
      have t2 : (i : Int) < (T.length : Int) := by omega
      obtain ⟨b, off, hA, hbb, hcell⟩ := (H.out.below HB.out).at_.resolve_left (by omega)
      subst hA
      have hm := hcell i hlt
      obtain ⟨r, hr, he⟩ := HIN.out T[i] hm.wf
      obtain ⟨y0, y1, y2, y3, y4, y5, y6, y7⟩ := hm.all
      have HYes : Hid (r = true → n ∈ T ∧ T.idxOf n = i) := Lib.hid fun e => ⟨(hr.1 e).symm ▸ List.getElem_mem hlt, idx_take HNOT.out hlt (hr.1 e).symm⟩
      have HNo : Hid (r = false → n ∉ T.take (i + 1)) := Lib.hid fun e => notin_take HNOT.out hlt fun e2 => by rw [hr.2 e2.symm] at e; cases e
      clear hcell hm hr
      generalize T[i] = m at *
      have ge := node_eql he
      have gg := node_guard
      clear he
      cases r with
      | true =>
        have HY := Lib.hid (HYes.out rfl)
        go_wp2
        go_quiet (fail)
        go_wp2
        go_ret
        exact ⟨i, rfl, fun _ => by rw [HY.out.2], fun e => absurd HY.out.1 e, below_drewN HB.out _⟩
      | false =>
        have HN := Lib.hid (HNo.out rfl)
        go_wp2
        go_quiet (fail)
        go_wp2
        go_roundg gk
        case measure => omega
        case rel => exact ⟨i + 1, by omega, by go_num, HN.out, below_drewN HB.out _, HBNr.out.drewN _⟩
end Go.Proofs.YtlipnnibagidiaaGreat

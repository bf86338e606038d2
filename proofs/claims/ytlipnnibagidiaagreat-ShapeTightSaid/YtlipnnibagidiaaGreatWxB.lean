/- What shape.All holds while it goes over the nodes. -/
import Derived.Test.YtlipnnibagidiaaGreatWkA
import Derived.Laws.OwnMore
namespace Go.Proofs.YtlipnnibagidiaaGreat
open Go.RowKit Go.Lib
open Go.Maps (Keyed)
attribute [local go_sem] Oper.semAt_some
set_option maxRecDepth 100000 in
set_option maxHeartbeats 4000000 in
theorem wakes14_ok (w : World) : Calls Tryz.prog 13 #[] w (fun e w' => e = .returned (.bool true) ∧ Below w.heap.size w w') := by
  have hfd : ∀ (W : World) (a : Option Addr) (l c : Nat), (Instr.field 33 (.agg #[.slice a l c]) 0).run Tryz.prog W = .ok (.slice a l c) W := fun _ _ _ _ => by kernel_rfl
  obtain ⟨i0, hi, hz0, hz1, hz2⟩ := info_parts node_info
  go_enter Tryz.func13, Tryz.ntmps13
  go_wp2_with fail
  refine (rnew_own _).mono ?_
  rintro e w1 ⟨g, rfl, hown, hb⟩
  have HO1 := Lib.hid hown
  have HB1 := Lib.hid hb
  have HX1 : Hid (Blk (w1.alloc (.cells #[.slice (some ⟨g, 0, none⟩) 2 2] 33)) w1.heap.size 33 #[.slice (some ⟨g, 0, none⟩) 2 2]) := Lib.hid (Blk.new w1 _ _)
  have HO2 : Hid ((w1.alloc (.cells #[.slice (some ⟨g, 0, none⟩) 2 2] 33)).ownsRow w.heap.size 51 8 (.slice (some ⟨g, 0, none⟩) 2 2) 2 (twoNd.flatMap nodeCells)) := Lib.hid (own_kept hown ((Kept.refl (fun _ => False) w1).alloc _) (fun _ _ h => h))
  have HBW : Hid (Below w.heap.size w (w1.alloc (.cells #[.slice (some ⟨g, 0, none⟩) 2 2] 33))) := Lib.hid (hb.alloc hb.size _)
  obtain ⟨w2, hw2⟩ : ∃ w2, w1.alloc (.cells #[.slice (some ⟨g, 0, none⟩) 2 2] 33) = w2 := ⟨_, rfl⟩
  rw [hw2] at HX1 HO2 HBW
  have x1 := HX1.out.cell 0
  have fx1 := HX1.out.frozen 0
  simp only [List.getElem?_toArray, List.getElem?_cons_zero] at x1
  clear hown hb HO1
  have HLT := Lib.hid (show w1.heap.size < w2.heap.size from HX1.out.lt)
  go_wp2_with (at_builtin; (refine wpList_append_lies _ rfl (.tmp 6) (.tmp 11) 31 rfl w.heap.size 51 i0 (.agg #[.int .i8 0, .int .i8 0, .int .i64 0, .int .i64 0, .int .i64 0, .int .i64 0, .int .i64 0, .int .i64 0]) 8 56 Tryz.underlying31 hi hz0 hz1 hz2 rfl (by decide) _ 2 (twoNd.flatMap nodeCells) rfl (own_kept HO2.out ((Kept.refl (fun _ => False) w2).alloc _) (fun _ _ h => h)) ⟨w2.heap.size, 0, none⟩ 3 3 ((shA.drop 2).flatMap nodeCells) rfl rfl (World.news_of_block (Blk.new w2 _ _)) (by decide) (by decide) (by decide) (by decide) (by simp; have := HBW.out.size; omega) _ rfl ?_; intro ga ca w3 ho3 hg3 _ _; have HO3 := Lib.hid ho3; have HB3 := Lib.hid (Below.grown (HBW.out.alloc HBW.out.size _) hg3 (by have := HBW.out.size; simp; omega) (fun k hk => (HO2.out.lt k hk).1)); have HX3 := Lib.hid ((HX1.out.alloc (.cells ((shA.drop 2).flatMap nodeCells).toArray 51)).grown hg3 (fun e => own_blk_ne HO2.out HX1.out (by decide) e.symm)); have cx := HX3.out.cell 0; have fx := HX3.out.frozen 0; simp only [List.getElem?_toArray, List.getElem?_cons_zero] at cx; clear ho3 hg3))
  have ho4 := own_kept HO3.out (Kept.set1 w3 w1.heap.size 0 (.slice (some ⟨ga, 0, none⟩) 5 ca)) (fun k hk e => own_blk_ne HO3.out HX3.out (by decide) (by rw [hk, e]))
  have HT4 := Lib.hid (own_tabA ho4)
  have HC4 : Hid (5 ≤ ca) := Lib.hid (by obtain ⟨_, _, e, _, _, hc⟩ := own_form ho4 (by omega); injection e with _ _ e; omega)
  have HX4 := Lib.hid (HX3.out.set_ 0 (.slice (some ⟨ga, 0, none⟩) 5 ca))
  simp only [List.setIfInBounds_toArray, List.set_cons_zero] at HX4
  have HB4 := Lib.hid (HB3.out.setCell (p := ⟨w1.heap.size, 0, none⟩) HB1.out.size (.slice (some ⟨ga, 0, none⟩) 5 ca))
  clear ho4 cx fx x1 fx1 hfd hi hz0 hz1 hz2 hw2 HO3 HX3 HO2 HX1 HB3 HBW HLT
  generalize w3.setCell ⟨w1.heap.size, 0, none⟩ (.slice (some ⟨ga, 0, none⟩) 5 ca) = w4 at *
  have x4 := HX4.out.cell 0
  simp only [List.getElem?_toArray, List.getElem?_cons_zero] at x4
  refine (w14of_ok ca HC4.out HT4.out).mono ?_
  rintro e w5 ⟨b, off, q, b2, off2, q2, rfl, c1, c2, c3, hlt1, hlt2, hq1, hq2, hb5⟩
  have HT5 := Lib.hid (HT4.out.below hb5)
  have HX5 := Lib.hid (HX4.out.below hb5 HX4.out.lt)
  have HB5 := Lib.hid (HB4.out.trans (hb5.mono HB4.out.size))
  have x5 := HX5.out.cell 0
  simp only [List.getElem?_toArray, List.getElem?_cons_zero] at x5
  have KI := Lib.hid (fun W (B : Option Addr) cB (hW : Below w5.heap.size w5 W) (hB : Row W B [5, 7, 8]) => w14is_ok ca cB HC4.out (HT5.out.below hW) hB)
  have KC := Lib.hid (fun W (hW : Below w5.heap.size w5 W) => w14count_ok ca HC4.out (HT5.out.below hW))
  have HR : Hid (Row (w5.alloc (.cells #[.int .i64 5, .int .i64 7, .int .i64 8] 3)) (some ⟨w5.heap.size, 0, none⟩) [5, 7, 8]) := Lib.hid ⟨by decide, .inr ⟨_, 0, rfl, (Blk.new w5 _ _).lt, fun i hi => by
    have h := (Blk.new w5 3 #[.int .i64 5, .int .i64 7, .int .i64 8]).cell (0 + i)
    rw [h]
    match i, hi with
    | 0, _ => rfl
    | 1, _ => rfl
    | 2, _ => rfl⟩⟩
  have HBA : Hid (Below w5.heap.size w5 (w5.alloc (.cells #[.int .i64 5, .int .i64 7, .int .i64 8] 3))) := Lib.hid ((Below.refl _ w5).alloc (Nat.le_refl _) _)
  clear hb5 x4
  go_wp2_with fail
  refine (KI.out _ _ _ HBA.out HR.out).mono ?_
  rintro e w6 ⟨rfl, hb6⟩
  have HB6 := Lib.hid (HBA.out.trans (hb6.mono HBA.out.size))
  have x6 := (HX5.out.below HB6.out HX5.out.lt).cell 0
  simp only [List.getElem?_toArray, List.getElem?_cons_zero] at x6
  clear hb6 x5 c1 c2 c3
  go_wp2_with fail
  refine (KC.out _ HB6.out).mono ?_
  rintro e w7 ⟨rfl, hb7⟩
  have HB7 := Lib.hid (HB5.out.trans ((HB6.out.trans (hb7.mono HB6.out.size)).mono HB5.out.size))
  clear hb7 x6
  go_wp2
  refine bodyPost_ret (v := .bool true) (by simp [results, Tryz.results13, go_sem]) rfl ?_
  exact ⟨rfl, HB7.out⟩
end Go.Proofs.YtlipnnibagidiaaGreat
namespace Go.Proofs.YtlipnnibagidiaaGreat
open Go.RowKit Go.Lib
theorem append_zero_run {P : Program} {w : World} (base : Nat) (t ty e : TypeId) (i : TypeInfo) (size : Nat) (ht : P.underlying t = some (.slice e)) (hi : P.info? e = some i)
    (v : Value) (n : Nat) (xs : List Value) (hown : w.ownsRow base e size v n xs) (A : Option Addr) (c : Nat) :
    (Builtin.append_ #[t, t] ty #[v, .slice A 0 c]).run P w = .ok v w := by
  have h0 : ∀ a : Addr, (loadCells a 0).run P w = .ok #[] w := fun a => rfl
  rcases hown.2 with ⟨rfl, rfl⟩ | ⟨g, cap, cur, rfl, _, _, hnc, _⟩
  · cases A <;> simp [Builtin.append_, run_underlying ht, sizeOf, typeInfo, hi, Builtin.lenOf, Builtin.firstCells, h0]
  · cases A <;> simp [Builtin.append_, run_underlying ht, sizeOf, typeInfo, hi, Builtin.lenOf, Builtin.firstCells, hnc, storeCells, h0]
theorem append_rows_any {N : Nat → Prop} {w : World} {base : Nat} {v x : Value} {rs rows : List (Option Addr × Nat × List Int)} (ty : TypeId) (hown : w.ownsRow base 27 1 v rs.length (rs.map encR)) (hg : GridV N w x rows) (hl : rs.length + rows.length ≤ 1000000) (hbase : base ≤ w.heap.size) :
    ∃ v' w', (Builtin.append_ #[46, 46] ty #[v, x]).run Tryz.prog w = .ok v' w' ∧ w'.ownsRow base 27 1 v' (rs ++ rows).length ((rs ++ rows).map encR) ∧ w.grownBy w' v.ownBlock ∧ (v'.ownBlock = v.ownBlock ∨ v'.ownBlock = some w.heap.size) := by
  rcases Nat.eq_zero_or_pos rows.length with h0 | h0
  · obtain ⟨A, cap, rfl, _⟩ := hg.form
    obtain ⟨i0, hi, hz0, hz1, hz2⟩ := info_parts slice_info
    obtain rfl := List.eq_nil_of_length_eq_zero h0
    exact ⟨v, w, append_zero_run (P := Tryz.prog) (w := w) base 46 ty 27 i0 1 Tryz.underlying46 hi v rs.length _ hown A cap, by simpa using hown, ⟨rfl, rfl, rfl, Nat.le_refl _, fun _ _ _ => rfl⟩, .inl rfl⟩
  · exact append_rows_run ty hown hg hl hbase (.inr h0)
theorem writers_ok {w : World} (A : Option Addr) (n c : Nat) :
    Calls Tryz.prog 47 #[.agg #[.slice A n c]] w fun e w' => e = .returned (.func (.func 85) #[] #[.pointer (some ⟨w.heap.size, 0, none⟩)]) ∧ w' = w.alloc (.cells #[.slice A n c] 33) := by
  go_enter Tryz.func47, Tryz.ntmps47
  go_wp2
  go_ret
  exact ⟨rfl, rfl⟩
set_option maxRecDepth 100000 in
set_option maxHeartbeats 4000000 in
theorem writers_iter {A : Option Addr} {T : List Nd} (l b1 c : Nat) (X : Nat → World → Prop)
    (hc : T.length ≤ c) (hw : Well T) (hI : IteOk T) (hT : T.length ≤ 1000000)
    (hXg : ∀ i W, X i W → Tab W A T ∧ Blk W b1 33 #[.slice A T.length c] ∧ (∀ b, A = some b → 0 < T.length → b.block < W.heap.size))
    (hY : ∀ (i : Nat) (W0 W : World) (r : Nat) (ov : Value) (rows : List (Option Addr × Nat × List Int)), i < T.length → X i W0 → W0.heap.size ≤ r → Below W0.heap.size W0 W → WrS W r A T c i ov rows false → rows.map (fun p => p.2.2) = shapeP T i →
      ∃ fn tmps assign body, (Instr.yield l #[.pointer (some ⟨r, 0, none⟩)]).run Tryz.prog W = .ok (.round l fn tmps assign body) W ∧
        RoundIn Fence.wide 0 Tryz.prog l fn tmps assign body W fun e W' => e = .returned (.bool true) ∧ X (i + 1) W')
    (w : World) (hx0 : X 0 w) :
    Calls Tryz.prog 85 #[.func (.yield l) #[] #[], .pointer (some ⟨b1, 0, none⟩)] w fun e W' => e = .returned (.tuple #[]) ∧ X T.length W' := by
  have HX := Lib.hid hXg
  have HY := Lib.hid hY
  have H0 := Lib.hid hx0
  have hb1 := (hXg _ _ hx0).2.1
  have c1 := hb1.cell 0
  simp only [List.getElem?_toArray, List.getElem?_cons_zero] at c1
  have HKW := Lib.hid (fun (W : World) (r i : Nat) (hi : i < T.length) (hW : WrS W r A T c i (.slice none 0 0) [] false) => wwrite_ok hc hW (by simp) hw hI hT hi)
  clear hXg hY hx0 hb1 hw hI
  go_enter Tryz.func85, Tryz.ntmps85
  go_wp2
  go_loopg [8] T.length (fun g v wr => ∃ i : Nat, i + g = T.length ∧ v = .int .i64 i ∧ X i wr)
  case atStart => exact ⟨0, by omega, rfl, H0.out⟩
  case round =>
    obtain ⟨i, hig, rfl, hx⟩ := hrel
    have Hx := Lib.hid hx
    obtain ⟨htab, hblk, han⟩ := HX.out _ _ hx
    have HTb := Lib.hid htab
    have HBk := Lib.hid hblk
    have HAn := Lib.hid han
    have c2 := hblk.cell 0
    simp only [List.getElem?_toArray, List.getElem?_cons_zero] at c2
    clear hx hblk htab han c1
    cases gk with
    | zero =>
      obtain rfl : i = T.length := by omega
      have d1 : decide ((T.length : Int) < T.length) = false := by simp
      go_wp2
      refine bodyPost_end (results_none rfl _ _ _) rfl ⟨rfl, Hx.out⟩
    | succ gk =>
      have hlt : i < T.length := by omega
      have d1 : decide ((i : Int) < T.length) = true := by simp; omega
      have t1 : (0 : Int) ≤ (i : Int) := by omega
      have t2 : (i : Int) < (T.length : Int) := by omega
      obtain ⟨W1, hW1⟩ : ∃ W1, wr.alloc (.cells #[.slice A T.length c, .int .i64 i, .slice none 0 0, .bool false] 92) = W1 := ⟨_, rfl⟩
      obtain ⟨r, hr⟩ : ∃ r, wr.heap.size = r := ⟨_, rfl⟩
      have HWr : Hid (WrS W1 r A T c i (.slice none 0 0) [] false) := Lib.hid (by
        rw [← hW1, ← hr]
        exact ⟨Blk.new _ _ _, World.ownsRow_nil _ _ _ _, fun q hq => (by cases hq), HTb.out.alloc _, HAn.out, by simp⟩)
      have HB1 : Hid (Below r wr W1) := Lib.hid (by rw [← hW1, ← hr]; exact (Below.refl _ wr).alloc (Nat.le_refl _) _)
      have KW := Lib.hid (HKW.out W1 r i hlt HWr.out)
      have HWe := Lib.hid hW1
      have HRe := Lib.hid hr
      clear hW1 hr
      go_upto_region 4 with (fail)
      rw [HWe.out, HRe.out]
      clear HWe
      go_wp2_with fail
      refine KW.out.mono ?_
      rintro e W2 ⟨rfl, ov, ps, hps, hm, hb2⟩
      obtain ⟨fn, tmps, assign, body, hyield, hround⟩ := HY.out i wr W2 r ov ps hlt Hx.out (by rw [HRe.out]; exact Nat.le_refl _) (by have h := HB1.out.trans hb2; rw [HRe.out]; exact h) hps (by simpa [shapeP] using hm)
      have Hround := Lib.hid hround
      clear hround hps hm hb2 c2
      go_upto_region 5 with (fail)
      refine (wpIn_wide (n := 1)).1 ?_
      gi_wp2
      refine Hround.out.mono ?_
      rintro e W5 ⟨rfl, hx5⟩
      have Hx5 := Lib.hid hx5
      clear hx5
      gi_wp2
      go_wp2
      go_roundg gk
      case measure => omega
      case rel => exact ⟨i + 1, by omega, by go_num, Hx5.out⟩
theorem clausesP_len (T : List Nd) (id : Int) : (clausesP T id).length ≤ 4 := by
  unfold clausesP
  dsimp only
  repeat' split
  all_goals simp
theorem shapeP_len (T : List Nd) (id : Int) : (shapeP T id).length ≤ 4 := by
  unfold shapeP
  rw [List.length_map]
  exact clausesP_len T id
def sumP (T : List Nd) (i : Nat) : List (List Int) := (List.range i).flatMap fun k : Nat => shapeP T (k : Int)
theorem sumP_succ (T : List Nd) (i : Nat) : sumP T (i + 1) = sumP T i ++ shapeP T (i : Int) := by
  unfold sumP
  rw [List.range_succ, List.flatMap_append]
  simp
structure AW (w : World) (B L : Nat) (r : Loop) (A : Option Addr) (T : List Nd) (c i : Nat) (ov : Value) (rows : List (Option Addr × Nat × List Int)) (W : World) : Prop where
  loop : LoopAt W (L + 2) (L + 1) r
  t2 : Blk W (B + 1) 46 #[ov]
  t3 : Blk W (B + 2) 38 #[.int .i64 0]
  tb : Blk W L 33 #[.slice A T.length c]
  own : W.ownsRow (L + 3) 27 1 ov rows.length (rows.map encR)
  rn : RowsN (fun b => L + 3 ≤ b ∧ some b ≠ ov.ownBlock) W rows
  tab : Tab W A T
  t0 : Tab w A T
  kept : Below B w W
  hB : w.heap.size = B
  hL : B + 3 ≤ L
  len : rows.length ≤ 4 * i
  sum : rows.map (fun p => p.2.2) = sumP T i
section
variable {w W W' : World} {B L : Nat} {r : Loop} {A : Option Addr} {T : List Nd} {c i : Nat} {ov : Value} {rows : List (Option Addr × Nat × List Int)}
theorem AW.below (h : AW w B L r A T c i ov rows W) (hb : Below W.heap.size W W') : AW w B L r A T c i ov rows W' := by
  have hk := Kept.of_below (S := fun _ => False) hb
  exact ⟨h.loop.kept hk (fun e => e) (fun e => e), h.t2.below hb h.t2.lt, h.t3.below hb h.t3.lt, h.tb.below hb h.tb.lt, own_kept h.own hk (fun _ _ e => e), h.rn.kept hk (fun _ _ _ e => e), h.tab.below hb, h.t0, h.kept.trans (hb.mono (by rw [← h.hB]; exact h.kept.size)), h.hB, h.hL, h.len, h.sum⟩
theorem AW.putLoop (h : AW w B L r A T c i ov rows W) (r' : Loop) : AW w B L r' A T c i ov rows (W.putObj (L + 2) (.loop r')) := by
  have hk := Kept.putObj W (L + 2) (.loop r')
  have h1 := h.hL
  have hN : ∀ b, b < W.heap.size → (L + 3 ≤ b ∧ some b ≠ ov.ownBlock) → ¬ b = L + 2 := fun b _ hb e => by omega
  exact ⟨h.loop.put r', h.t2.kept hk (by omega), h.t3.kept hk (by omega), h.tb.kept hk (by omega), own_kept h.own hk (fun g hg => by have := (h.own.lt g hg).1; omega), h.rn.kept hk hN, h.tab.putObj h.loop.rec_ _, h.t0, h.kept.trans (hk.below (by rw [← h.hB]; exact h.kept.size) (fun k e => by omega)), h.hB, h.hL, h.len, h.sum⟩
theorem AW.push {r2 : Nat} {ov' : Value} {ps : List (Option Addr × Nat × List Int)} {W3 : World} (h : AW w B L r A T c i ov rows W) (hr : ∀ g, ov.ownBlock = some g → g < r2) (hL2 : L + 3 ≤ r2) (hrn : RowsN (fun b => r2 + 1 ≤ b) W ps) (hm : ps.map (fun p => p.2.2) = shapeP T i)
    (ho : W3.ownsRow (L + 3) 27 1 ov' (rows ++ ps).length ((rows ++ ps).map encR)) (hg : W.grownBy W3 ov.ownBlock) (hob : ov'.ownBlock = ov.ownBlock ∨ ov'.ownBlock = some W.heap.size) :
    AW w B L r A T c (i + 1) ov' (rows ++ ps) (W3.setCell ⟨B + 1, 0, none⟩ ov') := by
  have h1 := h.hL
  have hB := h.hB
  have hll := h.loop.lt
  have k2 : Kept (fun b => some b = ov.ownBlock) W W3 := (Kept.refl _ W).grown hg (fun k e => .inl e.symm)
  have k3 := Kept.set1 W3 (B + 1) 0 ov'
  have ho1 : ∀ b, some b = ov.ownBlock → L + 3 ≤ b := fun b e => (h.own.lt b e.symm).1
  have ho3 : ∀ b, ov'.ownBlock = some b → L + 3 ≤ b := fun b e => (ho.lt b e).1
  have b2 : Blk W3 (B + 1) 46 #[ov] := h.t2.kept k2 (fun e => by have := ho1 _ e; omega)
  have hbt2 := b2.set_ 0 ov'
  simp only [List.setIfInBounds_toArray, List.set_cons_zero] at hbt2
  have hsz := k2.size
  have hkb : Below B w (W3.setCell ⟨B + 1, 0, none⟩ ov') := (h.kept.trans (k2.below (by omega) (fun k e => by have := ho1 k e; omega))).trans (k3.below (by omega) (fun k e => by omega))
  have hps : RowsN (fun b => L + 3 ≤ b ∧ some b ≠ ov.ownBlock) W ps := hrn.mono fun b _ hb => ⟨by omega, fun e => by have := hr b e.symm; omega⟩
  have hall : RowsN (fun b => L + 3 ≤ b ∧ some b ≠ ov.ownBlock ∧ some b ≠ ov'.ownBlock) W (rows ++ ps) := (h.rn.append hps).mono fun b hb hc => ⟨hc.1, hc.2, fun e => by
    rcases hob with hob | hob
    · exact hc.2 (e.trans hob)
    · rw [hob] at e
      injection e with e
      omega⟩
  have hlen := congrArg List.length hm
  rw [List.length_map] at hlen
  have h4 := shapeP_len T i
  refine ⟨(h.loop.kept k2 (fun e => by have := ho1 _ e; omega) (fun e => by have := ho1 _ e; omega)).kept k3 (by omega) (by omega), hbt2, (h.t3.kept k2 (fun e => by have := ho1 _ e; omega)).kept k3 (by omega), (h.tb.kept k2 (fun e => by have := ho1 _ e; omega)).kept k3 (by omega),
    own_kept ho k3 (fun g hg => by have := ho3 g hg; omega), ?_, h.t0.below (by rw [hB]; exact hkb), h.t0, hkb, hB, h1, by have := h.len; rw [List.length_append]; omega, by rw [List.map_append, h.sum, hm, sumP_succ]⟩
  exact (((hall.kept k2 (fun b _ hb => hb.2.1)).mono (N' := fun b => L + 3 ≤ b ∧ some b ≠ ov'.ownBlock) fun b _ hb => ⟨hb.1, hb.2.2⟩)).kept k3 (fun b _ hb e => by omega)
theorem AW.fin (h : AW w B L r A T c i ov rows W) (v m : Value) :
    ((W.setCell ⟨B + 1, 0, none⟩ v).setCell ⟨B + 2, 0, none⟩ m).heap[L + 1]? = some (.deferred (some [])) ∧
    (((W.setCell ⟨B + 1, 0, none⟩ v).setCell ⟨B + 2, 0, none⟩ m).putObj (L + 1) (.deferred none)).cell? ⟨B + 1, 0, none⟩ = some v ∧
    (((W.setCell ⟨B + 1, 0, none⟩ v).setCell ⟨B + 2, 0, none⟩ m).putObj (L + 1) (.deferred none)).cell? ⟨B + 2, 0, none⟩ = some m ∧
    Below B w (((W.setCell ⟨B + 1, 0, none⟩ v).setCell ⟨B + 2, 0, none⟩ m).putObj (L + 1) (.deferred none)) ∧
    Kept (fun b => b = B + 1 ∨ b = B + 2 ∨ b = L + 1) W (((W.setCell ⟨B + 1, 0, none⟩ v).setCell ⟨B + 2, 0, none⟩ m).putObj (L + 1) (.deferred none)) := by
  have h1 := h.hL
  have hB := h.hB
  have hsz := h.kept.size
  have k1 := Kept.set1 W (B + 1) 0 v
  have k2 := Kept.set1 (W.setCell ⟨B + 1, 0, none⟩ v) (B + 2) 0 m
  have k3 := Kept.putObj ((W.setCell ⟨B + 1, 0, none⟩ v).setCell ⟨B + 2, 0, none⟩ m) (L + 1) (.deferred none)
  have hk : Kept (fun b => b = B + 1 ∨ b = B + 2 ∨ b = L + 1) W (((W.setCell ⟨B + 1, 0, none⟩ v).setCell ⟨B + 2, 0, none⟩ m).putObj (L + 1) (.deferred none)) := ((k1.mono fun _ _ e => .inl e).trans (k2.mono fun _ _ e => .inr (.inl e))).trans (k3.mono fun _ _ e => .inr (.inr e))
  have b2 := ((h.t2.set_ 0 v).kept k2 (by omega)).kept k3 (by omega)
  have b3 := ((h.t3.kept k1 (by omega)).set_ 0 m).kept k3 (by omega)
  have c2 := b2.cell 0
  have c3 := b3.cell 0
  simp only [List.getElem?_toArray, List.getElem?_cons_zero, List.setIfInBounds_toArray, List.set_cons_zero] at c2 c3
  exact ⟨((h.loop.kept k1 (by omega) (by omega)).kept k2 (by omega) (by omega)).def_, c2, c3, h.kept.trans (hk.below (by omega) (fun k e => by omega)), hk⟩
end
end Go.Proofs.YtlipnnibagidiaaGreat

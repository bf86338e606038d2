/- ShapeNames' walk. -/
import Derived.Test.YtlipnnibagidiaaGreatCfB
import Derived.Test.YtlipnnibagidiaaGreatWxB
import Derived.Test.YtlipnnibagidiaaGreatQuiet
import Derived.Test.YtlipnnibagidiaaGreatRfA
namespace Go.Proofs.YtlipnnibagidiaaGreat
open Go.RowKit Go.Lib Go.ChangeShapes Go.WideShapes Go.ChangeAt

set_option maxRecDepth 100000 in
set_option maxHeartbeats 2000000 in
theorem shapeNames_big {w : World} {A : Option Addr} {n c : Nat} {B : Option Addr} {lB cB : Nat} (h : 300 < n ∨ 100 < lB) :
    Calls Tryz.prog 5 #[.agg #[.slice A n c], .slice B lB cB] w (fun e w' => e = .returned (.bool true) ∧ Below w.heap.size w w') := by
  have HB0 : Hid (Below w.heap.size w (w.alloc (.cells #[.slice A n c] 33))) := Lib.hid ((Below.refl _ w).alloc (Nat.le_refl _) _)
  have KG := Lib.hid (rgreat_ok (w := w.alloc (.cells #[.slice A n c] 33)) A n c)
  by_cases hn : 300 < n
  · have d := decide_eq_true hn
    rw [d] at KG
    clear h hn d
    go_enter Tryz.func5, Tryz.ntmps5
    go_wp2_with fail
    refine KG.out.mono ?_
    rintro e w1 ⟨rfl, hb1⟩
    have HB1 := Lib.hid (HB0.out.trans (hb1.mono HB0.out.size))
    clear hb1
    go_wp2_with fail
    refine (wakes14_ok _).mono ?_
    rintro e w2 ⟨rfl, hb2⟩
    have HB2 := Lib.hid (HB1.out.trans (hb2.mono HB1.out.size))
    clear hb2
    go_wp2
    go_ret
    exact ⟨rfl, HB2.out⟩
  have d := decide_eq_false hn
  rw [d] at KG
  clear d
  have hB : 100 < lB := by omega
  have eB : decide (((lB : Nat) : Int) > 100) = true := by simp; omega
  have fB : decide ((100 : Int) < ((lB : Nat) : Int)) = true := by simp; omega
  clear h hn hB
  go_enter Tryz.func5, Tryz.ntmps5
  go_wp2_with fail
  refine KG.out.mono ?_
  rintro e w1 ⟨rfl, hb1⟩
  have HB1 := Lib.hid (HB0.out.trans (hb1.mono HB0.out.size))
  clear hb1
  go_wp2_with fail
  refine (wakes14_ok _).mono ?_
  rintro e w2 ⟨rfl, hb2⟩
  have HB2 := Lib.hid (HB1.out.trans (hb2.mono HB1.out.size))
  clear hb2
  go_wp2
  go_ret
  exact ⟨rfl, HB2.out⟩
set_option maxRecDepth 100000 in
set_option maxHeartbeats 16000000 in
theorem shapeNames_core {w : World} {A B : Option Addr} {T : List Nd} {LB : List Int} (c cB : Nat) (h : Tab w A T) (hB : Row w B LB) (hlT : T.length ≤ 300) (hlB : LB.length ≤ 100) :
    Calls Tryz.prog 5 #[.agg #[.slice A T.length c], .slice B LB.length cB] w (fun e w' => e = .returned (.bool true) ∧ Below w.heap.size w w') := by
  have eB : decide (((LB.length : Nat) : Int) > 100) = false := by simp; omega
  have fB : decide ((100 : Int) < ((LB.length : Nat) : Int)) = false := by simp; omega
  have HB0 : Hid (Below w.heap.size w (w.alloc (.cells #[.slice A T.length c] 33))) := Lib.hid ((Below.refl _ w).alloc (Nat.le_refl _) _)
  have HT0 := Lib.hid (Blk.new w 33 #[.slice A T.length c])
  have KG := Lib.hid (rgreat_ok (w := w.alloc (.cells #[.slice A T.length c] 33)) A T.length c)
  rw [decide_eq_false (show ¬ 300 < T.length by omega)] at KG
  have H := Lib.hid h
  have HIB := Lib.hid hB
  clear h hB hlT hlB
  go_enter Tryz.func5, Tryz.ntmps5
  go_wp2_with fail
  refine KG.out.mono ?_
  rintro e w1 ⟨rfl, hb1⟩
  have HB1 := Lib.hid (HB0.out.trans (hb1.mono HB0.out.size))
  have HT1 := Lib.hid (HT0.out.below hb1 HT0.out.lt)
  have x1 := HT1.out.cell 0
  simp only [List.getElem?_toArray, List.getElem?_cons_zero] at x1
  clear hb1
  go_wp2_with fail
  refine (cof_ok c cB 2000 (by decide) (H.out.below HB1.out) (HIB.out.below HB1.out)).mono ?_
  rintro e w2 ⟨CA, C, cc, oA, on, oc, er, rfl, hok, hb2⟩
  have hB2 := HB1.out.trans (hb2.mono HB1.out.size)
  have hbA : Below w2.heap.size w2 (w2.alloc (.cells #[.slice CA C.length cc] 33)) := (Below.refl _ w2).alloc (Nat.le_refl _) _
  obtain ⟨w3, hw3⟩ : ∃ w3, w2.alloc (.cells #[.slice CA C.length cc] 33) = w3 := ⟨_, rfl⟩
  obtain ⟨pC, hpC⟩ : ∃ pC, w2.heap.size = pC := ⟨_, rfl⟩
  have HB3 : Hid (Below w.heap.size w w3) := Lib.hid (by rw [← hw3]; exact hB2.trans (hbA.mono hB2.size))
  have HC3 : Hid (Blk w3 pC 33 #[.slice CA C.length cc]) := Lib.hid (by rw [← hw3, ← hpC]; exact Blk.new _ _ _)
  have HOK : Hid (er = 0 → Well C ∧ IteOk C ∧ (C.length : Int) ≤ max 2 2000 ∧ Tab w3 CA C ∧ C.length ≤ cc) := Lib.hid (fun e => by
    obtain ⟨g1, g2, g3, g4, g5⟩ := hok e
    exact ⟨g1, g2, g3, by rw [← hw3]; exact g4.alloc _, g5⟩)
  have HGE : Hid (w.heap.size ≤ pC) := Lib.hid (by rw [← hpC]; exact hB2.size)
  have HW3 := Lib.hid hw3
  have HPC := Lib.hid hpC
  clear hok hb2 hB2 hbA x1 hw3 hpC
  go_upto_region 4 with (fail)
  rw [HW3.out, HPC.out]
  clear HW3 HPC
  by_cases he : er = 0
  rotate_left
  · have e1 : (er != 0) = true := by simpa using he
    clear he HOK
    go_wp2_with fail
    refine (wakes14_ok _).mono ?_
    rintro e w4 ⟨rfl, hb4⟩
    have HB4 := Lib.hid (HB3.out.trans (hb4.mono HB3.out.size))
    clear hb4
    go_wp2
    go_ret
    exact ⟨rfl, HB4.out⟩
  subst he
  obtain ⟨hwl, hit, hml, htc, hcc⟩ := HOK.out rfl
  have HWl := Lib.hid hwl
  have HIt := Lib.hid hit
  have HML : Hid (C.length ≤ 2000) := Lib.hid (by omega)
  have HTC := Lib.hid htc
  have HCC := Lib.hid hcc
  have x3 := HC3.out.cell 0
  simp only [List.getElem?_toArray, List.getElem?_cons_zero] at x3
  clear hwl hit hml htc hcc HOK
  have hml := HML.out
  have HCl : Hid (∀ W, Below w3.heap.size w3 W → W.cell? ⟨pC, 0, none⟩ = some (.slice CA C.length cc)) := Lib.hid (fun W hW => (HC3.out.below hW HC3.out.lt).cell 0)
  have KOf := Lib.hid (fun (W : World) (hW : Below w3.heap.size w3 W) (k : Nat) (hk : k < C.length) => shof_ok cc HCC.out (HTC.out.below hW) HWl.out HIt.out k hk)
  have KCt := Lib.hid (fun (W : World) (hW : Below w3.heap.size w3 W) (k : Nat) (hk : k < C.length) => shcount_ok cc HCC.out (HTC.out.below hW) HWl.out HIt.out k hk)
  have KIs := Lib.hid (fun (W : World) (hW : Below w3.heap.size w3 W) (k : Nat) (hk : k < C.length) (ra : Option Addr) (rc : Nat) (rl : List Int) (hr : Row W ra rl) (hm : rl ∈ shapeP C k) => shis_ok cc rc HCC.out (HTC.out.below hW) HWl.out HIt.out k hk hr hm)
  have KNm := Lib.hid (fun (W : World) (hW : Below w3.heap.size w3 W) (k : Nat) (ra : Option Addr) (rc : Nat) (rl : List Int) (hr : Row W ra rl) (h1 : ∀ x ∈ rl, InT C x) (h2 : ∃ x ∈ rl, NamesL C k x) => names_ok cc rc (HTC.out.below hW) hr k h1 h2)
  have HNa := Lib.hid (fun (k : Nat) (hk : k < C.length) => shapeP_names HWl.out HIt.out (id := (k : Int)) (by omega) (by omega))
  have HBz3 : Hid (Below w3.heap.size w3 w3) := Lib.hid (Below.refl _ _)
  have HSm : Hid (∀ i, (sumP C i).length ≤ 4 * i) := Lib.hid (fun i => by
    induction i with
    | zero => exact Nat.le_refl _
    | succ i ih => rw [sumP_succ, List.length_append]; have := shapeP_len C i; omega)
  clear x3
  go_wp2
  go_loopg [9, 8] C.length (fun g v vn W => ∃ i N : Nat, i + g = C.length ∧ v = .int .i64 i ∧ vn = .int .i64 N ∧ N = (sumP C i).length ∧ Below w3.heap.size w3 W)
  case atStart => exact ⟨0, 0, by omega, rfl, rfl, rfl, HBz3.out⟩
  case round =>
    obtain ⟨i, N, hig, rfl, rfl, hN, hb⟩ := hrel
    have HN := Lib.hid hN
    have HB4 := Lib.hid hb
    have hN4 : N ≤ 4 * i := by rw [hN]; exact HSm.out i
    have p0 := HCl.out wr hb
    clear hN hb
    cases gk with
    | zero =>
      obtain rfl : i = C.length := by omega
      have d1 : decide ((C.length : Int) < C.length) = false := by simp
      go_wp2_with fail
      refine (shall_ok cc HCC.out (HTC.out.below HB4.out) HWl.out HIt.out (by have := HML.out; omega)).mono ?_
      rintro e w5 ⟨v, rows, rfl, hg, hrows, hb5⟩
      obtain ⟨VA, vc, rfl, _⟩ := hg.form
      have hrl : rows.length = N := by have := congrArg List.length hrows; rw [List.length_map] at this; rw [this, HN.out]
      rw [hrl]
      have HB5 := Lib.hid (HB3.out.trans ((HB4.out.trans (hb5.mono HB4.out.size)).mono HB3.out.size))
      clear hg hrows hb5 hrl p0
      go_wp2_with fail
      refine (wakes14_ok _).mono ?_
      rintro e wz ⟨rfl, hbz⟩
      have HBz := Lib.hid ((HB5.out).trans (hbz.mono (HB5.out).size))
      clear hbz
      go_wp2
      go_ret
      exact ⟨rfl, HBz.out⟩
    | succ gk =>
      have hlt : i < C.length := by omega
      have d1 : decide ((i : Int) < C.length) = true := by simp; omega
      have HNi := Lib.hid (HNa.out i hlt)
      obtain ⟨gk0, rfl⟩ : ∃ go : Nat, go = gk := ⟨_, rfl⟩
      go_wp2_with fail
      refine (KOf.out _ HB4.out i hlt).mono ?_
      rintro e w5 ⟨v, rows, rfl, hg, hrows, hb5⟩
      have HB5 := Lib.hid (HB4.out.trans (hb5.mono HB4.out.size))
      obtain ⟨VA, vc, rfl, _, _, hat⟩ := hg.form
      have hrl : (shapeP C i).length = rows.length := by have := congrArg List.length hrows; rw [List.length_map] at this; exact this.symm
      obtain ⟨m, hm⟩ : ∃ m, rows.length = m := ⟨_, rfl⟩
      have hm4 : m ≤ 4 := by have := shapeP_len C i; omega
      have HSn : Hid ((sumP C (i + 1)).length = N + m) := Lib.hid (by rw [sumP_succ, List.length_append, ← HN.out, hrl, hm])
      have HAt : Hid (0 < m → ∃ vb voff, VA = some ⟨vb, voff, none⟩ ∧ vb < w5.heap.size ∧ ∀ j, j < m → ∃ r : Option Addr × Nat × List Int, w5.cell? ⟨vb, voff + j, none⟩ = some (.slice r.1 r.2.2.length r.2.1) ∧ Row w5 r.1 r.2.2 ∧ r.2.2 ∈ shapeP C i) := Lib.hid (fun h0 => by
        obtain ⟨vb, voff, hVA, _, hvb, hcell⟩ := hat.resolve_left (by omega)
        exact ⟨vb, voff, hVA, hvb, fun j hj => ⟨rows[j], hcell j (by omega), (hg.rows _ (List.getElem_mem (by omega))).1.row, by rw [← hrows]; exact List.mem_map.2 ⟨_, List.getElem_mem (by omega), rfl⟩⟩⟩)
      have p1 := HCl.out w5 HB5.out
      have KC := Lib.hid (KCt.out _ HB5.out i hlt)
      rw [hrl] at KC
      rw [hm] at KC ⊢
      clear hg hrows hb5 hrl hm hat p0
      go_wp2_with fail
      refine KC.out.mono ?_
      rintro e w6 ⟨rfl, hb6⟩
      have HB6 := Lib.hid (HB5.out.trans (hb6.mono HB5.out.size))
      have HB56 := Lib.hid hb6
      have HBz6 : Hid (Below w6.heap.size w6 w6) := Lib.hid (Below.refl _ _)
      clear hb6 p1 KC
      go_wp2
      go_loopg [12] m (fun g v W => ∃ j : Nat, j + g = m ∧ v = .int .i64 j ∧ Below w6.heap.size w6 W)
      case atStart => exact ⟨0, by omega, rfl, HBz6.out⟩
      case round =>
        obtain ⟨j, hjg, rfl, hb⟩ := hrel
        have HB7 := Lib.hid hb
        clear hb
        cases gk with
        | zero =>
          obtain rfl : j = m := by omega
          have d2 : decide ((j : Int) < (j : Int)) = false := by simp
          have hw : IntKind.i64.wrap ((N : Int) + (j : Int)) = (N : Int) + (j : Int) := by unfold IntKind.wrap; simp [IntKind.bits, IntKind.signed]; omega
          go_wp2
          go_roundg gk0
          case measure => omega
          case rel => exact ⟨i + 1, N + j, by omega, by go_num, by go_num, HSn.out.symm, HB6.out.trans (HB7.out.mono HB6.out.size)⟩
        | succ g3 =>
          have hjm : j < m := by omega
          have d2 : decide ((j : Int) < (m : Int)) = true := by simp; omega
          have u1 : (0 : Int) ≤ (j : Int) := by omega
          have u2 : (j : Int) < (m : Int) := by omega
          obtain ⟨vb, voff, hVA, hvb, hall⟩ := HAt.out (by omega)
          obtain ⟨⟨ra, rc, rl⟩, g1, g2, g3'⟩ := hall j hjm
          dsimp only at g1 g2 g3'
          subst hVA
          have hb57 : Below w5.heap.size w5 wr := HB56.out.trans (HB7.out.mono HB56.out.size)
          have HB8 := Lib.hid (HB6.out.trans (HB7.out.mono HB6.out.size))
          obtain ⟨nc, no, nn⟩ := HNi.out rl g3'
          have KR : Hid (∀ W, Below wr.heap.size wr W → Calls Tryz.prog 21 #[.slice ra rl.length rc] W (fun e w' => e = .returned (.bool true) ∧ Below W.heap.size W w')) := Lib.hid (fun W hW => (rise14_ok rc (g2.below (hb57.trans (hW.mono hb57.size))) no).mono fun e w' ⟨h1, q, h2⟩ => ⟨h1, by rw [h2]; exact below_drewN (Below.refl _ _) q⟩)
          have KI : Hid (∀ W, Below wr.heap.size wr W → Calls Tryz.prog 22 #[.agg #[.slice CA C.length cc], .int .i64 i, .slice ra rl.length rc] W (fun e w' => e = .returned (.bool true) ∧ Below W.heap.size W w')) := Lib.hid (fun W hW => KIs.out W (HB8.out.trans (hW.mono HB8.out.size)) i hlt ra rc rl (g2.below (hb57.trans (hW.mono hb57.size))) g3')
          have KN : Hid (∀ W, Below wr.heap.size wr W → Calls Tryz.prog 23 #[.agg #[.slice CA C.length cc], .int .i64 i, .slice ra rl.length rc] W (fun e w' => e = .returned (.bool true) ∧ Below W.heap.size W w')) := Lib.hid (fun W hW => KNm.out W (HB8.out.trans (hW.mono HB8.out.size)) i ra rc rl (g2.below (hb57.trans (hW.mono hb57.size))) nc.in_ nc.names)
          have HFx : Hid (∀ W, Below wr.heap.size wr W → W.cell? ⟨pC, 0, none⟩ = some (.slice CA C.length cc) ∧ W.cell? ⟨vb, voff + j, none⟩ = some (.slice ra rl.length rc)) := Lib.hid (fun W hW => ⟨HCl.out W (HB8.out.trans (hW.mono HB8.out.size)), by rw [(hb57.trans (hW.mono hb57.size)).cell (p := ⟨vb, voff + j, none⟩) hvb]; exact g1⟩)
          have hl3 : rl.length ≤ 3 := nc.len
          have hl0 : 0 < rl.length := List.length_pos_iff.2 nn
          obtain ⟨ln, hln⟩ : ∃ ln, rl.length = ln := ⟨_, rfl⟩
          rw [hln] at KR KI KN HFx hl3 hl0
          have e1 : ((ln : Int) == 0) = false := beq_eq_false_iff_ne.2 (by omega)
          have e2 : decide ((ln : Int) > 3) = false := decide_eq_false (by omega)
          have e2' : decide ((3 : Int) < (ln : Int)) = false := decide_eq_false (by omega)
          clear g1 g2 g3' hall hvb hb57 nc no nn hln hl3 hl0
          go_upto_region 17 with (fail)
          refine wp_region_quiet (C := fun w' => Below wr.heap.size wr w') (by kernel_rfl) (by kernel_rfl) (⟨rfl, rfl, rfl, Nat.le_refl _, fun _ _ => rfl⟩) ?_
          refine QW.lit ?_
          refine qw_want rfl ?_ (fun w' hw' => ?_) ?_
          rotate_left
          · unfold Oper.quietAt
            go_simp
            exact rfl
          simp only [Act.put, List.setIfInBounds_toArray, List.set_cons_succ, List.set_cons_zero]
          refine qw_want rfl ?_ (fun w' hw' => ?_) ?_
          rotate_left
          · unfold Oper.quietAt
            go_simp
            exact rfl
          simp only [Act.put, List.setIfInBounds_toArray, List.set_cons_succ, List.set_cons_zero]
          refine qw_want rfl ?_ (fun w' hw' => ?_) ?_
          rotate_left
          · unfold Oper.quietAt
            go_simp
            exact rfl
          simp only [Act.put, List.setIfInBounds_toArray, List.set_cons_succ, List.set_cons_zero]
          refine qw_want rfl ?_ (fun w' hw' => ?_) ?_
          rotate_left
          · obtain ⟨k0, k1⟩ := HFx.out w' hw'
            unfold Oper.quietAt
            go_simp
            exact rfl
          simp only [Act.put, List.setIfInBounds_toArray, List.set_cons_succ, List.set_cons_zero]
          refine qw_want rfl (.bool true) (fun w' hw' => ?_) ?_
          · unfold Oper.quietAt
            go_simp
            refine (KR.out w' hw').mono ?_
            rintro e w2 ⟨rfl, hb⟩
            have hz := below_then hw' (Nat.le_refl _) hb
            exact ⟨rfl, by simpa using hz⟩
          simp only [Act.put, List.setIfInBounds_toArray, List.set_cons_succ, List.set_cons_zero]
          refine qw_want rfl ?_ (fun w' hw' => ?_) ?_
          rotate_left
          · unfold Oper.quietAt
            go_simp
            exact rfl
          simp only [Act.put, List.setIfInBounds_toArray, List.set_cons_succ, List.set_cons_zero]
          refine qw_want rfl ?_ (fun w' hw' => ?_) ?_
          rotate_left
          · unfold Oper.quietAt
            go_simp
            exact rfl
          simp only [Act.put, List.setIfInBounds_toArray, List.set_cons_succ, List.set_cons_zero]
          refine qw_want rfl ?_ (fun w' hw' => ?_) ?_
          rotate_left
          · unfold Oper.quietAt
            go_simp
            exact rfl
          simp only [Act.put, List.setIfInBounds_toArray, List.set_cons_succ, List.set_cons_zero]
          refine qw_want rfl ?_ (fun w' hw' => ?_) ?_
          rotate_left
          · unfold Oper.quietAt
            go_simp
            exact rfl
          simp only [Act.put, List.setIfInBounds_toArray, List.set_cons_succ, List.set_cons_zero]
          refine qw_want rfl ?_ (fun w' hw' => ?_) ?_
          rotate_left
          · unfold Oper.quietAt
            go_simp
            exact rfl
          simp only [Act.put, List.setIfInBounds_toArray, List.set_cons_succ, List.set_cons_zero]
          refine qw_want rfl ?_ (fun w' hw' => ?_) ?_
          rotate_left
          · obtain ⟨k0, k1⟩ := HFx.out w' hw'
            unfold Oper.quietAt
            go_simp
            exact rfl
          simp only [Act.put, List.setIfInBounds_toArray, List.set_cons_succ, List.set_cons_zero]
          refine qw_want rfl ?_ (fun w' hw' => ?_) ?_
          rotate_left
          · unfold Oper.quietAt
            go_simp
            exact rfl
          simp only [Act.put, List.setIfInBounds_toArray, List.set_cons_succ, List.set_cons_zero]
          refine qw_want rfl ?_ (fun w' hw' => ?_) ?_
          rotate_left
          · unfold Oper.quietAt
            go_simp
            exact rfl
          simp only [Act.put, List.setIfInBounds_toArray, List.set_cons_succ, List.set_cons_zero]
          refine qw_want rfl ?_ (fun w' hw' => ?_) ?_
          rotate_left
          · unfold Oper.quietAt
            go_simp
            exact rfl
          simp only [Act.put, List.setIfInBounds_toArray, List.set_cons_succ, List.set_cons_zero]
          refine qw_want rfl ?_ (fun w' hw' => ?_) ?_
          rotate_left
          · unfold Oper.quietAt
            go_simp
            exact rfl
          simp only [Act.put, List.setIfInBounds_toArray, List.set_cons_succ, List.set_cons_zero]
          refine qw_want rfl ?_ (fun w' hw' => ?_) ?_
          rotate_left
          · unfold Oper.quietAt
            go_simp
            exact rfl
          simp only [Act.put, List.setIfInBounds_toArray, List.set_cons_succ, List.set_cons_zero]
          refine qw_want rfl ?_ (fun w' hw' => ?_) ?_
          rotate_left
          · unfold Oper.quietAt
            go_simp
            exact rfl
          simp only [Act.put, List.setIfInBounds_toArray, List.set_cons_succ, List.set_cons_zero]
          refine qw_want rfl ?_ (fun w' hw' => ?_) ?_
          rotate_left
          · unfold Oper.quietAt
            go_simp
            exact rfl
          simp only [Act.put, List.setIfInBounds_toArray, List.set_cons_succ, List.set_cons_zero]
          refine qw_want rfl ?_ (fun w' hw' => ?_) ?_
          rotate_left
          · obtain ⟨k0, k1⟩ := HFx.out w' hw'
            unfold Oper.quietAt
            go_simp
            exact rfl
          simp only [Act.put, List.setIfInBounds_toArray, List.set_cons_succ, List.set_cons_zero]
          refine qw_want rfl ?_ (fun w' hw' => ?_) ?_
          rotate_left
          · unfold Oper.quietAt
            go_simp
            exact rfl
          simp only [Act.put, List.setIfInBounds_toArray, List.set_cons_succ, List.set_cons_zero]
          refine qw_want rfl ?_ (fun w' hw' => ?_) ?_
          rotate_left
          · unfold Oper.quietAt
            go_simp
            exact rfl
          simp only [Act.put, List.setIfInBounds_toArray, List.set_cons_succ, List.set_cons_zero]
          refine qw_want rfl ?_ (fun w' hw' => ?_) ?_
          rotate_left
          · unfold Oper.quietAt
            go_simp
            exact rfl
          simp only [Act.put, List.setIfInBounds_toArray, List.set_cons_succ, List.set_cons_zero]
          refine qw_want rfl ?_ (fun w' hw' => ?_) ?_
          rotate_left
          · unfold Oper.quietAt
            go_simp
            exact rfl
          simp only [Act.put, List.setIfInBounds_toArray, List.set_cons_succ, List.set_cons_zero]
          refine qw_want rfl ?_ (fun w' hw' => ?_) ?_
          rotate_left
          · obtain ⟨k0, k1⟩ := HFx.out w' hw'
            unfold Oper.quietAt
            go_simp
            exact rfl
          simp only [Act.put, List.setIfInBounds_toArray, List.set_cons_succ, List.set_cons_zero]
          refine qw_want rfl ?_ (fun w' hw' => ?_) ?_
          rotate_left
          · unfold Oper.quietAt
            go_simp
            exact rfl
          simp only [Act.put, List.setIfInBounds_toArray, List.set_cons_succ, List.set_cons_zero]
          refine qw_want rfl ?_ (fun w' hw' => ?_) ?_
          rotate_left
          · unfold Oper.quietAt
            go_simp
            exact rfl
          simp only [Act.put, List.setIfInBounds_toArray, List.set_cons_succ, List.set_cons_zero]
          refine qw_want rfl ?_ (fun w' hw' => ?_) ?_
          rotate_left
          · unfold Oper.quietAt
            go_simp
            exact rfl
          simp only [Act.put, List.setIfInBounds_toArray, List.set_cons_succ, List.set_cons_zero]
          refine qw_want rfl ?_ (fun w' hw' => ?_) ?_
          rotate_left
          · unfold Oper.quietAt
            go_simp
            exact rfl
          simp only [Act.put, List.setIfInBounds_toArray, List.set_cons_succ, List.set_cons_zero]
          refine qw_want rfl ?_ (fun w' hw' => ?_) ?_
          rotate_left
          · obtain ⟨k0, k1⟩ := HFx.out w' hw'
            unfold Oper.quietAt
            go_simp
            exact rfl
          simp only [Act.put, List.setIfInBounds_toArray, List.set_cons_succ, List.set_cons_zero]
          refine qw_want rfl (.bool true) (fun w' hw' => ?_) ?_
          · unfold Oper.quietAt
            go_simp
            refine (KI.out w' hw').mono ?_
            rintro e w2 ⟨rfl, hb⟩
            have hz := below_then hw' (Nat.le_refl _) hb
            exact ⟨rfl, by simpa using hz⟩
          simp only [Act.put, List.setIfInBounds_toArray, List.set_cons_succ, List.set_cons_zero]
          refine qw_want rfl ?_ (fun w' hw' => ?_) ?_
          rotate_left
          · unfold Oper.quietAt
            go_simp
            exact rfl
          simp only [Act.put, List.setIfInBounds_toArray, List.set_cons_succ, List.set_cons_zero]
          refine qw_want rfl ?_ (fun w' hw' => ?_) ?_
          rotate_left
          · unfold Oper.quietAt
            go_simp
            exact rfl
          simp only [Act.put, List.setIfInBounds_toArray, List.set_cons_succ, List.set_cons_zero]
          refine qw_want rfl ?_ (fun w' hw' => ?_) ?_
          rotate_left
          · unfold Oper.quietAt
            go_simp
            exact rfl
          simp only [Act.put, List.setIfInBounds_toArray, List.set_cons_succ, List.set_cons_zero]
          refine qw_want rfl ?_ (fun w' hw' => ?_) ?_
          rotate_left
          · obtain ⟨k0, k1⟩ := HFx.out w' hw'
            unfold Oper.quietAt
            go_simp
            exact rfl
          simp only [Act.put, List.setIfInBounds_toArray, List.set_cons_succ, List.set_cons_zero]
          refine qw_want rfl ?_ (fun w' hw' => ?_) ?_
          rotate_left
          · unfold Oper.quietAt
            go_simp
            exact rfl
          simp only [Act.put, List.setIfInBounds_toArray, List.set_cons_succ, List.set_cons_zero]
          refine qw_want rfl ?_ (fun w' hw' => ?_) ?_
          rotate_left
          · unfold Oper.quietAt
            go_simp
            exact rfl
          simp only [Act.put, List.setIfInBounds_toArray, List.set_cons_succ, List.set_cons_zero]
          refine qw_want rfl ?_ (fun w' hw' => ?_) ?_
          rotate_left
          · unfold Oper.quietAt
            go_simp
            exact rfl
          simp only [Act.put, List.setIfInBounds_toArray, List.set_cons_succ, List.set_cons_zero]
          refine qw_want rfl ?_ (fun w' hw' => ?_) ?_
          rotate_left
          · unfold Oper.quietAt
            go_simp
            exact rfl
          simp only [Act.put, List.setIfInBounds_toArray, List.set_cons_succ, List.set_cons_zero]
          refine qw_want rfl ?_ (fun w' hw' => ?_) ?_
          rotate_left
          · obtain ⟨k0, k1⟩ := HFx.out w' hw'
            unfold Oper.quietAt
            go_simp
            exact rfl
          simp only [Act.put, List.setIfInBounds_toArray, List.set_cons_succ, List.set_cons_zero]
          refine qw_want rfl (.bool true) (fun w' hw' => ?_) ?_
          · unfold Oper.quietAt
            go_simp
            refine (KN.out w' hw').mono ?_
            rintro e w2 ⟨rfl, hb⟩
            have hz := below_then hw' (Nat.le_refl _) hb
            exact ⟨rfl, by simpa using hz⟩
          simp only [Act.put, List.setIfInBounds_toArray, List.set_cons_succ, List.set_cons_zero]
          refine qw_want rfl ?_ (fun w' hw' => ?_) ?_
          rotate_left
          · unfold Oper.quietAt
            go_simp
            exact rfl
          simp only [Act.put, List.setIfInBounds_toArray, List.set_cons_succ, List.set_cons_zero]
          refine qw_want rfl ?_ (fun w' hw' => ?_) ?_
          rotate_left
          · unfold Oper.quietAt
            go_simp
            exact rfl
          simp only [Act.put, List.setIfInBounds_toArray, List.set_cons_succ, List.set_cons_zero]
          refine qw_end (fun w5 hb5 => ?_)
          have HB9 := Lib.hid (HB7.out.trans (hb5.mono HB7.out.size))
          clear hb5
          go_wp2
          go_roundg g3
          case measure => omega
          case rel => exact ⟨j + 1, by omega, by go_num, HB9.out⟩
/-- ShapeNames, whatever came in. -/
theorem shapeNames_walk (x : TabIn) (A1 : Option Addr) (l1 c1 : Nat) (z1 : List Int) (w : World) (h : x.Ok w) (h1 : IsRow .i64 w A1 l1 c1 z1) :
    Calls Tryz.prog 5 #[x.val, .slice A1 l1 c1] w (fun e w' => e = .returned (.bool true) ∧ Below w.heap.size w w') := by
  obtain ⟨A, n, c, f⟩ := x
  unfold TabIn.val TabIn.Ok at *
  simp only at h ⊢
  by_cases hb : 300 < n ∨ 100 < l1
  · exact shapeNames_big hb
  · obtain ⟨T, hT, htab⟩ : ∃ T : List Nd, T.length = n ∧ Tab w A T := ⟨_, by simp, h.tab (by omega)⟩
    obtain ⟨L, e1, hL, _⟩ := isRow_row h1 (by omega)
    rw [← hT, ← e1]
    exact shapeNames_core c c1 htab hL (by omega) (by omega)
end Go.Proofs.YtlipnnibagidiaaGreat

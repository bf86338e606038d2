/- ShareCounts' walk. -/
import Derived.Test.YtlipnnibagidiaaGreatSpP
import Derived.Test.YtlipnnibagidiaaGreatWiA
import Derived.Test.YtlipnnibagidiaaGreatOfC
import Derived.Test.YtlipnnibagidiaaGreatIntIn
import Derived.Test.YtlipnnibagidiaaGreatQuiet
namespace Go.Proofs.YtlipnnibagidiaaGreat
open Go.RowKit Go.Lib Go.ChangeShapes Go.WideShapes Go.ChangeAt

theorem one_row (w : World) (v : Int) : Row (w.alloc (.cells #[.int .i64 v] 3)).drew (some ⟨w.heap.size, 0, none⟩) [v] :=
  ⟨by simp, .inr ⟨w.heap.size, 0, rfl, (Blk.new w 3 #[.int .i64 v]).lt, fun i hi => by
    obtain rfl : i = 0 := by simp at hi; exact hi
    exact (Blk.new w 3 #[.int .i64 v]).cell 0⟩⟩
theorem eqNd_wf64 {x y : Int} (hx : In64 x) (hy : In64 y) : NdWf (eqNd x y) := eq_wf hx hy
set_option maxRecDepth 100000 in
set_option maxHeartbeats 2000000 in
theorem shareCounts_big {w : World} {A : Option Addr} {n c : Nat} {B : Option Addr} {lB cB : Nat} (h : 300 < n ∨ 100 < lB) :
    Calls Tryz.prog 9 #[.agg #[.slice A n c], .slice B lB cB] w (fun e w' => e = .returned (.bool true) ∧ Below w.heap.size w w') := by
  have HB0 : Hid (Below w.heap.size w (w.alloc (.cells #[.slice A n c] 33))) := Lib.hid ((Below.refl _ w).alloc (Nat.le_refl _) _)
  have KG := Lib.hid (rgreat_ok (w := w.alloc (.cells #[.slice A n c] 33)) A n c)
  by_cases hn : 300 < n
  · have d := decide_eq_true hn
    rw [d] at KG
    clear h hn d
    go_enter Tryz.func9, Tryz.ntmps9
    go_wp2_with fail
    refine KG.out.mono ?_
    rintro e w1 ⟨rfl, hb1⟩
    have HB1 := Lib.hid (HB0.out.trans (hb1.mono HB0.out.size))
    clear hb1
    go_wp2_with fail
    refine (wakes_ok _).mono ?_
    rintro e w2 ⟨rfl, hb2⟩
    have HB2 := Lib.hid (HB1.out.trans (hb2.mono HB1.out.size))
    clear hb2
    go_wp2
    go_ret
    exact ⟨rfl, HB2.out⟩
  have d := decide_eq_false hn
  rw [d] at KG
  clear d
  have hB : 100 < lB := by omega
  have eB : decide (((lB : Nat) : Int) > 100) = true := by simp; omega
  have fB : decide ((100 : Int) < ((lB : Nat) : Int)) = true := by simp; omega
  clear h hn hB
  go_enter Tryz.func9, Tryz.ntmps9
  go_wp2_with fail
  refine KG.out.mono ?_
  rintro e w1 ⟨rfl, hb1⟩
  have HB1 := Lib.hid (HB0.out.trans (hb1.mono HB0.out.size))
  clear hb1
  go_wp2_with fail
  refine (wakes_ok _).mono ?_
  rintro e w2 ⟨rfl, hb2⟩
  have HB2 := Lib.hid (HB1.out.trans (hb2.mono HB1.out.size))
  clear hb2
  go_wp2
  go_ret
  exact ⟨rfl, HB2.out⟩
set_option maxRecDepth 100000 in
set_option maxHeartbeats 16000000 in
theorem shareCounts_core {w : World} {A B : Option Addr} {T : List Nd} {LB : List Int} (c cB : Nat) (h : Tab w A T) (hB : Row w B LB) (hlT : T.length ≤ 300) (hlB : LB.length ≤ 100) :
    Calls Tryz.prog 9 #[.agg #[.slice A T.length c], .slice B LB.length cB] w (fun e w' => e = .returned (.bool true) ∧ Below w.heap.size w w') := by
  obtain ⟨i0, hi0, hz0, hz1, hz2⟩ := info_parts int_info
  have eB : decide (((LB.length : Nat) : Int) > 100) = false := by simp; omega
  have fB : decide ((100 : Int) < ((LB.length : Nat) : Int)) = false := by simp; omega
  have HB0 : Hid (Below w.heap.size w (w.alloc (.cells #[.slice A T.length c] 33))) := Lib.hid ((Below.refl _ w).alloc (Nat.le_refl _) _)
  have HT0 := Lib.hid (Blk.new w 33 #[.slice A T.length c])
  have KG := Lib.hid (rgreat_ok (w := w.alloc (.cells #[.slice A T.length c] 33)) A T.length c)
  rw [decide_eq_false (show ¬ 300 < T.length by omega)] at KG
  have H := Lib.hid h
  have HIB := Lib.hid hB
  clear h hB hlT hlB
  go_enter Tryz.func9, Tryz.ntmps9
  go_wp2_with fail
  refine KG.out.mono ?_
  rintro e w1 ⟨rfl, hb1⟩
  have HB1 := Lib.hid (HB0.out.trans (hb1.mono HB0.out.size))
  have HT1 := Lib.hid (HT0.out.below hb1 HT0.out.lt)
  have x1 := HT1.out.cell 0
  simp only [List.getElem?_toArray, List.getElem?_cons_zero] at x1
  clear hb1
  go_wp2_with fail
  refine (cof_ok c cB 1000 (by decide) (H.out.below HB1.out) (HIB.out.below HB1.out)).mono ?_
  rintro e w2 ⟨CA, C, cc, oA, on, oc, er, rfl, hok, hb2⟩
  have hB2 := HB1.out.trans (hb2.mono HB1.out.size)
  have hbA : Below w2.heap.size w2 (w2.alloc (.cells #[.slice CA C.length cc] 33)) := (Below.refl _ w2).alloc (Nat.le_refl _) _
  obtain ⟨w3, hw3⟩ : ∃ w3, w2.alloc (.cells #[.slice CA C.length cc] 33) = w3 := ⟨_, rfl⟩
  obtain ⟨pC, hpC⟩ : ∃ pC, w2.heap.size = pC := ⟨_, rfl⟩
  have HB3 : Hid (Below w.heap.size w w3) := Lib.hid (by rw [← hw3]; exact hB2.trans (hbA.mono hB2.size))
  have HC3 : Hid (Blk w3 pC 33 #[.slice CA C.length cc]) := Lib.hid (by rw [← hw3, ← hpC]; exact Blk.new _ _ _)
  have HOK : Hid (er = 0 → Well C ∧ IteOk C ∧ (C.length : Int) ≤ max 2 1000 ∧ Tab w3 CA C ∧ C.length ≤ cc) := Lib.hid (fun e => by
    obtain ⟨g1, g2, g3, g4, g5⟩ := hok e
    exact ⟨g1, g2, g3, by rw [← hw3]; exact g4.alloc _, g5⟩)
  have HGE : Hid (w.heap.size ≤ pC) := Lib.hid (by rw [← hpC]; exact hB2.size)
  have HW3 := Lib.hid hw3
  have HPC := Lib.hid hpC
  clear hok hb2 hB2 hbA x1 hw3 hpC
  go_upto_region 4 with (fail)
  rw [HW3.out, HPC.out]
  clear HW3 HPC
  by_cases he : er = 0
  rotate_left
  · have e1 : (er != 0) = true := by simpa using he
    clear he HOK
    go_wp2_with fail
    refine (wakes_ok _).mono ?_
    rintro e w4 ⟨rfl, hb4⟩
    have HB4 := Lib.hid (HB3.out.trans (hb4.mono HB3.out.size))
    clear hb4
    go_wp2
    go_ret
    exact ⟨rfl, HB4.out⟩
  subst he
  obtain ⟨hwl, hit, hml, htc, hcc⟩ := HOK.out rfl
  have HWl := Lib.hid hwl
  have HIt := Lib.hid hit
  have HML : Hid (C.length ≤ 1000) := Lib.hid (by omega)
  have HTC := Lib.hid htc
  have HCC := Lib.hid hcc
  have x3 := HC3.out.cell 0
  simp only [List.getElem?_toArray, List.getElem?_cons_zero] at x3
  clear hwl hit hml htc hcc HOK
  go_wp2_with fail
  refine (sput_ok cc 2000 HCC.out HTC.out (by have := HML.out; omega)).mono ?_
  rintro e w4 ⟨A2, c2, rfl, ht4, hc4, hb4⟩
  obtain ⟨⟨U, er⟩, hr⟩ : ∃ r, putS C 2000 = r := ⟨_, rfl⟩
  have HPS := Lib.hid (putS_is HWl.out.core HWl.out.sum 2000)
  have HR := Lib.hid hr
  rw [hr] at ht4 hc4 HPS ⊢
  simp only at ht4 hc4 HPS ⊢
  have hB4 := HB3.out.trans (hb4.mono HB3.out.size)
  have hbA : Below w4.heap.size w4 (w4.alloc (.cells #[.slice A2 U.length c2] 33)) := (Below.refl _ w4).alloc (Nat.le_refl _) _
  obtain ⟨w5, hw5⟩ : ∃ w5, w4.alloc (.cells #[.slice A2 U.length c2] 33) = w5 := ⟨_, rfl⟩
  obtain ⟨pO, hpO⟩ : ∃ pO, w4.heap.size = pO := ⟨_, rfl⟩
  have HB5 : Hid (Below w.heap.size w w5) := Lib.hid (by rw [← hw5]; exact hB4.trans (hbA.mono hB4.size))
  have HO5 : Hid (Blk w5 pO 33 #[.slice A2 U.length c2]) := Lib.hid (by rw [← hw5, ← hpO]; exact Blk.new _ _ _)
  have HC5 : Hid (Blk w5 pC 33 #[.slice CA C.length cc]) := Lib.hid (by rw [← hw5]; exact (HC3.out.below hb4 HC3.out.lt).alloc _)
  have HU5 : Hid (Tab w5 A2 U) := Lib.hid (by rw [← hw5]; exact ht4.alloc _)
  have HTC5 : Hid (Tab w5 CA C) := Lib.hid (by rw [← hw5]; exact (HTC.out.below hb4).alloc _)
  have HLT5 : Hid (w.heap.size ≤ pC ∧ pC < pO) := Lib.hid (by have h1 := HC3.out.lt; have h2 := hb4.size; have h3 := HGE.out; omega)
  have HC4 := Lib.hid hc4
  have HW5 := Lib.hid hw5
  have HPO := Lib.hid hpO
  clear hB4 hbA hb4 ht4 hc4 x3 hr hw5 hpO
  go_upto_region 7 with (fail)
  rw [HW5.out, HPO.out]
  clear HW5 HPO HB0 HT0 KG HB1 HT1 HC3 HB3 HTC
  by_cases hf0 : er = 0
  rotate_left
  · have e1 : (er != 0) = true := by simpa using hf0
    clear hf0 HPS HR
    go_wp2_with fail
    refine (wakes_ok _).mono ?_
    rintro e wz ⟨rfl, hbz⟩
    have HBy := Lib.hid ((HB5.out).trans (hbz.mono (HB5.out).size))
    clear hbz
    go_wp2
    go_ret
    exact ⟨rfl, HBy.out⟩
  subst hf0
  obtain ⟨g, l, hnl⟩ : Grew C U ∧ (∀ p ∈ pairsL (nodesT C), LaidP U p.1 p.2) ∧ (nodesT C).length ≤ 12 := by
    rcases HPS.out with ⟨_, g, l, hnl⟩ | ⟨h, _⟩
    · exact ⟨g, l, hnl⟩
    · rcases h with h | h <;> cases h
  have HCo := Lib.hid g.core
  have HNU : Hid (nodesT U = nodesT C) := Lib.hid (nodesT_grew g)
  have HN12 : Hid ((nodesT U).length ≤ 12) := Lib.hid (by rw [nodesT_grew g]; exact hnl)
  have HNl : Hid ((nodesT U).length ≤ 500) := Lib.hid (by have := HN12.out; omega)
  have HLd : Hid (laidB U = true) := Lib.hid (by
    have := putS_laid HWl.out.core HWl.out.sum HWl.out.noeq (most := 2000) (by rw [HR.out])
    rwa [HR.out] at this)
  have HO2 : Hid (∀ x y, (x, y) ∈ pairsL (nodesT U) → ∃ l, of2 U x y = some l ∧ (l.length = 1 ∨ l.length = 3) ∧ eqNd x y ∈ U ∧ ∀ c ∈ l, litT U (eqNd x y) ∈ c ∨ litT U (eqNd x y) + 1 ∈ c) := Lib.hid (fun x y hp => of2_put HWl.out.core HWl.out.sum HR.out hp)
  have HLen : Hid (U.length ≤ C.length + 3 * (pairsL (nodesT U)).length) := Lib.hid (by
    have := putS_len (T := C) (most := 2000) (by rw [HR.out])
    rw [HR.out] at this
    rw [HNU.out]
    exact this)
  have hUl := HU5.out.len
  have x5 := HO5.out.cell 0
  simp only [List.getElem?_toArray, List.getElem?_cons_zero] at x5
  clear g l hnl HPS HR HWl HIt HTC5 HIB
  go_wp2_with fail
  refine (snodes_ok c2 HC4.out HU5.out).mono ?_
  rintro e w6 ⟨v, rfl, hv, hb6⟩
  rw [if_pos (coreB_iff.2 HCo.out)] at hv
  have HB6 := Lib.hid (HB5.out.trans (hb6.mono HB5.out.size))
  have HU6 := Lib.hid (HU5.out.below hb6)
  have HO6 := Lib.hid (HO5.out.below hb6 HO5.out.lt)
  have HC6 := Lib.hid (HC5.out.below hb6 HC5.out.lt)
  obtain ⟨ls, hls⟩ : ∃ ls, nodesT U = ls := ⟨_, rfl⟩
  have HLS := Lib.hid hls
  rw [hls] at hv HN12
  have HSo : Hid (ls.Pairwise (· < ·)) := Lib.hid (by rw [← hls]; exact nodes_sorted U)
  obtain ⟨LA, lc, hvs⟩ := own_slice hv
  subst hvs
  have HL6 := Lib.hid (hv.row (by have := HN12.out; omega)).1
  have hl12 := HN12.out
  obtain ⟨tot, htot⟩ : ∃ tot, cntT U (pairsL ls) = tot := ⟨_, rfl⟩
  have HTot : Hid ((allT U).length = tot) := Lib.hid (by rw [cntT_all, hls]; exact htot)
  have HTot0 := Lib.hid htot
  have htl : tot ≤ 200 := by
    have h1 : cntT U (pairsL ls) ≤ 3 * (pairsL ls).length := cnt_le (fun p hp => by
      obtain ⟨l, h1, h2, _⟩ := HO2.out p.1 p.2 (by rw [hls]; exact hp)
      rw [h1]
      show l.length ≤ 3
      omega)
    have h2 := pairsL_half ls
    have h3 : ls.length * (ls.length - 1) ≤ 12 * 11 := Nat.mul_le_mul hl12 (by omega)
    omega
  have HBz6 : Hid (Below w6.heap.size w6 w6) := Lib.hid (Below.refl _ _)
  clear hv hb6 x5 hls htot HB5 HU5 HO5 HC5
  go_wp2
  go_loopg [12, 11] ls.length (fun g v vn W => ∃ i N : Nat, i + g = ls.length ∧ v = .int .i64 i ∧ vn = .int .i64 N ∧ N + cntT U (pairsL (ls.drop i)) = tot ∧ Below w6.heap.size w6 W)
  case atStart => exact ⟨0, 0, by omega, rfl, rfl, by rw [List.drop_zero, HTot0.out]; omega, HBz6.out⟩
  case round =>
    obtain ⟨i, N, hig, rfl, rfl, hN, hb⟩ := hrel
    have HN := Lib.hid hN
    have HB7 := Lib.hid hb
    clear hN hb
    cases gk with
    | zero =>
      obtain rfl : i = ls.length := by omega
      have d1 : decide ((ls.length : Int) < ls.length) = false := by simp
      have hNt : N = tot := by
        have := HN.out
        rw [List.drop_length] at this
        simpa [cntT, pairsL] using this
      have p2 : wr.cell? ⟨pO, 0, none⟩ = some (.slice A2 U.length c2) := (HO6.out.below HB7.out HO6.out.lt).cell 0
      have HTt := Lib.hid hNt
      clear hNt
      go_wp2_with fail
      refine (sall_ok c2 HC4.out (HU6.out.below HB7.out) HNl.out).mono ?_
      rintro e w9 ⟨v, rows, rfl, hg, hrows, hb9⟩
      rw [HLd.out] at hrows ⊢
      rw [if_pos rfl] at hrows ⊢
      obtain ⟨VA, vc, hvq, _⟩ := hg.form
      subst hvq
      have hrl : rows.length = N := by have := congrArg List.length hrows; rw [List.length_map, HTot.out] at this; rw [this, HTt.out]
      rw [hrl]
      have HB9 := Lib.hid (HB7.out.trans (hb9.mono HB7.out.size))
      have p3 : w9.cell? ⟨pO, 0, none⟩ = some (.slice A2 U.length c2) := (HO6.out.below HB9.out HO6.out.lt).cell 0
      have p4 : w9.cell? ⟨pC, 0, none⟩ = some (.slice CA C.length cc) := (HC6.out.below HB9.out HC6.out.lt).cell 0
      obtain ⟨P, Hf, hP1, hP2, hP3, hP4, hH66⟩ := half_int hl12
      have hHl : (pairsL (nodesT U)).length = Hf := by rw [HLS.out, hP3, pairsL_half]
      have hUC : U.length ≤ C.length + 3 * Hf := by rw [← hHl]; exact HLen.out
      have hC1000 := HML.out
      have n1 : IntKind.i64.wrap ((ls.length : Int) - 1) = (ls.length : Int) - 1 := by unfold IntKind.wrap; simp [IntKind.bits, IntKind.signed]; omega
      have n2 : IntKind.i64.wrap ((ls.length : Int) * ((ls.length : Int) - 1)) = (P : Int) := by rw [hP1]; unfold IntKind.wrap; simp [IntKind.bits, IntKind.signed]; omega
      have n3 : IntKind.i64.wrap (Hf : Int) = (Hf : Int) := by unfold IntKind.wrap; simp [IntKind.bits, IntKind.signed]; omega
      have n4 : IntKind.i64.wrap (3 * (Hf : Int)) = 3 * (Hf : Int) := by unfold IntKind.wrap; simp [IntKind.bits, IntKind.signed]; omega
      have n5 : IntKind.i64.wrap ((C.length : Int) + 3 * (Hf : Int)) = (C.length : Int) + 3 * (Hf : Int) := by unfold IntKind.wrap; simp [IntKind.bits, IntKind.signed]; omega
      have n6 : decide ((U.length : Int) ≤ (C.length : Int) + 3 * (Hf : Int)) = true := decide_eq_true (by omega)
      have HBz := Lib.hid (HB6.out.trans (HB9.out.mono HB6.out.size))
      clear hg hrows hb9 hrl hP1 hP3 hHl hUC p2
      go_wp2_with fail
      refine (wakes_ok _).mono ?_
      rintro e wz ⟨rfl, hbz⟩
      have HBy := Lib.hid ((HBz.out).trans (hbz.mono (HBz.out).size))
      clear hbz
      go_wp2
      go_ret
      exact ⟨rfl, HBy.out⟩
    | succ gk =>
      have hlt : i < ls.length := by omega
      have d1 : decide ((i : Int) < ls.length) = true := by simp; omega
      obtain ⟨gk0, rfl⟩ : ∃ go : Nat, go = gk := ⟨_, rfl⟩
      have HOut : Hid (cntT U (pairsL (ls.drop i)) = cntT U ((ls.drop (i + 1)).map fun y => (ls[i], y)) + cntT U (pairsL (ls.drop (i + 1)))) := Lib.hid (cnt_outer U hlt)
      obtain ⟨x, hx⟩ : ∃ x, ls[i] = x := ⟨_, rfl⟩
      have HXx := Lib.hid hx
      rw [hx] at HOut
      clear hx
      go_wp2
      go_loopg [13, 11] (ls.length - (i + 1)) (fun g v vn W => ∃ k N : Nat, k + g = ls.length ∧ i + 1 ≤ k ∧ v = .int .i64 k ∧ vn = .int .i64 N ∧ N + cntT U ((ls.drop k).map fun y => (x, y)) + cntT U (pairsL (ls.drop (i + 1))) = tot ∧ Below w6.heap.size w6 W)
      case atStart => exact ⟨i + 1, N, by omega, Nat.le_refl _, by go_num, rfl, by have := HN.out; have := HOut.out; omega, HB7.out⟩
      case round =>
        obtain ⟨k, N2, hkg, hik, rfl, rfl, hN2, hb⟩ := hrel
        have HN2 := Lib.hid hN2
        have HB8 := Lib.hid hb
        clear hN2 hb
        cases gk with
        | zero =>
          obtain rfl : k = ls.length := by omega
          have d2 : decide ((ls.length : Int) < ls.length) = false := by simp
          go_wp2
          go_roundg gk0
          case measure => omega
          case rel => exact ⟨i + 1, N2, by omega, by go_num, rfl, by have := HN2.out; rw [List.drop_length] at this; simpa [cntT] using this, HB8.out⟩
        | succ g2 =>
          have hkl : k < ls.length := by omega
          have d2 : decide ((k : Int) < ls.length) = true := by simp; omega
          have HPair : Hid ((ls[i], ls[k]) ∈ pairsL (nodesT U)) := Lib.hid (by rw [HLS.out]; exact pair_at HSo.out hlt hkl (by omega))
          rw [HXx.out] at HPair
          have HIn := Lib.hid (cnt_drop U hkl x)
          obtain ⟨y, hy⟩ : ∃ y, ls[k] = y := ⟨_, rfl⟩
          have HYy := Lib.hid hy
          rw [hy] at HPair HIn
          obtain ⟨lx, hox, hlx, hem, hcl⟩ := HO2.out x y HPair.out
          have HOx := Lib.hid hox
          have HCl := Lib.hid hcl
          have HEm := Lib.hid hem
          rw [HOx.out] at HIn
          obtain ⟨rb, roff, hRA, hrb, hrc⟩ := HL6.out.at_.resolve_left (by omega)
          have HLc : Hid (∀ W, Below w6.heap.size w6 W → W.cell? ⟨rb, roff + i, none⟩ = some (.int .i64 x) ∧ W.cell? ⟨rb, roff + k, none⟩ = some (.int .i64 y) ∧ W.cell? ⟨pO, 0, none⟩ = some (.slice A2 U.length c2)) := Lib.hid (fun W hW => by
            refine ⟨?_, ?_, (HO6.out.below hW HO6.out.lt).cell 0⟩
            · rw [hW.cell (p := ⟨rb, roff + i, none⟩) hrb, hrc i hlt, HXx.out]
            · rw [hW.cell (p := ⟨rb, roff + k, none⟩) hrb, hrc k hkl, HYy.out])
          have HRA := Lib.hid hRA
          subst hRA
          obtain ⟨p0, p1, p2⟩ := HLc.out wr HB8.out
          have t1 : (0 : Int) ≤ (i : Int) := by omega
          have t2 : (i : Int) < (ls.length : Int) := by omega
          have t3 : (0 : Int) ≤ (k : Int) := by omega
          have t4 : (k : Int) < (ls.length : Int) := by omega
          have KO := Lib.hid (sof_ok c2 HC4.out (HU6.out.below (below_drewN HB8.out 1)) HNl.out HLd.out HPair.out)
          clear hox hcl hem hrc hy hrb
          go_upto_region 17 with (fail)
          go_region_held3 (fun w' => w'.cell? ⟨pO, 0, none⟩ = some (.slice A2 U.length c2) ∧ w'.cell? ⟨rb, roff + i, none⟩ = some (.int .i64 x) ∧ w'.cell? ⟨rb, roff + k, none⟩ = some (.int .i64 y)) (go_keep) ((go_at_call 36; refine KO.out.mono ?_; rintro e w7 ⟨v, rows, rfl, hg, hrw, hb⟩; have HG := Lib.hid hg; have HRw := Lib.hid hrw; have HB9 := Lib.hid ((below_drewN HB8.out 1).trans (hb.mono (below_drewN HB8.out 1).size)); obtain ⟨q0, q1, q2⟩ := HLc.out w7 HB9.out; clear hg hrw hb p0 p1 p2))
          obtain ⟨VA, vc, hvs, _, _, hat⟩ := HG.out.form
          subst hvs
          have hmap : rows.map (fun r => r.2.2) = lx := by rw [HRw.out, HOx.out]; rfl
          have HMp := Lib.hid hmap
          have hlr : lx.length = rows.length := by rw [← hmap, List.length_map]
          obtain ⟨vb, voff, hVA, _, hvb, hcell⟩ := hat.resolve_left (fun h0 => by rw [hlr, h0] at hlx; rcases hlx with e | e <;> cases e)
          have HAt : Hid (∀ j, j < rows.length → ∃ r : Option Addr × Nat × List Int, w7.cell? ⟨vb, voff + j, none⟩ = some (.slice r.1 r.2.2.length r.2.1) ∧ Row w7 r.1 r.2.2 ∧ r.2.2 ∈ lx) := Lib.hid (fun j hj => ⟨rows[j], hcell j hj, (HG.out.rows _ (List.getElem_mem hj)).1.row, by rw [← hmap]; exact List.mem_map.2 ⟨_, List.getElem_mem hj, rfl⟩⟩)
          have HVb := Lib.hid hvb
          subst hVA
          obtain ⟨m, hm⟩ : ∃ m, rows.length = m := ⟨_, rfl⟩
          have hm13 : m = 1 ∨ m = 3 := by rw [← hm, ← hlr]; exact hlx
          have HMl := Lib.hid hm
          have HLx : Hid (lx.length = m) := Lib.hid (by rw [← hmap, List.length_map]; exact hm)
          obtain ⟨ix64, iy64⟩ := pair_in64 hUl HPair.out
          obtain ⟨qx, hqx⟩ : ∃ q : Nat, U.idxOf (eqNd x y) = q := ⟨_, rfl⟩
          have HQ : Hid (litT U (eqNd x y) = 2 * (qx : Int)) := Lib.hid (by unfold litT; rw [hqx])
          have hqU : qx < U.length := by rw [← hqx]; exact List.idxOf_lt_length_iff.2 HEm.out
          have KF : Hid (Calls Tryz.prog 37 #[.agg #[.slice A2 U.length c2], .agg #[.int .i8 6, .int .i8 2, .int .i64 x, .int .i64 y, .int .i64 0, .int .i64 0, .int .i64 0, .int .i64 0]] w7.drew (fun e w' => e = .returned (.tuple #[.int .i64 (qx : Int), .bool true]) ∧ Below w7.drew.heap.size w7.drew w')) := Lib.hid ((rfind_ok c2 (eqNd x y) (eqNd_wf64 ix64 iy64) (HU6.out.below (below_drewN HB9.out 1))).mono fun e w' ⟨ix, r, h1, h2, h3, _, h5⟩ => by
            rw [h2.2 HEm.out, h3 HEm.out, hqx] at h1
            exact ⟨h1, h5⟩)
          rw [hm] at HAt ⊢
          clear hmap hat hm ix64 iy64 KO hlx hlr hcell hvb
          go_upto_region 18 with (fail)
          go_region_held3 (fun w' => w'.cell? ⟨pO, 0, none⟩ = some (.slice A2 U.length c2) ∧ w'.cell? ⟨rb, roff + i, none⟩ = some (.int .i64 x) ∧ w'.cell? ⟨rb, roff + k, none⟩ = some (.int .i64 y)) (go_keep) ((go_at_call 37; refine KF.out.mono ?_; rintro e w8 ⟨rfl, hb⟩; have HB10 := Lib.hid ((below_drewN HB9.out 1).trans (hb.mono (below_drewN HB9.out 1).size)); have HB78 := Lib.hid ((below_drewN (Below.refl w7.heap.size w7) 1).trans (hb.mono (below_drewN (Below.refl w7.heap.size w7) 1).size)); obtain ⟨r0, r1, r2⟩ := HLc.out w8 HB10.out; clear hb q0 q1 q2))
          clear hqx KF
          have HAt2 : Hid (∀ W, Below w8.heap.size w8 W → ∀ j, j < m → ∃ r : Option Addr × Nat × List Int, W.cell? ⟨vb, voff + j, none⟩ = some (.slice r.1 r.2.2.length r.2.1) ∧ Row W r.1 r.2.2 ∧ r.2.2 ∈ lx) := Lib.hid (fun W hW j hj => by
            have h7 := HB78.out.trans (hW.mono HB78.out.size)
            obtain ⟨r, g1, g2, g3⟩ := HAt.out j hj
            exact ⟨r, by rw [h7.cell (p := ⟨vb, voff + j, none⟩) HVb.out]; exact g1, g2.below h7, g3⟩)
          have KS0 : Hid (∀ W, Below w8.heap.size w8 W → ∀ (ra : Option Addr) (rc : Nat) (rl : List Int), Row W ra rl → rl ∈ lx → Calls Tryz.prog 39 #[.agg #[.slice A2 U.length c2], .int .i64 x, .int .i64 y, .slice ra rl.length rc] W (fun e w' => e = .returned (.bool true) ∧ Below W.heap.size W w')) := Lib.hid (fun W hW ra rc rl hr hm => sis_ok c2 rc HC4.out (HU6.out.below (HB10.out.trans (hW.mono HB10.out.size))) HNl.out HLd.out HPair.out hr (by rw [HOx.out]; exact hm))
          have HCl2 : Hid (∀ rl ∈ lx, 2 * (qx : Int) ∈ rl ∨ 2 * (qx : Int) + 1 ∈ rl) := Lib.hid (by rw [← HQ.out]; exact HCl.out)
          have HLc2 : Hid (∀ W, Below w8.heap.size w8 W → W.cell? ⟨rb, roff + i, none⟩ = some (.int .i64 x) ∧ W.cell? ⟨rb, roff + k, none⟩ = some (.int .i64 y) ∧ W.cell? ⟨pO, 0, none⟩ = some (.slice A2 U.length c2)) := Lib.hid (fun W hW => HLc.out W (HB10.out.trans (hW.mono HB10.out.size)))
          clear r0 r1 r2
          have hmB : m ≤ 3 := by rcases hm13 with e | e <;> omega
          rcases hm13 with hm1 | hm3
          · have f1 : ((m : Int) != 1) = false := by simp [hm1]
            clear hm1
            go_wp2
            go_loopg [18] m (fun g v W => ∃ j : Nat, j + g = m ∧ v = .int .i64 j ∧ Below w8.heap.size w8 W)
            case atStart => exact ⟨0, by omega, rfl, Below.refl _ _⟩
            case round =>
              obtain ⟨j, hjg, rfl, hb⟩ := hrel
              have HB11 := Lib.hid hb
              clear hb
              cases gk with
              | zero =>
                obtain rfl : j = m := by omega
                have d3 : decide ((j : Int) < (j : Int)) = false := by simp
                have hN3 : N2 + j + cntT U ((ls.drop (k + 1)).map fun y => (x, y)) + cntT U (pairsL (ls.drop (i + 1))) = tot := by have h1 := HN2.out; have h2 := HIn.out; have h3 := HLx.out; rw [Option.getD_some] at h2; omega
                have HN3 := Lib.hid hN3
                have hw : IntKind.i64.wrap ((N2 : Int) + (j : Int)) = (N2 : Int) + (j : Int) := by unfold IntKind.wrap; simp [IntKind.bits, IntKind.signed]; omega
                clear hN3
                go_wp2
                go_roundg g2
                case measure => omega
                case rel => exact ⟨k + 1, N2 + j, by omega, by omega, by go_num, by simp, HN3.out, HB10.out.trans (HB11.out.mono HB10.out.size)⟩
              | succ g3 =>
                have hjm : j < m := by omega
                have d3 : decide ((j : Int) < (m : Int)) = true := by simp; omega
                have u1 : (0 : Int) ≤ (j : Int) := by omega
                have u2 : (j : Int) < (m : Int) := by omega
                obtain ⟨⟨ra, rc, rl⟩, g1, g2', g3'⟩ := HAt2.out wr HB11.out j hjm
                dsimp only at g1 g2' g3'
                have HRr := Lib.hid g2'
                have HG1 : Hid (∀ W, Below w8.heap.size w8 W → W.cell? ⟨vb, voff + j, none⟩ = some (.slice ra rl.length rc)) := Lib.hid (fun W hW => by rw [hW.cell (p := ⟨vb, voff + j, none⟩) (Nat.lt_of_lt_of_le HVb.out HB78.out.size), ← HB11.out.cell (p := ⟨vb, voff + j, none⟩) (Nat.lt_of_lt_of_le HVb.out HB78.out.size)]; exact g1)
                have HMr := Lib.hid g3'
                obtain ⟨r0, r1, r2⟩ := HLc2.out wr HB11.out
                have hw1 : IntKind.i64.wrap (2 * (qx : Int)) = 2 * (qx : Int) := by unfold IntKind.wrap; simp [IntKind.bits, IntKind.signed]; omega
                clear g2' g3'
                by_cases hmem : 2 * (qx : Int) ∈ rl
                · have hA1 : Below wr.heap.size wr (wr.alloc (.cells #[.int .i64 (2 * (qx : Int))] 3)).drew := below_drewN ((Below.refl wr.heap.size wr).alloc (Nat.le_refl _) _) 1
                  have KW : Hid (Calls Tryz.prog 38 #[.slice (some ⟨wr.heap.size, 0, none⟩) 1 1, .slice ra rl.length rc] (wr.alloc (.cells #[.int .i64 (2 * (qx : Int))] 3)).drew (fun e w' => e = .returned (.bool true) ∧ (wr.alloc (.cells #[.int .i64 (2 * (qx : Int))] 3)).drew = w')) := Lib.hid ((within15_ok (zs := [2 * (qx : Int)]) 1 rc (one_row wr (2 * (qx : Int))) (HRr.out.below hA1)).mono fun e w' ⟨h1, h2⟩ => ⟨by rw [h1]; simp [hmem], h2⟩)
                  have hA2 : Below w8.heap.size w8 (wr.alloc (.cells #[.int .i64 (2 * (qx : Int))] 3)).drew := HB11.out.trans (hA1.mono HB11.out.size)
                  have HA2 := Lib.hid hA2
                  have KS := Lib.hid (KS0.out _ hA2 ra rc rl (HRr.out.below hA1) HMr.out)
                  clear hA1 hA2 hmem
                  go_upto_region 24 with (fail)
                  refine wp_region_held_drew (S := (fun w' => w'.cell? ⟨pO, 0, none⟩ = some (.slice A2 U.length c2) ∧ w'.cell? ⟨rb, roff + i, none⟩ = some (.int .i64 x) ∧ w'.cell? ⟨rb, roff + k, none⟩ = some (.int .i64 y) ∧ w'.cell? ⟨vb, voff + j, none⟩ = some (.slice ra rl.length rc))) (by kernel_rfl) ?_ (fun hHeld => ?_)
                  · go_keep
                  refine wpAnyH_take (i := 0) (v := ?_) rfl (by kernel_rfl) (by kernel_rfl) (by kernel_rfl) (fun _ _ _ h => h) (Or.inl ⟨by kernel_rfl, ?_⟩) (by assumption) ?_
                  rotate_left
                  · intro wS hSw
                    try dsimp only at hSw
                    go_simp
                    first | done | with_reducible rfl
                  try simp only [Act.put, List.setIfInBounds_toArray]
                  refine wpAnyH_take (i := 1) (v := ?_) rfl (by kernel_rfl) (by kernel_rfl) (by kernel_rfl) (fun _ _ _ h => h) (Or.inl ⟨by kernel_rfl, ?_⟩) (by assumption) ?_
                  rotate_left
                  · intro wS hSw
                    try dsimp only at hSw
                    go_simp
                    first | done | with_reducible rfl
                  try simp only [Act.put]
                  refine wpAnyH_take (i := 3) (v := ?_) rfl (by kernel_rfl) (by kernel_rfl) (by kernel_rfl) (fun _ _ _ h => h) (Or.inl ⟨by kernel_rfl, ?_⟩) (by assumption) ?_
                  rotate_left
                  · intro wS hSw
                    try dsimp only at hSw
                    go_simp
                    first | done | with_reducible rfl
                  try simp only [Act.put]
                  refine wpAnyH_take (i := 4) (v := ?_) rfl (by kernel_rfl) (by kernel_rfl) (by kernel_rfl) (fun _ _ _ h => h) (Or.inl ⟨by kernel_rfl, ?_⟩) (by assumption) ?_
                  rotate_left
                  · intro wS hSw
                    try dsimp only at hSw
                    go_simp
                    first | done | with_reducible rfl
                  try simp only [Act.put]
                  refine wpAnyH_take (i := 5) (v := ?_) rfl (by kernel_rfl) (by kernel_rfl) (by kernel_rfl) (fun _ _ _ h => h) (Or.inl ⟨by kernel_rfl, ?_⟩) (by assumption) ?_
                  rotate_left
                  · intro wS hSw
                    try dsimp only at hSw
                    go_simp
                    first | done | with_reducible rfl
                  try simp only [Act.put]
                  refine wpAnyH_take (i := 6) (v := ?_) rfl (by kernel_rfl) (by kernel_rfl) (by kernel_rfl) (fun _ _ _ h => h) (Or.inl ⟨by kernel_rfl, ?_⟩) (by assumption) ?_
                  rotate_left
                  · intro wS hSw
                    try dsimp only at hSw
                    go_simp
                    first | done | with_reducible rfl
                  try simp only [Act.put]
                  refine wpAnyH_ready (rs := [2]) (by kernel_rfl) (by simp) ?_
                  refine AllReadyH.cons rfl (fun K hK => ?_) AllReadyH.nil
                  go_simp
                  refine hK.out _ _ ?_ (fun hHeld => ?_)
                  · go_keep
                  clear hK K
                  try simp only [Act.put, List.setIfInBounds_toArray, List.set_cons_zero, List.set_cons_succ]
                  refine wpAnyH_ready (rs := [7]) (by kernel_rfl) (by simp) ?_
                  refine AllReadyH.cons rfl (fun K hK => ?_) AllReadyH.nil
                  go_simp
                  refine KW.out.mono ?_
                  rintro e w9 ⟨rfl, rfl⟩
                  refine hK.out _ _ ?_ (fun hHeld => ?_)
                  · go_keep
                  clear hK K
                  try simp only [Act.put, List.setIfInBounds_toArray, List.set_cons_zero, List.set_cons_succ]
                  refine wpAnyH_take (i := 8) (v := ?_) rfl (by kernel_rfl) (by kernel_rfl) (by kernel_rfl) (fun _ _ _ h => h) (Or.inl ⟨by kernel_rfl, ?_⟩) (by assumption) ?_
                  rotate_left
                  · intro wS hSw
                    try dsimp only at hSw
                    go_simp
                    first | done | with_reducible rfl
                  try simp only [Act.put, List.setIfInBounds_toArray]
                  refine wpAnyH_take (i := 9) (v := ?_) rfl (by kernel_rfl) (by kernel_rfl) (by kernel_rfl) (fun _ _ _ h => h) (Or.inl ⟨by kernel_rfl, ?_⟩) (by assumption) ?_
                  rotate_left
                  · intro wS hSw
                    try dsimp only at hSw
                    go_simp
                    first | done | with_reducible rfl
                  try simp only [Act.put]
                  refine wpAnyH_take (i := 10) (v := undef) rfl (by kernel_rfl) (by kernel_rfl) (by kernel_rfl) (fun _ _ _ h => h) (Or.inr ⟨by kernel_rfl, rfl⟩) (by assumption) ?_
                  try simp only [Act.put]
                  refine wpAnyH_take (i := 11) (v := undef) rfl (by kernel_rfl) (by kernel_rfl) (by kernel_rfl) (fun _ _ _ h => h) (Or.inr ⟨by kernel_rfl, rfl⟩) (by assumption) ?_
                  try simp only [Act.put]
                  refine wpAnyH_take (i := 12) (v := undef) rfl (by kernel_rfl) (by kernel_rfl) (by kernel_rfl) (fun _ _ _ h => h) (Or.inr ⟨by kernel_rfl, rfl⟩) (by assumption) ?_
                  try simp only [Act.put]
                  refine wpAnyH_take (i := 13) (v := undef) rfl (by kernel_rfl) (by kernel_rfl) (by kernel_rfl) (fun _ _ _ h => h) (Or.inr ⟨by kernel_rfl, rfl⟩) (by assumption) ?_
                  try simp only [Act.put]
                  refine wpAnyH_take (i := 14) (v := undef) rfl (by kernel_rfl) (by kernel_rfl) (by kernel_rfl) (fun _ _ _ h => h) (Or.inr ⟨by kernel_rfl, rfl⟩) (by assumption) ?_
                  try simp only [Act.put]
                  refine wpAnyH_take (i := 15) (v := undef) rfl (by kernel_rfl) (by kernel_rfl) (by kernel_rfl) (fun _ _ _ h => h) (Or.inr ⟨by kernel_rfl, rfl⟩) (by assumption) ?_
                  try simp only [Act.put]
                  refine wpAnyH_take (i := 16) (v := undef) rfl (by kernel_rfl) (by kernel_rfl) (by kernel_rfl) (fun _ _ _ h => h) (Or.inr ⟨by kernel_rfl, rfl⟩) (by assumption) ?_
                  try simp only [Act.put]
                  refine wpAnyH_take (i := 17) (v := undef) rfl (by kernel_rfl) (by kernel_rfl) (by kernel_rfl) (fun _ _ _ h => h) (Or.inr ⟨by kernel_rfl, rfl⟩) (by assumption) ?_
                  try simp only [Act.put]
                  refine wpAnyH_take (i := 18) (v := undef) rfl (by kernel_rfl) (by kernel_rfl) (by kernel_rfl) (fun _ _ _ h => h) (Or.inr ⟨by kernel_rfl, rfl⟩) (by assumption) ?_
                  try simp only [Act.put]
                  refine wpAnyH_take (i := 19) (v := undef) rfl (by kernel_rfl) (by kernel_rfl) (by kernel_rfl) (fun _ _ _ h => h) (Or.inr ⟨by kernel_rfl, rfl⟩) (by assumption) ?_
                  try simp only [Act.put]
                  refine wpAnyH_take (i := 20) (v := ?_) rfl (by kernel_rfl) (by kernel_rfl) (by kernel_rfl) (fun _ _ _ h => h) (Or.inl ⟨by kernel_rfl, ?_⟩) (by assumption) ?_
                  rotate_left
                  · intro wS hSw
                    try dsimp only at hSw
                    go_simp
                    first | done | with_reducible rfl
                  try simp only [Act.put]
                  refine wpAnyH_take (i := 21) (v := ?_) rfl (by kernel_rfl) (by kernel_rfl) (by kernel_rfl) (fun _ _ _ h => h) (Or.inl ⟨by kernel_rfl, ?_⟩) (by assumption) ?_
                  rotate_left
                  · intro wS hSw
                    try dsimp only at hSw
                    go_simp
                    first | done | with_reducible rfl
                  try simp only [Act.put]
                  refine wpAnyH_take (i := 22) (v := ?_) rfl (by kernel_rfl) (by kernel_rfl) (by kernel_rfl) (fun _ _ _ h => h) (Or.inl ⟨by kernel_rfl, ?_⟩) (by assumption) ?_
                  rotate_left
                  · intro wS hSw
                    try dsimp only at hSw
                    go_simp
                    first | done | with_reducible rfl
                  try simp only [Act.put]
                  refine wpAnyH_take (i := 23) (v := ?_) rfl (by kernel_rfl) (by kernel_rfl) (by kernel_rfl) (fun _ _ _ h => h) (Or.inl ⟨by kernel_rfl, ?_⟩) (by assumption) ?_
                  rotate_left
                  · intro wS hSw
                    try dsimp only at hSw
                    go_simp
                    first | done | with_reducible rfl
                  try simp only [Act.put]
                  refine wpAnyH_take (i := 24) (v := ?_) rfl (by kernel_rfl) (by kernel_rfl) (by kernel_rfl) (fun _ _ _ h => h) (Or.inl ⟨by kernel_rfl, ?_⟩) (by assumption) ?_
                  rotate_left
                  · intro wS hSw
                    try dsimp only at hSw
                    go_simp
                    first | done | with_reducible rfl
                  try simp only [Act.put]
                  refine wpAnyH_take (i := 25) (v := ?_) rfl (by kernel_rfl) (by kernel_rfl) (by kernel_rfl) (fun _ _ _ h => h) (Or.inl ⟨by kernel_rfl, ?_⟩) (by assumption) ?_
                  rotate_left
                  · intro wS hSw
                    try dsimp only at hSw
                    go_simp
                    first | done | with_reducible rfl
                  try simp only [Act.put]
                  refine wpAnyH_take (i := 26) (v := ?_) rfl (by kernel_rfl) (by kernel_rfl) (by kernel_rfl) (fun _ _ _ h => h) (Or.inl ⟨by kernel_rfl, ?_⟩) (by assumption) ?_
                  rotate_left
                  · intro wS hSw
                    try dsimp only at hSw
                    go_simp
                    first | done | with_reducible rfl
                  try simp only [Act.put]
                  refine wpAnyH_take (i := 27) (v := ?_) rfl (by kernel_rfl) (by kernel_rfl) (by kernel_rfl) (fun _ _ _ h => h) (Or.inl ⟨by kernel_rfl, ?_⟩) (by assumption) ?_
                  rotate_left
                  · intro wS hSw
                    try dsimp only at hSw
                    go_simp
                    first | done | with_reducible rfl
                  try simp only [Act.put]
                  refine wpAnyH_take (i := 28) (v := ?_) rfl (by kernel_rfl) (by kernel_rfl) (by kernel_rfl) (fun _ _ _ h => h) (Or.inl ⟨by kernel_rfl, ?_⟩) (by assumption) ?_
                  rotate_left
                  · intro wS hSw
                    try dsimp only at hSw
                    go_simp
                    first | done | with_reducible rfl
                  try simp only [Act.put]
                  refine wpAnyH_take (i := 29) (v := ?_) rfl (by kernel_rfl) (by kernel_rfl) (by kernel_rfl) (fun _ _ _ h => h) (Or.inl ⟨by kernel_rfl, ?_⟩) (by assumption) ?_
                  rotate_left
                  · intro wS hSw
                    try dsimp only at hSw
                    go_simp
                    first | done | with_reducible rfl
                  try simp only [Act.put]
                  refine wpAnyH_take (i := 30) (v := ?_) rfl (by kernel_rfl) (by kernel_rfl) (by kernel_rfl) (fun _ _ _ h => h) (Or.inl ⟨by kernel_rfl, ?_⟩) (by assumption) ?_
                  rotate_left
                  · intro wS hSw
                    try dsimp only at hSw
                    go_simp
                    first | done | with_reducible rfl
                  try simp only [Act.put]
                  refine wpAnyH_take (i := 31) (v := ?_) rfl (by kernel_rfl) (by kernel_rfl) (by kernel_rfl) (fun _ _ _ h => h) (Or.inl ⟨by kernel_rfl, ?_⟩) (by assumption) ?_
                  rotate_left
                  · intro wS hSw
                    try dsimp only at hSw
                    go_simp
                    first | done | with_reducible rfl
                  try simp only [Act.put]
                  refine wpAnyH_take (i := 32) (v := ?_) rfl (by kernel_rfl) (by kernel_rfl) (by kernel_rfl) (fun _ _ _ h => h) (Or.inl ⟨by kernel_rfl, ?_⟩) (by assumption) ?_
                  rotate_left
                  · intro wS hSw
                    try dsimp only at hSw
                    go_simp
                    first | done | with_reducible rfl
                  try simp only [Act.put]
                  refine wpAnyH_take (i := 33) (v := ?_) rfl (by kernel_rfl) (by kernel_rfl) (by kernel_rfl) (fun _ _ _ h => h) (Or.inl ⟨by kernel_rfl, ?_⟩) (by assumption) ?_
                  rotate_left
                  · intro wS hSw
                    try dsimp only at hSw
                    go_simp
                    first | done | with_reducible rfl
                  try simp only [Act.put]
                  refine wpAnyH_take (i := 34) (v := ?_) rfl (by kernel_rfl) (by kernel_rfl) (by kernel_rfl) (fun _ _ _ h => h) (Or.inl ⟨by kernel_rfl, ?_⟩) (by assumption) ?_
                  rotate_left
                  · intro wS hSw
                    try dsimp only at hSw
                    go_simp
                    first | done | with_reducible rfl
                  try simp only [Act.put]
                  refine wpAnyH_ready (rs := [35]) (by kernel_rfl) (by simp) ?_
                  refine AllReadyH.cons rfl (fun K hK => ?_) AllReadyH.nil
                  go_simp
                  refine KS.out.mono ?_
                  rintro e w9 ⟨rfl, hb⟩
                  have HB12 := Lib.hid (HA2.out.trans (hb.mono HA2.out.size))
                  obtain ⟨s0, s1, s2⟩ := HLc2.out w9 HB12.out
                  have s3 := HG1.out w9 HB12.out
                  clear hb
                  refine hK.out _ _ ?_ (fun hHeld => ?_)
                  · go_keep
                  clear hK K
                  try simp only [Act.put, List.setIfInBounds_toArray, List.set_cons_zero, List.set_cons_succ]
                  refine wpAnyH_take (i := 36) (v := ?_) rfl (by kernel_rfl) (by kernel_rfl) (by kernel_rfl) (fun _ _ _ h => h) (Or.inl ⟨by kernel_rfl, ?_⟩) (by assumption) ?_
                  rotate_left
                  · intro wS hSw
                    try dsimp only at hSw
                    go_simp
                    first | done | with_reducible rfl
                  try simp only [Act.put, List.setIfInBounds_toArray]
                  refine wpAnyH_take (i := 37) (v := ?_) rfl (by kernel_rfl) (by kernel_rfl) (by kernel_rfl) (fun _ _ _ h => h) (Or.inl ⟨by kernel_rfl, ?_⟩) (by assumption) ?_
                  rotate_left
                  · intro wS hSw
                    try dsimp only at hSw
                    go_simp
                    first | done | with_reducible rfl
                  try simp only [Act.put]
                  refine wpAnyH_done (by kernel_rfl) ?_ _
                  go_wp2
                  go_roundg g3
                  case measure => omega
                  case rel => exact ⟨j + 1, by omega, by go_num, HB12.out⟩
                · have hmem2 : 2 * (qx : Int) + 1 ∈ rl := (HCl2.out rl HMr.out).resolve_left hmem
                  have hw2 : IntKind.i64.wrap (2 * (qx : Int) + 1) = 2 * (qx : Int) + 1 := by unfold IntKind.wrap; simp [IntKind.bits, IntKind.signed]; omega
                  have hA1 : Below wr.heap.size wr (wr.alloc (.cells #[.int .i64 (2 * (qx : Int))] 3)).drew := below_drewN ((Below.refl wr.heap.size wr).alloc (Nat.le_refl _) _) 1
                  have hA3 : Below wr.heap.size wr ((wr.alloc (.cells #[.int .i64 (2 * (qx : Int))] 3)).alloc (.cells #[.int .i64 (2 * (qx : Int) + 1)] 3)).drew := below_drewN (((Below.refl wr.heap.size wr).alloc (Nat.le_refl _) _).alloc (by simp) _) 1
                  have KW : Hid (Calls Tryz.prog 38 #[.slice (some ⟨wr.heap.size, 0, none⟩) 1 1, .slice ra rl.length rc] (wr.alloc (.cells #[.int .i64 (2 * (qx : Int))] 3)).drew (fun e w' => e = .returned (.bool false) ∧ (wr.alloc (.cells #[.int .i64 (2 * (qx : Int))] 3)).drew = w')) := Lib.hid ((within15_ok (zs := [2 * (qx : Int)]) 1 rc (one_row wr (2 * (qx : Int))) (HRr.out.below hA1)).mono fun e w' ⟨h1, h2⟩ => ⟨by rw [h1]; simp [hmem], h2⟩)
                  have KW2 : Hid (Calls Tryz.prog 38 #[.slice (some ⟨wr.heap.size + 1, 0, none⟩) 1 1, .slice ra rl.length rc] ((wr.alloc (.cells #[.int .i64 (2 * (qx : Int))] 3)).alloc (.cells #[.int .i64 (2 * (qx : Int) + 1)] 3)).drew (fun e w' => e = .returned (.bool true) ∧ ((wr.alloc (.cells #[.int .i64 (2 * (qx : Int))] 3)).alloc (.cells #[.int .i64 (2 * (qx : Int) + 1)] 3)).drew = w')) := Lib.hid ((within15_ok (zs := [2 * (qx : Int) + 1]) 1 rc (by have := one_row (wr.alloc (.cells #[.int .i64 (2 * (qx : Int))] 3)) (2 * (qx : Int) + 1); rwa [show (wr.alloc (.cells #[.int .i64 (2 * (qx : Int))] 3)).heap.size = wr.heap.size + 1 by simp] at this) (HRr.out.below hA3)).mono fun e w' ⟨h1, h2⟩ => ⟨by rw [h1]; simp [hmem2], h2⟩)
                  have hA2 : Below w8.heap.size w8 ((wr.alloc (.cells #[.int .i64 (2 * (qx : Int))] 3)).alloc (.cells #[.int .i64 (2 * (qx : Int) + 1)] 3)).drew := HB11.out.trans (hA3.mono HB11.out.size)
                  have HA2 := Lib.hid hA2
                  have KS := Lib.hid (KS0.out _ hA2 ra rc rl (HRr.out.below hA3) HMr.out)
                  clear hA1 hA2 hA3 hmem hmem2
                  go_upto_region 24 with (fail)
                  refine wp_region_held_drew (S := (fun w' => w'.cell? ⟨pO, 0, none⟩ = some (.slice A2 U.length c2) ∧ w'.cell? ⟨rb, roff + i, none⟩ = some (.int .i64 x) ∧ w'.cell? ⟨rb, roff + k, none⟩ = some (.int .i64 y) ∧ w'.cell? ⟨vb, voff + j, none⟩ = some (.slice ra rl.length rc))) (by kernel_rfl) ?_ (fun hHeld => ?_)
                  · go_keep
                  refine wpAnyH_take (i := 0) (v := ?_) rfl (by kernel_rfl) (by kernel_rfl) (by kernel_rfl) (fun _ _ _ h => h) (Or.inl ⟨by kernel_rfl, ?_⟩) (by assumption) ?_
                  rotate_left
                  · intro wS hSw
                    try dsimp only at hSw
                    go_simp
                    first | done | with_reducible rfl
                  try simp only [Act.put, List.setIfInBounds_toArray]
                  refine wpAnyH_take (i := 1) (v := ?_) rfl (by kernel_rfl) (by kernel_rfl) (by kernel_rfl) (fun _ _ _ h => h) (Or.inl ⟨by kernel_rfl, ?_⟩) (by assumption) ?_
                  rotate_left
                  · intro wS hSw
                    try dsimp only at hSw
                    go_simp
                    first | done | with_reducible rfl
                  try simp only [Act.put]
                  refine wpAnyH_take (i := 3) (v := ?_) rfl (by kernel_rfl) (by kernel_rfl) (by kernel_rfl) (fun _ _ _ h => h) (Or.inl ⟨by kernel_rfl, ?_⟩) (by assumption) ?_
                  rotate_left
                  · intro wS hSw
                    try dsimp only at hSw
                    go_simp
                    first | done | with_reducible rfl
                  try simp only [Act.put]
                  refine wpAnyH_take (i := 4) (v := ?_) rfl (by kernel_rfl) (by kernel_rfl) (by kernel_rfl) (fun _ _ _ h => h) (Or.inl ⟨by kernel_rfl, ?_⟩) (by assumption) ?_
                  rotate_left
                  · intro wS hSw
                    try dsimp only at hSw
                    go_simp
                    first | done | with_reducible rfl
                  try simp only [Act.put]
                  refine wpAnyH_take (i := 5) (v := ?_) rfl (by kernel_rfl) (by kernel_rfl) (by kernel_rfl) (fun _ _ _ h => h) (Or.inl ⟨by kernel_rfl, ?_⟩) (by assumption) ?_
                  rotate_left
                  · intro wS hSw
                    try dsimp only at hSw
                    go_simp
                    first | done | with_reducible rfl
                  try simp only [Act.put]
                  refine wpAnyH_take (i := 6) (v := ?_) rfl (by kernel_rfl) (by kernel_rfl) (by kernel_rfl) (fun _ _ _ h => h) (Or.inl ⟨by kernel_rfl, ?_⟩) (by assumption) ?_
                  rotate_left
                  · intro wS hSw
                    try dsimp only at hSw
                    go_simp
                    first | done | with_reducible rfl
                  try simp only [Act.put]
                  refine wpAnyH_ready (rs := [2]) (by kernel_rfl) (by simp) ?_
                  refine AllReadyH.cons rfl (fun K hK => ?_) AllReadyH.nil
                  go_simp
                  refine hK.out _ _ ?_ (fun hHeld => ?_)
                  · go_keep
                  clear hK K
                  try simp only [Act.put, List.setIfInBounds_toArray, List.set_cons_zero, List.set_cons_succ]
                  refine wpAnyH_ready (rs := [7]) (by kernel_rfl) (by simp) ?_
                  refine AllReadyH.cons rfl (fun K hK => ?_) AllReadyH.nil
                  go_simp
                  refine KW.out.mono ?_
                  rintro e w9 ⟨rfl, rfl⟩
                  refine hK.out _ _ ?_ (fun hHeld => ?_)
                  · go_keep
                  clear hK K
                  try simp only [Act.put, List.setIfInBounds_toArray, List.set_cons_zero, List.set_cons_succ]
                  refine wpAnyH_take (i := 8) (v := ?_) rfl (by kernel_rfl) (by kernel_rfl) (by kernel_rfl) (fun _ _ _ h => h) (Or.inl ⟨by kernel_rfl, ?_⟩) (by assumption) ?_
                  rotate_left
                  · intro wS hSw
                    try dsimp only at hSw
                    go_simp
                    first | done | with_reducible rfl
                  try simp only [Act.put, List.setIfInBounds_toArray]
                  refine wpAnyH_take (i := 9) (v := ?_) rfl (by kernel_rfl) (by kernel_rfl) (by kernel_rfl) (fun _ _ _ h => h) (Or.inl ⟨by kernel_rfl, ?_⟩) (by assumption) ?_
                  rotate_left
                  · intro wS hSw
                    try dsimp only at hSw
                    go_simp
                    first | done | with_reducible rfl
                  try simp only [Act.put]
                  refine wpAnyH_take (i := 10) (v := ?_) rfl (by kernel_rfl) (by kernel_rfl) (by kernel_rfl) (fun _ _ _ h => h) (Or.inl ⟨by kernel_rfl, ?_⟩) (by assumption) ?_
                  rotate_left
                  · intro wS hSw
                    try dsimp only at hSw
                    go_simp
                    first | done | with_reducible rfl
                  try simp only [Act.put]
                  refine wpAnyH_take (i := 11) (v := ?_) rfl (by kernel_rfl) (by kernel_rfl) (by kernel_rfl) (fun _ _ _ h => h) (Or.inl ⟨by kernel_rfl, ?_⟩) (by assumption) ?_
                  rotate_left
                  · intro wS hSw
                    try dsimp only at hSw
                    go_simp
                    first | done | with_reducible rfl
                  try simp only [Act.put]
                  refine wpAnyH_take (i := 12) (v := ?_) rfl (by kernel_rfl) (by kernel_rfl) (by kernel_rfl) (fun _ _ _ h => h) (Or.inl ⟨by kernel_rfl, ?_⟩) (by assumption) ?_
                  rotate_left
                  · intro wS hSw
                    try dsimp only at hSw
                    go_simp
                    first | done | with_reducible rfl
                  try simp only [Act.put]
                  refine wpAnyH_take (i := 14) (v := ?_) rfl (by kernel_rfl) (by kernel_rfl) (by kernel_rfl) (fun _ _ _ h => h) (Or.inl ⟨by kernel_rfl, ?_⟩) (by assumption) ?_
                  rotate_left
                  · intro wS hSw
                    try dsimp only at hSw
                    go_simp
                    first | done | with_reducible rfl
                  try simp only [Act.put]
                  refine wpAnyH_take (i := 15) (v := ?_) rfl (by kernel_rfl) (by kernel_rfl) (by kernel_rfl) (fun _ _ _ h => h) (Or.inl ⟨by kernel_rfl, ?_⟩) (by assumption) ?_
                  rotate_left
                  · intro wS hSw
                    try dsimp only at hSw
                    go_simp
                    first | done | with_reducible rfl
                  try simp only [Act.put]
                  refine wpAnyH_take (i := 16) (v := ?_) rfl (by kernel_rfl) (by kernel_rfl) (by kernel_rfl) (fun _ _ _ h => h) (Or.inl ⟨by kernel_rfl, ?_⟩) (by assumption) ?_
                  rotate_left
                  · intro wS hSw
                    try dsimp only at hSw
                    go_simp
                    first | done | with_reducible rfl
                  try simp only [Act.put]
                  refine wpAnyH_take (i := 17) (v := ?_) rfl (by kernel_rfl) (by kernel_rfl) (by kernel_rfl) (fun _ _ _ h => h) (Or.inl ⟨by kernel_rfl, ?_⟩) (by assumption) ?_
                  rotate_left
                  · intro wS hSw
                    try dsimp only at hSw
                    go_simp
                    first | done | with_reducible rfl
                  try simp only [Act.put]
                  refine wpAnyH_ready (rs := [13]) (by kernel_rfl) (by simp) ?_
                  refine AllReadyH.cons rfl (fun K hK => ?_) AllReadyH.nil
                  go_simp
                  refine hK.out _ _ ?_ (fun hHeld => ?_)
                  · go_keep
                  clear hK K
                  try simp only [Act.put, List.setIfInBounds_toArray, List.set_cons_zero, List.set_cons_succ]
                  refine wpAnyH_ready (rs := [18]) (by kernel_rfl) (by simp) ?_
                  refine AllReadyH.cons rfl (fun K hK => ?_) AllReadyH.nil
                  go_simp
                  refine KW2.out.mono ?_
                  rintro e w9 ⟨rfl, rfl⟩
                  refine hK.out _ _ ?_ (fun hHeld => ?_)
                  · go_keep
                  clear hK K
                  try simp only [Act.put, List.setIfInBounds_toArray, List.set_cons_zero, List.set_cons_succ]
                  refine wpAnyH_take (i := 19) (v := ?_) rfl (by kernel_rfl) (by kernel_rfl) (by kernel_rfl) (fun _ _ _ h => h) (Or.inl ⟨by kernel_rfl, ?_⟩) (by assumption) ?_
                  rotate_left
                  · intro wS hSw
                    try dsimp only at hSw
                    go_simp
                    first | done | with_reducible rfl
                  try simp only [Act.put, List.setIfInBounds_toArray]
                  refine wpAnyH_take (i := 20) (v := ?_) rfl (by kernel_rfl) (by kernel_rfl) (by kernel_rfl) (fun _ _ _ h => h) (Or.inl ⟨by kernel_rfl, ?_⟩) (by assumption) ?_
                  rotate_left
                  · intro wS hSw
                    try dsimp only at hSw
                    go_simp
                    first | done | with_reducible rfl
                  try simp only [Act.put]
                  refine wpAnyH_take (i := 21) (v := ?_) rfl (by kernel_rfl) (by kernel_rfl) (by kernel_rfl) (fun _ _ _ h => h) (Or.inl ⟨by kernel_rfl, ?_⟩) (by assumption) ?_
                  rotate_left
                  · intro wS hSw
                    try dsimp only at hSw
                    go_simp
                    first | done | with_reducible rfl
                  try simp only [Act.put]
                  refine wpAnyH_take (i := 22) (v := ?_) rfl (by kernel_rfl) (by kernel_rfl) (by kernel_rfl) (fun _ _ _ h => h) (Or.inl ⟨by kernel_rfl, ?_⟩) (by assumption) ?_
                  rotate_left
                  · intro wS hSw
                    try dsimp only at hSw
                    go_simp
                    first | done | with_reducible rfl
                  try simp only [Act.put]
                  refine wpAnyH_take (i := 23) (v := ?_) rfl (by kernel_rfl) (by kernel_rfl) (by kernel_rfl) (fun _ _ _ h => h) (Or.inl ⟨by kernel_rfl, ?_⟩) (by assumption) ?_
                  rotate_left
                  · intro wS hSw
                    try dsimp only at hSw
                    go_simp
                    first | done | with_reducible rfl
                  try simp only [Act.put]
                  refine wpAnyH_take (i := 24) (v := ?_) rfl (by kernel_rfl) (by kernel_rfl) (by kernel_rfl) (fun _ _ _ h => h) (Or.inl ⟨by kernel_rfl, ?_⟩) (by assumption) ?_
                  rotate_left
                  · intro wS hSw
                    try dsimp only at hSw
                    go_simp
                    first | done | with_reducible rfl
                  try simp only [Act.put]
                  refine wpAnyH_take (i := 25) (v := ?_) rfl (by kernel_rfl) (by kernel_rfl) (by kernel_rfl) (fun _ _ _ h => h) (Or.inl ⟨by kernel_rfl, ?_⟩) (by assumption) ?_
                  rotate_left
                  · intro wS hSw
                    try dsimp only at hSw
                    go_simp
                    first | done | with_reducible rfl
                  try simp only [Act.put]
                  refine wpAnyH_take (i := 26) (v := ?_) rfl (by kernel_rfl) (by kernel_rfl) (by kernel_rfl) (fun _ _ _ h => h) (Or.inl ⟨by kernel_rfl, ?_⟩) (by assumption) ?_
                  rotate_left
                  · intro wS hSw
                    try dsimp only at hSw
                    go_simp
                    first | done | with_reducible rfl
                  try simp only [Act.put]
                  refine wpAnyH_take (i := 27) (v := ?_) rfl (by kernel_rfl) (by kernel_rfl) (by kernel_rfl) (fun _ _ _ h => h) (Or.inl ⟨by kernel_rfl, ?_⟩) (by assumption) ?_
                  rotate_left
                  · intro wS hSw
                    try dsimp only at hSw
                    go_simp
                    first | done | with_reducible rfl
                  try simp only [Act.put]
                  refine wpAnyH_take (i := 28) (v := ?_) rfl (by kernel_rfl) (by kernel_rfl) (by kernel_rfl) (fun _ _ _ h => h) (Or.inl ⟨by kernel_rfl, ?_⟩) (by assumption) ?_
                  rotate_left
                  · intro wS hSw
                    try dsimp only at hSw
                    go_simp
                    first | done | with_reducible rfl
                  try simp only [Act.put]
                  refine wpAnyH_take (i := 29) (v := ?_) rfl (by kernel_rfl) (by kernel_rfl) (by kernel_rfl) (fun _ _ _ h => h) (Or.inl ⟨by kernel_rfl, ?_⟩) (by assumption) ?_
                  rotate_left
                  · intro wS hSw
                    try dsimp only at hSw
                    go_simp
                    first | done | with_reducible rfl
                  try simp only [Act.put]
                  refine wpAnyH_take (i := 30) (v := ?_) rfl (by kernel_rfl) (by kernel_rfl) (by kernel_rfl) (fun _ _ _ h => h) (Or.inl ⟨by kernel_rfl, ?_⟩) (by assumption) ?_
                  rotate_left
                  · intro wS hSw
                    try dsimp only at hSw
                    go_simp
                    first | done | with_reducible rfl
                  try simp only [Act.put]
                  refine wpAnyH_take (i := 31) (v := ?_) rfl (by kernel_rfl) (by kernel_rfl) (by kernel_rfl) (fun _ _ _ h => h) (Or.inl ⟨by kernel_rfl, ?_⟩) (by assumption) ?_
                  rotate_left
                  · intro wS hSw
                    try dsimp only at hSw
                    go_simp
                    first | done | with_reducible rfl
                  try simp only [Act.put]
                  refine wpAnyH_take (i := 32) (v := ?_) rfl (by kernel_rfl) (by kernel_rfl) (by kernel_rfl) (fun _ _ _ h => h) (Or.inl ⟨by kernel_rfl, ?_⟩) (by assumption) ?_
                  rotate_left
                  · intro wS hSw
                    try dsimp only at hSw
                    go_simp
                    first | done | with_reducible rfl
                  try simp only [Act.put]
                  refine wpAnyH_take (i := 33) (v := ?_) rfl (by kernel_rfl) (by kernel_rfl) (by kernel_rfl) (fun _ _ _ h => h) (Or.inl ⟨by kernel_rfl, ?_⟩) (by assumption) ?_
                  rotate_left
                  · intro wS hSw
                    try dsimp only at hSw
                    go_simp
                    first | done | with_reducible rfl
                  try simp only [Act.put]
                  refine wpAnyH_take (i := 34) (v := ?_) rfl (by kernel_rfl) (by kernel_rfl) (by kernel_rfl) (fun _ _ _ h => h) (Or.inl ⟨by kernel_rfl, ?_⟩) (by assumption) ?_
                  rotate_left
                  · intro wS hSw
                    try dsimp only at hSw
                    go_simp
                    first | done | with_reducible rfl
                  try simp only [Act.put]
                  refine wpAnyH_ready (rs := [35]) (by kernel_rfl) (by simp) ?_
                  refine AllReadyH.cons rfl (fun K hK => ?_) AllReadyH.nil
                  go_simp
                  refine KS.out.mono ?_
                  rintro e w9 ⟨rfl, hb⟩
                  have HB12 := Lib.hid (HA2.out.trans (hb.mono HA2.out.size))
                  obtain ⟨s0, s1, s2⟩ := HLc2.out w9 HB12.out
                  have s3 := HG1.out w9 HB12.out
                  clear hb
                  refine hK.out _ _ ?_ (fun hHeld => ?_)
                  · go_keep
                  clear hK K
                  try simp only [Act.put, List.setIfInBounds_toArray, List.set_cons_zero, List.set_cons_succ]
                  refine wpAnyH_take (i := 36) (v := ?_) rfl (by kernel_rfl) (by kernel_rfl) (by kernel_rfl) (fun _ _ _ h => h) (Or.inl ⟨by kernel_rfl, ?_⟩) (by assumption) ?_
                  rotate_left
                  · intro wS hSw
                    try dsimp only at hSw
                    go_simp
                    first | done | with_reducible rfl
                  try simp only [Act.put, List.setIfInBounds_toArray]
                  refine wpAnyH_take (i := 37) (v := ?_) rfl (by kernel_rfl) (by kernel_rfl) (by kernel_rfl) (fun _ _ _ h => h) (Or.inl ⟨by kernel_rfl, ?_⟩) (by assumption) ?_
                  rotate_left
                  · intro wS hSw
                    try dsimp only at hSw
                    go_simp
                    first | done | with_reducible rfl
                  try simp only [Act.put]
                  refine wpAnyH_done (by kernel_rfl) ?_ _
                  go_wp2
                  go_roundg g3
                  case measure => omega
                  case rel => exact ⟨j + 1, by omega, by go_num, HB12.out⟩
          · have f1 : ((m : Int) != 1) = true := by simp [hm3]
            have f3 : ((m : Int) != 3) = false := by simp [hm3]
            clear hm3
            go_wp2
            go_loopg [18] m (fun g v W => ∃ j : Nat, j + g = m ∧ v = .int .i64 j ∧ Below w8.heap.size w8 W)
            case atStart => exact ⟨0, by omega, rfl, Below.refl _ _⟩
            case round =>
              obtain ⟨j, hjg, rfl, hb⟩ := hrel
              have HB11 := Lib.hid hb
              clear hb
              cases gk with
              | zero =>
                obtain rfl : j = m := by omega
                have d3 : decide ((j : Int) < (j : Int)) = false := by simp
                have hN3 : N2 + j + cntT U ((ls.drop (k + 1)).map fun y => (x, y)) + cntT U (pairsL (ls.drop (i + 1))) = tot := by have h1 := HN2.out; have h2 := HIn.out; have h3 := HLx.out; rw [Option.getD_some] at h2; omega
                have HN3 := Lib.hid hN3
                have hw : IntKind.i64.wrap ((N2 : Int) + (j : Int)) = (N2 : Int) + (j : Int) := by unfold IntKind.wrap; simp [IntKind.bits, IntKind.signed]; omega
                clear hN3
                go_wp2
                go_roundg g2
                case measure => omega
                case rel => exact ⟨k + 1, N2 + j, by omega, by omega, by go_num, by simp, HN3.out, HB10.out.trans (HB11.out.mono HB10.out.size)⟩
              | succ g3 =>
                have hjm : j < m := by omega
                have d3 : decide ((j : Int) < (m : Int)) = true := by simp; omega
                have u1 : (0 : Int) ≤ (j : Int) := by omega
                have u2 : (j : Int) < (m : Int) := by omega
                obtain ⟨⟨ra, rc, rl⟩, g1, g2', g3'⟩ := HAt2.out wr HB11.out j hjm
                dsimp only at g1 g2' g3'
                have HRr := Lib.hid g2'
                have HG1 : Hid (∀ W, Below w8.heap.size w8 W → W.cell? ⟨vb, voff + j, none⟩ = some (.slice ra rl.length rc)) := Lib.hid (fun W hW => by rw [hW.cell (p := ⟨vb, voff + j, none⟩) (Nat.lt_of_lt_of_le HVb.out HB78.out.size), ← HB11.out.cell (p := ⟨vb, voff + j, none⟩) (Nat.lt_of_lt_of_le HVb.out HB78.out.size)]; exact g1)
                have HMr := Lib.hid g3'
                obtain ⟨r0, r1, r2⟩ := HLc2.out wr HB11.out
                have hw1 : IntKind.i64.wrap (2 * (qx : Int)) = 2 * (qx : Int) := by unfold IntKind.wrap; simp [IntKind.bits, IntKind.signed]; omega
                clear g2' g3'
                by_cases hmem : 2 * (qx : Int) ∈ rl
                · have hA1 : Below wr.heap.size wr (wr.alloc (.cells #[.int .i64 (2 * (qx : Int))] 3)).drew := below_drewN ((Below.refl wr.heap.size wr).alloc (Nat.le_refl _) _) 1
                  have KW : Hid (Calls Tryz.prog 38 #[.slice (some ⟨wr.heap.size, 0, none⟩) 1 1, .slice ra rl.length rc] (wr.alloc (.cells #[.int .i64 (2 * (qx : Int))] 3)).drew (fun e w' => e = .returned (.bool true) ∧ (wr.alloc (.cells #[.int .i64 (2 * (qx : Int))] 3)).drew = w')) := Lib.hid ((within15_ok (zs := [2 * (qx : Int)]) 1 rc (one_row wr (2 * (qx : Int))) (HRr.out.below hA1)).mono fun e w' ⟨h1, h2⟩ => ⟨by rw [h1]; simp [hmem], h2⟩)
                  have hA2 : Below w8.heap.size w8 (wr.alloc (.cells #[.int .i64 (2 * (qx : Int))] 3)).drew := HB11.out.trans (hA1.mono HB11.out.size)
                  have HA2 := Lib.hid hA2
                  have KS := Lib.hid (KS0.out _ hA2 ra rc rl (HRr.out.below hA1) HMr.out)
                  clear hA1 hA2 hmem
                  go_upto_region 24 with (fail)
                  refine wp_region_held_drew (S := (fun w' => w'.cell? ⟨pO, 0, none⟩ = some (.slice A2 U.length c2) ∧ w'.cell? ⟨rb, roff + i, none⟩ = some (.int .i64 x) ∧ w'.cell? ⟨rb, roff + k, none⟩ = some (.int .i64 y) ∧ w'.cell? ⟨vb, voff + j, none⟩ = some (.slice ra rl.length rc))) (by kernel_rfl) ?_ (fun hHeld => ?_)
                  · go_keep
                  refine wpAnyH_take (i := 0) (v := ?_) rfl (by kernel_rfl) (by kernel_rfl) (by kernel_rfl) (fun _ _ _ h => h) (Or.inl ⟨by kernel_rfl, ?_⟩) (by assumption) ?_
                  rotate_left
                  · intro wS hSw
                    try dsimp only at hSw
                    go_simp
                    first | done | with_reducible rfl
                  try simp only [Act.put, List.setIfInBounds_toArray]
                  refine wpAnyH_take (i := 1) (v := ?_) rfl (by kernel_rfl) (by kernel_rfl) (by kernel_rfl) (fun _ _ _ h => h) (Or.inl ⟨by kernel_rfl, ?_⟩) (by assumption) ?_
                  rotate_left
                  · intro wS hSw
                    try dsimp only at hSw
                    go_simp
                    first | done | with_reducible rfl
                  try simp only [Act.put]
                  refine wpAnyH_take (i := 3) (v := ?_) rfl (by kernel_rfl) (by kernel_rfl) (by kernel_rfl) (fun _ _ _ h => h) (Or.inl ⟨by kernel_rfl, ?_⟩) (by assumption) ?_
                  rotate_left
                  · intro wS hSw
                    try dsimp only at hSw
                    go_simp
                    first | done | with_reducible rfl
                  try simp only [Act.put]
                  refine wpAnyH_take (i := 4) (v := ?_) rfl (by kernel_rfl) (by kernel_rfl) (by kernel_rfl) (fun _ _ _ h => h) (Or.inl ⟨by kernel_rfl, ?_⟩) (by assumption) ?_
                  rotate_left
                  · intro wS hSw
                    try dsimp only at hSw
                    go_simp
                    first | done | with_reducible rfl
                  try simp only [Act.put]
                  refine wpAnyH_take (i := 5) (v := ?_) rfl (by kernel_rfl) (by kernel_rfl) (by kernel_rfl) (fun _ _ _ h => h) (Or.inl ⟨by kernel_rfl, ?_⟩) (by assumption) ?_
                  rotate_left
                  · intro wS hSw
                    try dsimp only at hSw
                    go_simp
                    first | done | with_reducible rfl
                  try simp only [Act.put]
                  refine wpAnyH_take (i := 6) (v := ?_) rfl (by kernel_rfl) (by kernel_rfl) (by kernel_rfl) (fun _ _ _ h => h) (Or.inl ⟨by kernel_rfl, ?_⟩) (by assumption) ?_
                  rotate_left
                  · intro wS hSw
                    try dsimp only at hSw
                    go_simp
                    first | done | with_reducible rfl
                  try simp only [Act.put]
                  refine wpAnyH_ready (rs := [2]) (by kernel_rfl) (by simp) ?_
                  refine AllReadyH.cons rfl (fun K hK => ?_) AllReadyH.nil
                  go_simp
                  refine hK.out _ _ ?_ (fun hHeld => ?_)
                  · go_keep
                  clear hK K
                  try simp only [Act.put, List.setIfInBounds_toArray, List.set_cons_zero, List.set_cons_succ]
                  refine wpAnyH_ready (rs := [7]) (by kernel_rfl) (by simp) ?_
                  refine AllReadyH.cons rfl (fun K hK => ?_) AllReadyH.nil
                  go_simp
                  refine KW.out.mono ?_
                  rintro e w9 ⟨rfl, rfl⟩
                  refine hK.out _ _ ?_ (fun hHeld => ?_)
                  · go_keep
                  clear hK K
                  try simp only [Act.put, List.setIfInBounds_toArray, List.set_cons_zero, List.set_cons_succ]
                  refine wpAnyH_take (i := 8) (v := ?_) rfl (by kernel_rfl) (by kernel_rfl) (by kernel_rfl) (fun _ _ _ h => h) (Or.inl ⟨by kernel_rfl, ?_⟩) (by assumption) ?_
                  rotate_left
                  · intro wS hSw
                    try dsimp only at hSw
                    go_simp
                    first | done | with_reducible rfl
                  try simp only [Act.put, List.setIfInBounds_toArray]
                  refine wpAnyH_take (i := 9) (v := ?_) rfl (by kernel_rfl) (by kernel_rfl) (by kernel_rfl) (fun _ _ _ h => h) (Or.inl ⟨by kernel_rfl, ?_⟩) (by assumption) ?_
                  rotate_left
                  · intro wS hSw
                    try dsimp only at hSw
                    go_simp
                    first | done | with_reducible rfl
                  try simp only [Act.put]
                  refine wpAnyH_take (i := 10) (v := undef) rfl (by kernel_rfl) (by kernel_rfl) (by kernel_rfl) (fun _ _ _ h => h) (Or.inr ⟨by kernel_rfl, rfl⟩) (by assumption) ?_
                  try simp only [Act.put]
                  refine wpAnyH_take (i := 11) (v := undef) rfl (by kernel_rfl) (by kernel_rfl) (by kernel_rfl) (fun _ _ _ h => h) (Or.inr ⟨by kernel_rfl, rfl⟩) (by assumption) ?_
                  try simp only [Act.put]
                  refine wpAnyH_take (i := 12) (v := undef) rfl (by kernel_rfl) (by kernel_rfl) (by kernel_rfl) (fun _ _ _ h => h) (Or.inr ⟨by kernel_rfl, rfl⟩) (by assumption) ?_
                  try simp only [Act.put]
                  refine wpAnyH_take (i := 13) (v := undef) rfl (by kernel_rfl) (by kernel_rfl) (by kernel_rfl) (fun _ _ _ h => h) (Or.inr ⟨by kernel_rfl, rfl⟩) (by assumption) ?_
                  try simp only [Act.put]
                  refine wpAnyH_take (i := 14) (v := undef) rfl (by kernel_rfl) (by kernel_rfl) (by kernel_rfl) (fun _ _ _ h => h) (Or.inr ⟨by kernel_rfl, rfl⟩) (by assumption) ?_
                  try simp only [Act.put]
                  refine wpAnyH_take (i := 15) (v := undef) rfl (by kernel_rfl) (by kernel_rfl) (by kernel_rfl) (fun _ _ _ h => h) (Or.inr ⟨by kernel_rfl, rfl⟩) (by assumption) ?_
                  try simp only [Act.put]
                  refine wpAnyH_take (i := 16) (v := undef) rfl (by kernel_rfl) (by kernel_rfl) (by kernel_rfl) (fun _ _ _ h => h) (Or.inr ⟨by kernel_rfl, rfl⟩) (by assumption) ?_
                  try simp only [Act.put]
                  refine wpAnyH_take (i := 17) (v := undef) rfl (by kernel_rfl) (by kernel_rfl) (by kernel_rfl) (fun _ _ _ h => h) (Or.inr ⟨by kernel_rfl, rfl⟩) (by assumption) ?_
                  try simp only [Act.put]
                  refine wpAnyH_take (i := 18) (v := undef) rfl (by kernel_rfl) (by kernel_rfl) (by kernel_rfl) (fun _ _ _ h => h) (Or.inr ⟨by kernel_rfl, rfl⟩) (by assumption) ?_
                  try simp only [Act.put]
                  refine wpAnyH_take (i := 19) (v := undef) rfl (by kernel_rfl) (by kernel_rfl) (by kernel_rfl) (fun _ _ _ h => h) (Or.inr ⟨by kernel_rfl, rfl⟩) (by assumption) ?_
                  try simp only [Act.put]
                  refine wpAnyH_take (i := 20) (v := ?_) rfl (by kernel_rfl) (by kernel_rfl) (by kernel_rfl) (fun _ _ _ h => h) (Or.inl ⟨by kernel_rfl, ?_⟩) (by assumption) ?_
                  rotate_left
                  · intro wS hSw
                    try dsimp only at hSw
                    go_simp
                    first | done | with_reducible rfl
                  try simp only [Act.put]
                  refine wpAnyH_take (i := 21) (v := ?_) rfl (by kernel_rfl) (by kernel_rfl) (by kernel_rfl) (fun _ _ _ h => h) (Or.inl ⟨by kernel_rfl, ?_⟩) (by assumption) ?_
                  rotate_left
                  · intro wS hSw
                    try dsimp only at hSw
                    go_simp
                    first | done | with_reducible rfl
                  try simp only [Act.put]
                  refine wpAnyH_take (i := 22) (v := ?_) rfl (by kernel_rfl) (by kernel_rfl) (by kernel_rfl) (fun _ _ _ h => h) (Or.inl ⟨by kernel_rfl, ?_⟩) (by assumption) ?_
                  rotate_left
                  · intro wS hSw
                    try dsimp only at hSw
                    go_simp
                    first | done | with_reducible rfl
                  try simp only [Act.put]
                  refine wpAnyH_take (i := 23) (v := ?_) rfl (by kernel_rfl) (by kernel_rfl) (by kernel_rfl) (fun _ _ _ h => h) (Or.inl ⟨by kernel_rfl, ?_⟩) (by assumption) ?_
                  rotate_left
                  · intro wS hSw
                    try dsimp only at hSw
                    go_simp
                    first | done | with_reducible rfl
                  try simp only [Act.put]
                  refine wpAnyH_take (i := 24) (v := ?_) rfl (by kernel_rfl) (by kernel_rfl) (by kernel_rfl) (fun _ _ _ h => h) (Or.inl ⟨by kernel_rfl, ?_⟩) (by assumption) ?_
                  rotate_left
                  · intro wS hSw
                    try dsimp only at hSw
                    go_simp
                    first | done | with_reducible rfl
                  try simp only [Act.put]
                  refine wpAnyH_take (i := 25) (v := ?_) rfl (by kernel_rfl) (by kernel_rfl) (by kernel_rfl) (fun _ _ _ h => h) (Or.inl ⟨by kernel_rfl, ?_⟩) (by assumption) ?_
                  rotate_left
                  · intro wS hSw
                    try dsimp only at hSw
                    go_simp
                    first | done | with_reducible rfl
                  try simp only [Act.put]
                  refine wpAnyH_take (i := 26) (v := ?_) rfl (by kernel_rfl) (by kernel_rfl) (by kernel_rfl) (fun _ _ _ h => h) (Or.inl ⟨by kernel_rfl, ?_⟩) (by assumption) ?_
                  rotate_left
                  · intro wS hSw
                    try dsimp only at hSw
                    go_simp
                    first | done | with_reducible rfl
                  try simp only [Act.put]
                  refine wpAnyH_take (i := 27) (v := ?_) rfl (by kernel_rfl) (by kernel_rfl) (by kernel_rfl) (fun _ _ _ h => h) (Or.inl ⟨by kernel_rfl, ?_⟩) (by assumption) ?_
                  rotate_left
                  · intro wS hSw
                    try dsimp only at hSw
                    go_simp
                    first | done | with_reducible rfl
                  try simp only [Act.put]
                  refine wpAnyH_take (i := 28) (v := ?_) rfl (by kernel_rfl) (by kernel_rfl) (by kernel_rfl) (fun _ _ _ h => h) (Or.inl ⟨by kernel_rfl, ?_⟩) (by assumption) ?_
                  rotate_left
                  · intro wS hSw
                    try dsimp only at hSw
                    go_simp
                    first | done | with_reducible rfl
                  try simp only [Act.put]
                  refine wpAnyH_take (i := 29) (v := ?_) rfl (by kernel_rfl) (by kernel_rfl) (by kernel_rfl) (fun _ _ _ h => h) (Or.inl ⟨by kernel_rfl, ?_⟩) (by assumption) ?_
                  rotate_left
                  · intro wS hSw
                    try dsimp only at hSw
                    go_simp
                    first | done | with_reducible rfl
                  try simp only [Act.put]
                  refine wpAnyH_take (i := 30) (v := ?_) rfl (by kernel_rfl) (by kernel_rfl) (by kernel_rfl) (fun _ _ _ h => h) (Or.inl ⟨by kernel_rfl, ?_⟩) (by assumption) ?_
                  rotate_left
                  · intro wS hSw
                    try dsimp only at hSw
                    go_simp
                    first | done | with_reducible rfl
                  try simp only [Act.put]
                  refine wpAnyH_take (i := 31) (v := ?_) rfl (by kernel_rfl) (by kernel_rfl) (by kernel_rfl) (fun _ _ _ h => h) (Or.inl ⟨by kernel_rfl, ?_⟩) (by assumption) ?_
                  rotate_left
                  · intro wS hSw
                    try dsimp only at hSw
                    go_simp
                    first | done | with_reducible rfl
                  try simp only [Act.put]
                  refine wpAnyH_take (i := 32) (v := ?_) rfl (by kernel_rfl) (by kernel_rfl) (by kernel_rfl) (fun _ _ _ h => h) (Or.inl ⟨by kernel_rfl, ?_⟩) (by assumption) ?_
                  rotate_left
                  · intro wS hSw
                    try dsimp only at hSw
                    go_simp
                    first | done | with_reducible rfl
                  try simp only [Act.put]
                  refine wpAnyH_take (i := 33) (v := ?_) rfl (by kernel_rfl) (by kernel_rfl) (by kernel_rfl) (fun _ _ _ h => h) (Or.inl ⟨by kernel_rfl, ?_⟩) (by assumption) ?_
                  rotate_left
                  · intro wS hSw
                    try dsimp only at hSw
                    go_simp
                    first | done | with_reducible rfl
                  try simp only [Act.put]
                  refine wpAnyH_take (i := 34) (v := ?_) rfl (by kernel_rfl) (by kernel_rfl) (by kernel_rfl) (fun _ _ _ h => h) (Or.inl ⟨by kernel_rfl, ?_⟩) (by assumption) ?_
                  rotate_left
                  · intro wS hSw
                    try dsimp only at hSw
                    go_simp
                    first | done | with_reducible rfl
                  try simp only [Act.put]
                  refine wpAnyH_ready (rs := [35]) (by kernel_rfl) (by simp) ?_
                  refine AllReadyH.cons rfl (fun K hK => ?_) AllReadyH.nil
                  go_simp
                  refine KS.out.mono ?_
                  rintro e w9 ⟨rfl, hb⟩
                  have HB12 := Lib.hid (HA2.out.trans (hb.mono HA2.out.size))
                  obtain ⟨s0, s1, s2⟩ := HLc2.out w9 HB12.out
                  have s3 := HG1.out w9 HB12.out
                  clear hb
                  refine hK.out _ _ ?_ (fun hHeld => ?_)
                  · go_keep
                  clear hK K
                  try simp only [Act.put, List.setIfInBounds_toArray, List.set_cons_zero, List.set_cons_succ]
                  refine wpAnyH_take (i := 36) (v := ?_) rfl (by kernel_rfl) (by kernel_rfl) (by kernel_rfl) (fun _ _ _ h => h) (Or.inl ⟨by kernel_rfl, ?_⟩) (by assumption) ?_
                  rotate_left
                  · intro wS hSw
                    try dsimp only at hSw
                    go_simp
                    first | done | with_reducible rfl
                  try simp only [Act.put, List.setIfInBounds_toArray]
                  refine wpAnyH_take (i := 37) (v := ?_) rfl (by kernel_rfl) (by kernel_rfl) (by kernel_rfl) (fun _ _ _ h => h) (Or.inl ⟨by kernel_rfl, ?_⟩) (by assumption) ?_
                  rotate_left
                  · intro wS hSw
                    try dsimp only at hSw
                    go_simp
                    first | done | with_reducible rfl
                  try simp only [Act.put]
                  refine wpAnyH_done (by kernel_rfl) ?_ _
                  go_wp2
                  go_roundg g3
                  case measure => omega
                  case rel => exact ⟨j + 1, by omega, by go_num, HB12.out⟩
                · have hmem2 : 2 * (qx : Int) + 1 ∈ rl := (HCl2.out rl HMr.out).resolve_left hmem
                  have hw2 : IntKind.i64.wrap (2 * (qx : Int) + 1) = 2 * (qx : Int) + 1 := by unfold IntKind.wrap; simp [IntKind.bits, IntKind.signed]; omega
                  have hA1 : Below wr.heap.size wr (wr.alloc (.cells #[.int .i64 (2 * (qx : Int))] 3)).drew := below_drewN ((Below.refl wr.heap.size wr).alloc (Nat.le_refl _) _) 1
                  have hA3 : Below wr.heap.size wr ((wr.alloc (.cells #[.int .i64 (2 * (qx : Int))] 3)).alloc (.cells #[.int .i64 (2 * (qx : Int) + 1)] 3)).drew := below_drewN (((Below.refl wr.heap.size wr).alloc (Nat.le_refl _) _).alloc (by simp) _) 1
                  have KW : Hid (Calls Tryz.prog 38 #[.slice (some ⟨wr.heap.size, 0, none⟩) 1 1, .slice ra rl.length rc] (wr.alloc (.cells #[.int .i64 (2 * (qx : Int))] 3)).drew (fun e w' => e = .returned (.bool false) ∧ (wr.alloc (.cells #[.int .i64 (2 * (qx : Int))] 3)).drew = w')) := Lib.hid ((within15_ok (zs := [2 * (qx : Int)]) 1 rc (one_row wr (2 * (qx : Int))) (HRr.out.below hA1)).mono fun e w' ⟨h1, h2⟩ => ⟨by rw [h1]; simp [hmem], h2⟩)
                  have KW2 : Hid (Calls Tryz.prog 38 #[.slice (some ⟨wr.heap.size + 1, 0, none⟩) 1 1, .slice ra rl.length rc] ((wr.alloc (.cells #[.int .i64 (2 * (qx : Int))] 3)).alloc (.cells #[.int .i64 (2 * (qx : Int) + 1)] 3)).drew (fun e w' => e = .returned (.bool true) ∧ ((wr.alloc (.cells #[.int .i64 (2 * (qx : Int))] 3)).alloc (.cells #[.int .i64 (2 * (qx : Int) + 1)] 3)).drew = w')) := Lib.hid ((within15_ok (zs := [2 * (qx : Int) + 1]) 1 rc (by have := one_row (wr.alloc (.cells #[.int .i64 (2 * (qx : Int))] 3)) (2 * (qx : Int) + 1); rwa [show (wr.alloc (.cells #[.int .i64 (2 * (qx : Int))] 3)).heap.size = wr.heap.size + 1 by simp] at this) (HRr.out.below hA3)).mono fun e w' ⟨h1, h2⟩ => ⟨by rw [h1]; simp [hmem2], h2⟩)
                  have hA2 : Below w8.heap.size w8 ((wr.alloc (.cells #[.int .i64 (2 * (qx : Int))] 3)).alloc (.cells #[.int .i64 (2 * (qx : Int) + 1)] 3)).drew := HB11.out.trans (hA3.mono HB11.out.size)
                  have HA2 := Lib.hid hA2
                  have KS := Lib.hid (KS0.out _ hA2 ra rc rl (HRr.out.below hA3) HMr.out)
                  clear hA1 hA2 hA3 hmem hmem2
                  go_upto_region 24 with (fail)
                  refine wp_region_held_drew (S := (fun w' => w'.cell? ⟨pO, 0, none⟩ = some (.slice A2 U.length c2) ∧ w'.cell? ⟨rb, roff + i, none⟩ = some (.int .i64 x) ∧ w'.cell? ⟨rb, roff + k, none⟩ = some (.int .i64 y) ∧ w'.cell? ⟨vb, voff + j, none⟩ = some (.slice ra rl.length rc))) (by kernel_rfl) ?_ (fun hHeld => ?_)
                  · go_keep
                  refine wpAnyH_take (i := 0) (v := ?_) rfl (by kernel_rfl) (by kernel_rfl) (by kernel_rfl) (fun _ _ _ h => h) (Or.inl ⟨by kernel_rfl, ?_⟩) (by assumption) ?_
                  rotate_left
                  · intro wS hSw
                    try dsimp only at hSw
                    go_simp
                    first | done | with_reducible rfl
                  try simp only [Act.put, List.setIfInBounds_toArray]
                  refine wpAnyH_take (i := 1) (v := ?_) rfl (by kernel_rfl) (by kernel_rfl) (by kernel_rfl) (fun _ _ _ h => h) (Or.inl ⟨by kernel_rfl, ?_⟩) (by assumption) ?_
                  rotate_left
                  · intro wS hSw
                    try dsimp only at hSw
                    go_simp
                    first | done | with_reducible rfl
                  try simp only [Act.put]
                  refine wpAnyH_take (i := 3) (v := ?_) rfl (by kernel_rfl) (by kernel_rfl) (by kernel_rfl) (fun _ _ _ h => h) (Or.inl ⟨by kernel_rfl, ?_⟩) (by assumption) ?_
                  rotate_left
                  · intro wS hSw
                    try dsimp only at hSw
                    go_simp
                    first | done | with_reducible rfl
                  try simp only [Act.put]
                  refine wpAnyH_take (i := 4) (v := ?_) rfl (by kernel_rfl) (by kernel_rfl) (by kernel_rfl) (fun _ _ _ h => h) (Or.inl ⟨by kernel_rfl, ?_⟩) (by assumption) ?_
                  rotate_left
                  · intro wS hSw
                    try dsimp only at hSw
                    go_simp
                    first | done | with_reducible rfl
                  try simp only [Act.put]
                  refine wpAnyH_take (i := 5) (v := ?_) rfl (by kernel_rfl) (by kernel_rfl) (by kernel_rfl) (fun _ _ _ h => h) (Or.inl ⟨by kernel_rfl, ?_⟩) (by assumption) ?_
                  rotate_left
                  · intro wS hSw
                    try dsimp only at hSw
                    go_simp
                    first | done | with_reducible rfl
                  try simp only [Act.put]
                  refine wpAnyH_take (i := 6) (v := ?_) rfl (by kernel_rfl) (by kernel_rfl) (by kernel_rfl) (fun _ _ _ h => h) (Or.inl ⟨by kernel_rfl, ?_⟩) (by assumption) ?_
                  rotate_left
                  · intro wS hSw
                    try dsimp only at hSw
                    go_simp
                    first | done | with_reducible rfl
                  try simp only [Act.put]
                  refine wpAnyH_ready (rs := [2]) (by kernel_rfl) (by simp) ?_
                  refine AllReadyH.cons rfl (fun K hK => ?_) AllReadyH.nil
                  go_simp
                  refine hK.out _ _ ?_ (fun hHeld => ?_)
                  · go_keep
                  clear hK K
                  try simp only [Act.put, List.setIfInBounds_toArray, List.set_cons_zero, List.set_cons_succ]
                  refine wpAnyH_ready (rs := [7]) (by kernel_rfl) (by simp) ?_
                  refine AllReadyH.cons rfl (fun K hK => ?_) AllReadyH.nil
                  go_simp
                  refine KW.out.mono ?_
                  rintro e w9 ⟨rfl, rfl⟩
                  refine hK.out _ _ ?_ (fun hHeld => ?_)
                  · go_keep
                  clear hK K
                  try simp only [Act.put, List.setIfInBounds_toArray, List.set_cons_zero, List.set_cons_succ]
                  refine wpAnyH_take (i := 8) (v := ?_) rfl (by kernel_rfl) (by kernel_rfl) (by kernel_rfl) (fun _ _ _ h => h) (Or.inl ⟨by kernel_rfl, ?_⟩) (by assumption) ?_
                  rotate_left
                  · intro wS hSw
                    try dsimp only at hSw
                    go_simp
                    first | done | with_reducible rfl
                  try simp only [Act.put, List.setIfInBounds_toArray]
                  refine wpAnyH_take (i := 9) (v := ?_) rfl (by kernel_rfl) (by kernel_rfl) (by kernel_rfl) (fun _ _ _ h => h) (Or.inl ⟨by kernel_rfl, ?_⟩) (by assumption) ?_
                  rotate_left
                  · intro wS hSw
                    try dsimp only at hSw
                    go_simp
                    first | done | with_reducible rfl
                  try simp only [Act.put]
                  refine wpAnyH_take (i := 10) (v := ?_) rfl (by kernel_rfl) (by kernel_rfl) (by kernel_rfl) (fun _ _ _ h => h) (Or.inl ⟨by kernel_rfl, ?_⟩) (by assumption) ?_
                  rotate_left
                  · intro wS hSw
                    try dsimp only at hSw
                    go_simp
                    first | done | with_reducible rfl
                  try simp only [Act.put]
                  refine wpAnyH_take (i := 11) (v := ?_) rfl (by kernel_rfl) (by kernel_rfl) (by kernel_rfl) (fun _ _ _ h => h) (Or.inl ⟨by kernel_rfl, ?_⟩) (by assumption) ?_
                  rotate_left
                  · intro wS hSw
                    try dsimp only at hSw
                    go_simp
                    first | done | with_reducible rfl
                  try simp only [Act.put]
                  refine wpAnyH_take (i := 12) (v := ?_) rfl (by kernel_rfl) (by kernel_rfl) (by kernel_rfl) (fun _ _ _ h => h) (Or.inl ⟨by kernel_rfl, ?_⟩) (by assumption) ?_
                  rotate_left
                  · intro wS hSw
                    try dsimp only at hSw
                    go_simp
                    first | done | with_reducible rfl
                  try simp only [Act.put]
                  refine wpAnyH_take (i := 14) (v := ?_) rfl (by kernel_rfl) (by kernel_rfl) (by kernel_rfl) (fun _ _ _ h => h) (Or.inl ⟨by kernel_rfl, ?_⟩) (by assumption) ?_
                  rotate_left
                  · intro wS hSw
                    try dsimp only at hSw
                    go_simp
                    first | done | with_reducible rfl
                  try simp only [Act.put]
                  refine wpAnyH_take (i := 15) (v := ?_) rfl (by kernel_rfl) (by kernel_rfl) (by kernel_rfl) (fun _ _ _ h => h) (Or.inl ⟨by kernel_rfl, ?_⟩) (by assumption) ?_
                  rotate_left
                  · intro wS hSw
                    try dsimp only at hSw
                    go_simp
                    first | done | with_reducible rfl
                  try simp only [Act.put]
                  refine wpAnyH_take (i := 16) (v := ?_) rfl (by kernel_rfl) (by kernel_rfl) (by kernel_rfl) (fun _ _ _ h => h) (Or.inl ⟨by kernel_rfl, ?_⟩) (by assumption) ?_
                  rotate_left
                  · intro wS hSw
                    try dsimp only at hSw
                    go_simp
                    first | done | with_reducible rfl
                  try simp only [Act.put]
                  refine wpAnyH_take (i := 17) (v := ?_) rfl (by kernel_rfl) (by kernel_rfl) (by kernel_rfl) (fun _ _ _ h => h) (Or.inl ⟨by kernel_rfl, ?_⟩) (by assumption) ?_
                  rotate_left
                  · intro wS hSw
                    try dsimp only at hSw
                    go_simp
                    first | done | with_reducible rfl
                  try simp only [Act.put]
                  refine wpAnyH_ready (rs := [13]) (by kernel_rfl) (by simp) ?_
                  refine AllReadyH.cons rfl (fun K hK => ?_) AllReadyH.nil
                  go_simp
                  refine hK.out _ _ ?_ (fun hHeld => ?_)
                  · go_keep
                  clear hK K
                  try simp only [Act.put, List.setIfInBounds_toArray, List.set_cons_zero, List.set_cons_succ]
                  refine wpAnyH_ready (rs := [18]) (by kernel_rfl) (by simp) ?_
                  refine AllReadyH.cons rfl (fun K hK => ?_) AllReadyH.nil
                  go_simp
                  refine KW2.out.mono ?_
                  rintro e w9 ⟨rfl, rfl⟩
                  refine hK.out _ _ ?_ (fun hHeld => ?_)
                  · go_keep
                  clear hK K
                  try simp only [Act.put, List.setIfInBounds_toArray, List.set_cons_zero, List.set_cons_succ]
                  refine wpAnyH_take (i := 19) (v := ?_) rfl (by kernel_rfl) (by kernel_rfl) (by kernel_rfl) (fun _ _ _ h => h) (Or.inl ⟨by kernel_rfl, ?_⟩) (by assumption) ?_
                  rotate_left
                  · intro wS hSw
                    try dsimp only at hSw
                    go_simp
                    first | done | with_reducible rfl
                  try simp only [Act.put, List.setIfInBounds_toArray]
                  refine wpAnyH_take (i := 20) (v := ?_) rfl (by kernel_rfl) (by kernel_rfl) (by kernel_rfl) (fun _ _ _ h => h) (Or.inl ⟨by kernel_rfl, ?_⟩) (by assumption) ?_
                  rotate_left
                  · intro wS hSw
                    try dsimp only at hSw
                    go_simp
                    first | done | with_reducible rfl
                  try simp only [Act.put]
                  refine wpAnyH_take (i := 21) (v := ?_) rfl (by kernel_rfl) (by kernel_rfl) (by kernel_rfl) (fun _ _ _ h => h) (Or.inl ⟨by kernel_rfl, ?_⟩) (by assumption) ?_
                  rotate_left
                  · intro wS hSw
                    try dsimp only at hSw
                    go_simp
                    first | done | with_reducible rfl
                  try simp only [Act.put]
                  refine wpAnyH_take (i := 22) (v := ?_) rfl (by kernel_rfl) (by kernel_rfl) (by kernel_rfl) (fun _ _ _ h => h) (Or.inl ⟨by kernel_rfl, ?_⟩) (by assumption) ?_
                  rotate_left
                  · intro wS hSw
                    try dsimp only at hSw
                    go_simp
                    first | done | with_reducible rfl
                  try simp only [Act.put]
                  refine wpAnyH_take (i := 23) (v := ?_) rfl (by kernel_rfl) (by kernel_rfl) (by kernel_rfl) (fun _ _ _ h => h) (Or.inl ⟨by kernel_rfl, ?_⟩) (by assumption) ?_
                  rotate_left
                  · intro wS hSw
                    try dsimp only at hSw
                    go_simp
                    first | done | with_reducible rfl
                  try simp only [Act.put]
                  refine wpAnyH_take (i := 24) (v := ?_) rfl (by kernel_rfl) (by kernel_rfl) (by kernel_rfl) (fun _ _ _ h => h) (Or.inl ⟨by kernel_rfl, ?_⟩) (by assumption) ?_
                  rotate_left
                  · intro wS hSw
                    try dsimp only at hSw
                    go_simp
                    first | done | with_reducible rfl
                  try simp only [Act.put]
                  refine wpAnyH_take (i := 25) (v := ?_) rfl (by kernel_rfl) (by kernel_rfl) (by kernel_rfl) (fun _ _ _ h => h) (Or.inl ⟨by kernel_rfl, ?_⟩) (by assumption) ?_
                  rotate_left
                  · intro wS hSw
                    try dsimp only at hSw
                    go_simp
                    first | done | with_reducible rfl
                  try simp only [Act.put]
                  refine wpAnyH_take (i := 26) (v := ?_) rfl (by kernel_rfl) (by kernel_rfl) (by kernel_rfl) (fun _ _ _ h => h) (Or.inl ⟨by kernel_rfl, ?_⟩) (by assumption) ?_
                  rotate_left
                  · intro wS hSw
                    try dsimp only at hSw
                    go_simp
                    first | done | with_reducible rfl
                  try simp only [Act.put]
                  refine wpAnyH_take (i := 27) (v := ?_) rfl (by kernel_rfl) (by kernel_rfl) (by kernel_rfl) (fun _ _ _ h => h) (Or.inl ⟨by kernel_rfl, ?_⟩) (by assumption) ?_
                  rotate_left
                  · intro wS hSw
                    try dsimp only at hSw
                    go_simp
                    first | done | with_reducible rfl
                  try simp only [Act.put]
                  refine wpAnyH_take (i := 28) (v := ?_) rfl (by kernel_rfl) (by kernel_rfl) (by kernel_rfl) (fun _ _ _ h => h) (Or.inl ⟨by kernel_rfl, ?_⟩) (by assumption) ?_
                  rotate_left
                  · intro wS hSw
                    try dsimp only at hSw
                    go_simp
                    first | done | with_reducible rfl
                  try simp only [Act.put]
                  refine wpAnyH_take (i := 29) (v := ?_) rfl (by kernel_rfl) (by kernel_rfl) (by kernel_rfl) (fun _ _ _ h => h) (Or.inl ⟨by kernel_rfl, ?_⟩) (by assumption) ?_
                  rotate_left
                  · intro wS hSw
                    try dsimp only at hSw
                    go_simp
                    first | done | with_reducible rfl
                  try simp only [Act.put]
                  refine wpAnyH_take (i := 30) (v := ?_) rfl (by kernel_rfl) (by kernel_rfl) (by kernel_rfl) (fun _ _ _ h => h) (Or.inl ⟨by kernel_rfl, ?_⟩) (by assumption) ?_
                  rotate_left
                  · intro wS hSw
                    try dsimp only at hSw
                    go_simp
                    first | done | with_reducible rfl
                  try simp only [Act.put]
                  refine wpAnyH_take (i := 31) (v := ?_) rfl (by kernel_rfl) (by kernel_rfl) (by kernel_rfl) (fun _ _ _ h => h) (Or.inl ⟨by kernel_rfl, ?_⟩) (by assumption) ?_
                  rotate_left
                  · intro wS hSw
                    try dsimp only at hSw
                    go_simp
                    first | done | with_reducible rfl
                  try simp only [Act.put]
                  refine wpAnyH_take (i := 32) (v := ?_) rfl (by kernel_rfl) (by kernel_rfl) (by kernel_rfl) (fun _ _ _ h => h) (Or.inl ⟨by kernel_rfl, ?_⟩) (by assumption) ?_
                  rotate_left
                  · intro wS hSw
                    try dsimp only at hSw
                    go_simp
                    first | done | with_reducible rfl
                  try simp only [Act.put]
                  refine wpAnyH_take (i := 33) (v := ?_) rfl (by kernel_rfl) (by kernel_rfl) (by kernel_rfl) (fun _ _ _ h => h) (Or.inl ⟨by kernel_rfl, ?_⟩) (by assumption) ?_
                  rotate_left
                  · intro wS hSw
                    try dsimp only at hSw
                    go_simp
                    first | done | with_reducible rfl
                  try simp only [Act.put]
                  refine wpAnyH_take (i := 34) (v := ?_) rfl (by kernel_rfl) (by kernel_rfl) (by kernel_rfl) (fun _ _ _ h => h) (Or.inl ⟨by kernel_rfl, ?_⟩) (by assumption) ?_
                  rotate_left
                  · intro wS hSw
                    try dsimp only at hSw
                    go_simp
                    first | done | with_reducible rfl
                  try simp only [Act.put]
                  refine wpAnyH_ready (rs := [35]) (by kernel_rfl) (by simp) ?_
                  refine AllReadyH.cons rfl (fun K hK => ?_) AllReadyH.nil
                  go_simp
                  refine KS.out.mono ?_
                  rintro e w9 ⟨rfl, hb⟩
                  have HB12 := Lib.hid (HA2.out.trans (hb.mono HA2.out.size))
                  obtain ⟨s0, s1, s2⟩ := HLc2.out w9 HB12.out
                  have s3 := HG1.out w9 HB12.out
                  clear hb
                  refine hK.out _ _ ?_ (fun hHeld => ?_)
                  · go_keep
                  clear hK K
                  try simp only [Act.put, List.setIfInBounds_toArray, List.set_cons_zero, List.set_cons_succ]
                  refine wpAnyH_take (i := 36) (v := ?_) rfl (by kernel_rfl) (by kernel_rfl) (by kernel_rfl) (fun _ _ _ h => h) (Or.inl ⟨by kernel_rfl, ?_⟩) (by assumption) ?_
                  rotate_left
                  · intro wS hSw
                    try dsimp only at hSw
                    go_simp
                    first | done | with_reducible rfl
                  try simp only [Act.put, List.setIfInBounds_toArray]
                  refine wpAnyH_take (i := 37) (v := ?_) rfl (by kernel_rfl) (by kernel_rfl) (by kernel_rfl) (fun _ _ _ h => h) (Or.inl ⟨by kernel_rfl, ?_⟩) (by assumption) ?_
                  rotate_left
                  · intro wS hSw
                    try dsimp only at hSw
                    go_simp
                    first | done | with_reducible rfl
                  try simp only [Act.put]
                  refine wpAnyH_done (by kernel_rfl) ?_ _
                  go_wp2
                  go_roundg g3
                  case measure => omega
                  case rel => exact ⟨j + 1, by omega, by go_num, HB12.out⟩
/-- ShareCounts, whatever came in. -/
theorem shareCounts_walk (x : TabIn) (A1 : Option Addr) (l1 c1 : Nat) (z1 : List Int) (w : World) (h : x.Ok w) (h1 : IsRow .i64 w A1 l1 c1 z1) :
    Calls Tryz.prog 9 #[x.val, .slice A1 l1 c1] w (fun e w' => e = .returned (.bool true) ∧ Below w.heap.size w w') := by
  obtain ⟨A, n, c, f⟩ := x
  unfold TabIn.val TabIn.Ok at *
  simp only at h ⊢
  by_cases hb : 300 < n ∨ 100 < l1
  · exact shareCounts_big hb
  · obtain ⟨T, hT, htab⟩ : ∃ T : List Nd, T.length = n ∧ Tab w A T := ⟨_, by simp, h.tab (by omega)⟩
    obtain ⟨L, e1, hL, _⟩ := isRow_row h1 (by omega)
    rw [← hT, ← e1]
    exact shareCounts_core c c1 htab hL (by omega) (by omega)
end Go.Proofs.YtlipnnibagidiaaGreat

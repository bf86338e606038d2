/- ShareTwice's walk. -/
import Derived.Test.YtlipnnibagidiaaGreatSpP
import Derived.Test.YtlipnnibagidiaaGreatTwA
import Derived.Test.YtlipnnibagidiaaGreatOfC
import Derived.Test.YtlipnnibagidiaaGreatQuiet
namespace Go.Proofs.YtlipnnibagidiaaGreat
open Go.RowKit Go.Lib Go.ChangeShapes Go.WideShapes Go.ChangeAt

set_option maxRecDepth 100000 in
set_option maxHeartbeats 2000000 in
theorem shareTwice_big {w : World} {A : Option Addr} {n c : Nat} {B : Option Addr} {lB cB : Nat} (h : 300 < n ∨ 100 < lB) :
    Calls Tryz.prog 6 #[.agg #[.slice A n c], .slice B lB cB] w (fun e w' => e = .returned (.bool true) ∧ Below w.heap.size w w') := by
  have HB0 : Hid (Below w.heap.size w (w.alloc (.cells #[.slice A n c] 33))) := Lib.hid ((Below.refl _ w).alloc (Nat.le_refl _) _)
  have KG := Lib.hid (rgreat_ok (w := w.alloc (.cells #[.slice A n c] 33)) A n c)
  by_cases hn : 300 < n
  · have d := decide_eq_true hn
    rw [d] at KG
    clear h hn d
    go_enter Tryz.func6, Tryz.ntmps6
    go_wp2_with fail
    refine KG.out.mono ?_
    rintro e w1 ⟨rfl, hb1⟩
    have HB1 := Lib.hid (HB0.out.trans (hb1.mono HB0.out.size))
    clear hb1
    go_wp2_with fail
    refine (wakes_ok _).mono ?_
    rintro e w2 ⟨rfl, hb2⟩
    have HB2 := Lib.hid (HB1.out.trans (hb2.mono HB1.out.size))
    clear hb2
    go_wp2
    go_ret
    exact ⟨rfl, HB2.out⟩
  have d := decide_eq_false hn
  rw [d] at KG
  clear d
  have hB : 100 < lB := by omega
  have eB : decide (((lB : Nat) : Int) > 100) = true := by simp; omega
  have fB : decide ((100 : Int) < ((lB : Nat) : Int)) = true := by simp; omega
  clear h hn hB
  go_enter Tryz.func6, Tryz.ntmps6
  go_wp2_with fail
  refine KG.out.mono ?_
  rintro e w1 ⟨rfl, hb1⟩
  have HB1 := Lib.hid (HB0.out.trans (hb1.mono HB0.out.size))
  clear hb1
  go_wp2_with fail
  refine (wakes_ok _).mono ?_
  rintro e w2 ⟨rfl, hb2⟩
  have HB2 := Lib.hid (HB1.out.trans (hb2.mono HB1.out.size))
  clear hb2
  go_wp2
  go_ret
  exact ⟨rfl, HB2.out⟩
set_option maxRecDepth 100000 in
set_option maxHeartbeats 16000000 in
theorem shareTwice_core {w : World} {A B : Option Addr} {T : List Nd} {LB : List Int} (c cB : Nat) (h : Tab w A T) (hB : Row w B LB) (hlT : T.length ≤ 300) (hlB : LB.length ≤ 100) :
    Calls Tryz.prog 6 #[.agg #[.slice A T.length c], .slice B LB.length cB] w (fun e w' => e = .returned (.bool true) ∧ Below w.heap.size w w') := by
  have eB : decide (((LB.length : Nat) : Int) > 100) = false := by simp; omega
  have fB : decide ((100 : Int) < ((LB.length : Nat) : Int)) = false := by simp; omega
  have HB0 : Hid (Below w.heap.size w (w.alloc (.cells #[.slice A T.length c] 33))) := Lib.hid ((Below.refl _ w).alloc (Nat.le_refl _) _)
  have HT0 := Lib.hid (Blk.new w 33 #[.slice A T.length c])
  have KG := Lib.hid (rgreat_ok (w := w.alloc (.cells #[.slice A T.length c] 33)) A T.length c)
  rw [decide_eq_false (show ¬ 300 < T.length by omega)] at KG
  have H := Lib.hid h
  have HIB := Lib.hid hB
  clear h hB hlT hlB
  go_enter Tryz.func6, Tryz.ntmps6
  go_wp2_with fail
  refine KG.out.mono ?_
  rintro e w1 ⟨rfl, hb1⟩
  have HB1 := Lib.hid (HB0.out.trans (hb1.mono HB0.out.size))
  have HT1 := Lib.hid (HT0.out.below hb1 HT0.out.lt)
  have x1 := HT1.out.cell 0
  simp only [List.getElem?_toArray, List.getElem?_cons_zero] at x1
  clear hb1
  go_wp2_with fail
  refine (cof_ok c cB 1000 (by decide) (H.out.below HB1.out) (HIB.out.below HB1.out)).mono ?_
  rintro e w2 ⟨CA, C, cc, oA, on, oc, er, rfl, hok, hb2⟩
  have hB2 := HB1.out.trans (hb2.mono HB1.out.size)
  have hbA : Below w2.heap.size w2 (w2.alloc (.cells #[.slice CA C.length cc] 33)) := (Below.refl _ w2).alloc (Nat.le_refl _) _
  obtain ⟨w3, hw3⟩ : ∃ w3, w2.alloc (.cells #[.slice CA C.length cc] 33) = w3 := ⟨_, rfl⟩
  obtain ⟨pC, hpC⟩ : ∃ pC, w2.heap.size = pC := ⟨_, rfl⟩
  have HB3 : Hid (Below w.heap.size w w3) := Lib.hid (by rw [← hw3]; exact hB2.trans (hbA.mono hB2.size))
  have HC3 : Hid (Blk w3 pC 33 #[.slice CA C.length cc]) := Lib.hid (by rw [← hw3, ← hpC]; exact Blk.new _ _ _)
  have HOK : Hid (er = 0 → Well C ∧ IteOk C ∧ (C.length : Int) ≤ max 2 1000 ∧ Tab w3 CA C ∧ C.length ≤ cc) := Lib.hid (fun e => by
    obtain ⟨g1, g2, g3, g4, g5⟩ := hok e
    exact ⟨g1, g2, g3, by rw [← hw3]; exact g4.alloc _, g5⟩)
  have HGE : Hid (w.heap.size ≤ pC) := Lib.hid (by rw [← hpC]; exact hB2.size)
  have HW3 := Lib.hid hw3
  have HPC := Lib.hid hpC
  clear hok hb2 hB2 hbA x1 hw3 hpC
  go_upto_region 4 with (fail)
  rw [HW3.out, HPC.out]
  clear HW3 HPC
  by_cases he : er = 0
  rotate_left
  · have e1 : (er != 0) = true := by simpa using he
    clear he HOK
    go_wp2_with fail
    refine (wakes_ok _).mono ?_
    rintro e w4 ⟨rfl, hb4⟩
    have HB4 := Lib.hid (HB3.out.trans (hb4.mono HB3.out.size))
    clear hb4
    go_wp2
    go_ret
    exact ⟨rfl, HB4.out⟩
  subst he
  obtain ⟨hwl, hit, hml, htc, hcc⟩ := HOK.out rfl
  have HWl := Lib.hid hwl
  have HIt := Lib.hid hit
  have HML : Hid (C.length ≤ 1000) := Lib.hid (by omega)
  have HTC := Lib.hid htc
  have HCC := Lib.hid hcc
  have x3 := HC3.out.cell 0
  simp only [List.getElem?_toArray, List.getElem?_cons_zero] at x3
  clear hwl hit hml htc hcc HOK
  go_wp2_with fail
  refine (sput_ok cc 2000 HCC.out HTC.out (by have := HML.out; omega)).mono ?_
  rintro e w4 ⟨A2, c2, rfl, ht4, hc4, hb4⟩
  obtain ⟨⟨U, er⟩, hr⟩ : ∃ r, putS C 2000 = r := ⟨_, rfl⟩
  have HPS := Lib.hid (putS_is HWl.out.core HWl.out.sum 2000)
  have HR := Lib.hid hr
  rw [hr] at ht4 hc4 HPS ⊢
  simp only at ht4 hc4 HPS ⊢
  have hB4 := HB3.out.trans (hb4.mono HB3.out.size)
  have hbA : Below w4.heap.size w4 (w4.alloc (.cells #[.slice A2 U.length c2] 33)) := (Below.refl _ w4).alloc (Nat.le_refl _) _
  obtain ⟨w5, hw5⟩ : ∃ w5, w4.alloc (.cells #[.slice A2 U.length c2] 33) = w5 := ⟨_, rfl⟩
  obtain ⟨pO, hpO⟩ : ∃ pO, w4.heap.size = pO := ⟨_, rfl⟩
  have HB5 : Hid (Below w.heap.size w w5) := Lib.hid (by rw [← hw5]; exact hB4.trans (hbA.mono hB4.size))
  have HO5 : Hid (Blk w5 pO 33 #[.slice A2 U.length c2]) := Lib.hid (by rw [← hw5, ← hpO]; exact Blk.new _ _ _)
  have HC5 : Hid (Blk w5 pC 33 #[.slice CA C.length cc]) := Lib.hid (by rw [← hw5]; exact (HC3.out.below hb4 HC3.out.lt).alloc _)
  have HU5 : Hid (Tab w5 A2 U) := Lib.hid (by rw [← hw5]; exact ht4.alloc _)
  have HTC5 : Hid (Tab w5 CA C) := Lib.hid (by rw [← hw5]; exact (HTC.out.below hb4).alloc _)
  have HLT5 : Hid (w.heap.size ≤ pC ∧ pC < pO) := Lib.hid (by have h1 := HC3.out.lt; have h2 := hb4.size; have h3 := HGE.out; omega)
  have HC4 := Lib.hid hc4
  have HW5 := Lib.hid hw5
  have HPO := Lib.hid hpO
  clear hB4 hbA hb4 ht4 hc4 x3 hr hw5 hpO
  go_upto_region 7 with (fail)
  rw [HW5.out, HPO.out]
  clear HW5 HPO HB0 HT0 KG HB1 HT1 HC3 HB3 HTC
  have x5 := HO5.out.cell 0
  simp only [List.getElem?_toArray, List.getElem?_cons_zero] at x5
  by_cases hf0 : er = 0
  rotate_left
  · have e1 : (er != 0) = true := by simpa using hf0
    obtain ⟨he4, rfl⟩ : (er = 40 ∨ er = 10) ∧ U = [] := by
      rcases HPS.out with ⟨h, _⟩ | h
      · exact absurd h hf0
      · exact h
    clear hf0 HPS HR
    rcases he4 with rfl | rfl
    · skip
      go_wp2_with fail
      refine (wakes_ok _).mono ?_
      rintro e wz ⟨rfl, hbz⟩
      have HBy := Lib.hid ((HB5.out).trans (hbz.mono (HB5.out).size))
      clear hbz
      go_wp2
      go_ret
      exact ⟨rfl, HBy.out⟩
    · skip
      go_wp2_with fail
      refine (wakes_ok _).mono ?_
      rintro e wz ⟨rfl, hbz⟩
      have HBy := Lib.hid ((HB5.out).trans (hbz.mono (HB5.out).size))
      clear hbz
      go_wp2
      go_ret
      exact ⟨rfl, HBy.out⟩
  subst hf0
  obtain ⟨g, l, hnl⟩ : Grew C U ∧ (∀ p ∈ pairsL (nodesT C), LaidP U p.1 p.2) ∧ (nodesT C).length ≤ 12 := by
    rcases HPS.out with ⟨_, g, l, hnl⟩ | ⟨h, _⟩
    · exact ⟨g, l, hnl⟩
    · rcases h with h | h <;> cases h
  have HCo := Lib.hid g.core
  have HNU : Hid (nodesT U = nodesT C) := Lib.hid (nodesT_grew g)
  have HN12 : Hid ((nodesT U).length ≤ 12) := Lib.hid (by rw [nodesT_grew g]; exact hnl)
  have HLp : Hid (∀ p ∈ pairsL (nodesT U), LaidP U p.1 p.2) := Lib.hid (by rw [nodesT_grew g]; exact l)
  have HLd : Hid (laidB U = true) := Lib.hid (by
    have := putS_laid HWl.out.core HWl.out.sum HWl.out.noeq (most := 2000) (by rw [HR.out])
    rwa [HR.out] at this)
  have HAg : Hid (putS U 2000 = ⟨U, 0⟩) := Lib.hid (by
    have := putS_again HWl.out.core HWl.out.sum (most := 2000) (most' := 2000) (by rw [HR.out])
    rwa [HR.out] at this)
  have HExt : Hid (∃ S, U = C ++ S) := Lib.hid (by obtain ⟨S, h, _⟩ := g.ext; exact ⟨S, h⟩)
  have HUl : Hid (U.length ≤ 10000) := Lib.hid (by
    have h1 := putS_len (T := C) (most := 2000) (by rw [HR.out])
    rw [HR.out] at h1
    have h2 := pairsL_half (nodesT C)
    have h3 : (nodesT C).length * ((nodesT C).length - 1) ≤ 12 * 11 := Nat.mul_le_mul hnl (by omega)
    have h4 := HML.out
    dsimp only at h1
    omega)
  clear g l hnl HPS HR HIt
  go_wp2_with fail
  refine (sput_ok c2 2000 HC4.out HU5.out HUl.out).mono ?_
  rintro e w6 ⟨A3, c3, rfl, ht6, hc6, hb6⟩
  rw [HAg.out] at ht6 hc6 ⊢
  simp only at ht6 hc6 ⊢
  have hB6 := HB5.out.trans (hb6.mono HB5.out.size)
  have hbA : Below w6.heap.size w6 (w6.alloc (.cells #[.slice A3 U.length c3] 33)) := (Below.refl _ w6).alloc (Nat.le_refl _) _
  obtain ⟨w7, hw7⟩ : ∃ w7, w6.alloc (.cells #[.slice A3 U.length c3] 33) = w7 := ⟨_, rfl⟩
  obtain ⟨pP, hpP⟩ : ∃ pP, w6.heap.size = pP := ⟨_, rfl⟩
  have HB7 : Hid (Below w.heap.size w w7) := Lib.hid (by rw [← hw7]; exact hB6.trans (hbA.mono hB6.size))
  have hb57 : Below w5.heap.size w5 w7 := by rw [← hw7]; exact hb6.trans (hbA.mono hb6.size)
  have HP7 : Hid (Blk w7 pP 33 #[.slice A3 U.length c3]) := Lib.hid (by rw [← hw7, ← hpP]; exact Blk.new _ _ _)
  have HO7 := Lib.hid (HO5.out.below hb57 HO5.out.lt)
  have HC7 := Lib.hid (HC5.out.below hb57 HC5.out.lt)
  have HU7 := Lib.hid (HU5.out.below hb57)
  have HTC7 := Lib.hid (HTC5.out.below hb57)
  have HV7 : Hid (Tab w7 A3 U) := Lib.hid (by rw [← hw7]; exact ht6.alloc _)
  have HW7 := Lib.hid hw7
  have HPP := Lib.hid hpP
  clear ht6 hc6 hb6 hB6 hbA hb57 x5 hw7 hpP
  have HX1 : Hid (Below w7.heap.size w7 w7.drew) := Lib.hid (below_drewN (Below.refl w7.heap.size w7) 1)
  have HFx : Hid (∀ W, Below w7.heap.size w7 W → W.cell? ⟨pC, 0, none⟩ = some (.slice CA C.length cc) ∧ W.cell? ⟨pO, 0, none⟩ = some (.slice A2 U.length c2) ∧ W.cell? ⟨pP, 0, none⟩ = some (.slice A3 U.length c3)) := Lib.hid (fun W hW => ⟨(HC7.out.below hW HC7.out.lt).cell 0, (HO7.out.below hW HO7.out.lt).cell 0, (HP7.out.below hW HP7.out.lt).cell 0⟩)
  have KSa : Hid (∀ W, Below w7.heap.size w7 W → Calls Tryz.prog 26 #[.agg #[.slice A2 U.length c2], .agg #[.slice A3 U.length c3]] W (fun e w' => e = .returned (.bool true) ∧ Below W.heap.size W w')) := Lib.hid (fun W hW => (rsame_ok c2 c3 (HU7.out.below hW) (HV7.out.below hW)).mono fun e w' ⟨r, h1, h2, h3⟩ => ⟨by rw [h1, h2.2 rfl], h3⟩)
  have KLa := Lib.hid (fun W (hW : Below w7.heap.size w7 W) => rlaid_ok c2 (HU7.out.below hW) HLd.out HN12.out HLp.out)
  have KNo : Hid (∀ W, Below w7.heap.size w7 W → Calls Tryz.prog 29 #[.agg #[.slice A2 U.length c2]] W (fun e w' => ∃ NA nc, e = .returned (.slice NA (nodesT C).length nc) ∧ Row w' NA (nodesT C) ∧ Below W.heap.size W w')) := Lib.hid (fun W hW => (snodes_ok c2 HC4.out (HU7.out.below hW)).mono fun e w' ⟨v, h1, h2, h3⟩ => by
    rw [if_pos (coreB_iff.2 HCo.out), HNU.out] at h2
    obtain ⟨NA, nc, hv⟩ := own_slice h2
    rw [hv] at h2
    have hn12 := HN12.out
    rw [HNU.out] at hn12
    exact ⟨NA, nc, by rw [h1, hv], (h2.row (by omega)).1, h3⟩)
  have KNc : Hid (∀ W, Below w7.heap.size w7 W → Calls Tryz.prog 29 #[.agg #[.slice CA C.length cc]] W (fun e w' => ∃ NA nc, e = .returned (.slice NA (nodesT C).length nc) ∧ Row w' NA (nodesT C) ∧ Below W.heap.size W w')) := Lib.hid (fun W hW => (snodes_ok cc HCC.out (HTC7.out.below hW)).mono fun e w' ⟨v, h1, h2, h3⟩ => by
    rw [if_pos (coreB_iff.2 HWl.out.core)] at h2
    obtain ⟨NA, nc, hv⟩ := own_slice h2
    rw [hv] at h2
    have hn12 := HN12.out
    rw [HNU.out] at hn12
    exact ⟨NA, nc, by rw [h1, hv], (h2.row (by omega)).1, h3⟩)
  obtain ⟨S, hUS⟩ := HExt.out
  have HUS := Lib.hid hUS
  have hCU : C.length ≤ U.length := by rw [hUS, List.length_append]; omega
  have n6 : decide ((U.length : Int) < (C.length : Int)) = false := decide_eq_false (by omega)
  have n7 : decide (U.length < C.length) = false := decide_eq_false (by omega)
  have n8 : ¬ U.length < C.length := by omega
  clear hUS HLT5 HLd HLp HAg
  generalize nodesT C = ls at *
  go_upto_region 10 with (fail)
  rw [HW7.out, HPP.out]
  clear HW7 HPP
  obtain ⟨x1, x2, x3⟩ := HFx.out w7 (Below.refl _ _)
  go_region_held3 (fun w' => w'.cell? ⟨pC, 0, none⟩ = some (.slice CA C.length cc) ∧ w'.cell? ⟨pO, 0, none⟩ = some (.slice A2 U.length c2) ∧ w'.cell? ⟨pP, 0, none⟩ = some (.slice A3 U.length c3)) (go_keep) (first
    | (go_at_call 28; refine (same28_ok nc1 nc2 (HN1.out.below HBcd.out) HN2.out).mono ?_; rintro e we ⟨rfl, hb⟩; have HBe := Lib.hid (HBd.out.trans (hb.mono HBd.out.size)); obtain ⟨s1, s2, s3⟩ := HFx.out we HBe.out; clear hb)
    | (go_at_call 29; refine (KNc.out _ HBc.out).mono ?_; rintro e wd ⟨NA2, nc2, rfl, hn2, hb⟩; have HN2 := Lib.hid hn2; have HBcd := Lib.hid hb; have HBd := Lib.hid (HBc.out.trans (hb.mono HBc.out.size)); obtain ⟨r1, r2, r3⟩ := HFx.out wd HBd.out; clear hb hn2)
    | (go_at_call 29; refine (KNo.out _ HBb.out).mono ?_; rintro e wc ⟨NA1, nc1, rfl, hn1, hb⟩; have HN1 := Lib.hid hn1; have HBc := Lib.hid (HBb.out.trans (hb.mono HBb.out.size)); obtain ⟨q1, q2, q3⟩ := HFx.out wc HBc.out; clear hb hn1)
    | (go_at_call 27; refine (KLa.out _ HBa.out).mono ?_; rintro e wb ⟨rfl, hb⟩; have HBb := Lib.hid (HBa.out.trans (hb.mono HBa.out.size)); obtain ⟨p1, p2, p3⟩ := HFx.out wb HBb.out; clear hb)
    | (go_at_call 26; refine (KSa.out _ HX1.out).mono ?_; rintro e wa ⟨rfl, hb⟩; have HBa := Lib.hid (HX1.out.trans (hb.mono HX1.out.size)); obtain ⟨o1, o2, o3⟩ := HFx.out wa HBa.out; clear hb))
  have HBe0 := Lib.hid HBe.out
  have hC1k : C.length ≤ 1000 := HML.out
  clear s1 s2 s3
  go_wp2
  go_loopg [12] C.length (fun g v W => ∃ i : Nat, i + g = C.length ∧ v = .int .i64 i ∧ Below w7.heap.size w7 W)
  case atStart => exact ⟨0, by omega, rfl, HBe0.out⟩
  case round =>
    obtain ⟨i, hig, rfl, hb⟩ := hrel
    have HB := Lib.hid hb
    obtain ⟨x1, x2, x3⟩ := HFx.out wr hb
    clear hb
    cases gk with
    | zero =>
      obtain rfl : i = C.length := by omega
      have d2 : decide ((C.length : Int) < C.length) = false := by simp
      have HBz := Lib.hid (HB7.out.trans (HB.out.mono HB7.out.size))
      go_wp2_with fail
      refine (wakes_ok _).mono ?_
      rintro e wz ⟨rfl, hbz⟩
      have HBy := Lib.hid ((HBz.out).trans (hbz.mono (HBz.out).size))
      clear hbz
      go_wp2
      go_ret
      exact ⟨rfl, HBy.out⟩
    | succ gk =>
      have hlt : i < C.length := by omega
      have hlu : i < U.length := by omega
      have d2 : decide ((i : Int) < C.length) = true := by simp; omega
      have t1 : (0 : Int) ≤ (i : Int) := by omega
      have t2 : (i : Int) < (C.length : Int) := by omega
      have t3 : (i : Int) < (U.length : Int) := by omega
      obtain ⟨b, off, hA, hbb, hcell⟩ := (HTC7.out.below HB.out).at_.resolve_left (by omega)
      obtain ⟨b', off', hA', hbb', hcell'⟩ := (HU7.out.below HB.out).at_.resolve_left (by omega)
      have hm := hcell i hlt
      have hm' := hcell' i hlu
      have hee : C[i] = U[i] := by
        have h1 : U[i]? = C[i]? := by rw [HUS.out, List.getElem?_append_left hlt]
        rw [List.getElem?_eq_getElem hlu, List.getElem?_eq_getElem hlt] at h1
        injection h1 with h1
        exact h1.symm
      obtain ⟨r, hr, he⟩ := node_eq hm.wf hm'.wf
      obtain rfl : r = true := hr.2 hee
      obtain ⟨y0, y1, y2, y3, y4, y5, y6, y7⟩ := hm.all
      obtain ⟨z0, z1, z2, z3, z4, z5, z6, z7⟩ := hm'.all
      have HA := Lib.hid hA
      have HA' := Lib.hid hA'
      subst hA hA'
      clear hcell hcell' hm hm' hr hee
      generalize C[i] = m at *
      generalize U[i] = m' at *
      simp only [nodeVal, nodeCells] at he
      have ge := node_neq he
      have gg := node_guard
      clear he hlt hlu
      go_wp2
      go_quiet (fail)
      go_wp2
      go_roundg gk
      case measure => omega
      case rel => exact ⟨i + 1, by omega, by go_num, below_drewN HB.out _⟩
/-- ShareTwice, whatever came in. -/
theorem shareTwice_walk (x : TabIn) (A1 : Option Addr) (l1 c1 : Nat) (z1 : List Int) (w : World) (h : x.Ok w) (h1 : IsRow .i64 w A1 l1 c1 z1) :
    Calls Tryz.prog 6 #[x.val, .slice A1 l1 c1] w (fun e w' => e = .returned (.bool true) ∧ Below w.heap.size w w') := by
  obtain ⟨A, n, c, f⟩ := x
  unfold TabIn.val TabIn.Ok at *
  simp only at h ⊢
  by_cases hb : 300 < n ∨ 100 < l1
  · exact shareTwice_big hb
  · obtain ⟨T, hT, htab⟩ : ∃ T : List Nd, T.length = n ∧ Tab w A T := ⟨_, by simp, h.tab (by omega)⟩
    obtain ⟨L, e1, hL, _⟩ := isRow_row h1 (by omega)
    rw [← hT, ← e1]
    exact shareTwice_core c c1 htab hL (by omega) (by omega)
end Go.Proofs.YtlipnnibagidiaaGreat

/- ShareNumbers' walk. -/
import Derived.Test.YtlipnnibagidiaaGreatSpP
import Derived.Test.YtlipnnibagidiaaGreatIntIn
import Derived.Test.YtlipnnibagidiaaGreatQuiet
import Derived.Test.YtlipnnibagidiaaGreatNbA
namespace Go.Proofs.YtlipnnibagidiaaGreat
open Go.RowKit Go.Lib Go.ChangeShapes Go.WideShapes Go.ChangeAt

set_option maxRecDepth 100000 in
set_option maxHeartbeats 2000000 in
theorem shareNumbers_big {w : World} {A : Option Addr} {n c : Nat} {B : Option Addr} {lB cB : Nat} {D : Option Addr} {lD cD : Nat} (h : 300 < n ∨ 100 < lB ∨ 2000 < lD) :
    Calls Tryz.prog 8 #[.agg #[.slice A n c], .slice B lB cB, .slice D lD cD] w (fun e w' => e = .returned (.bool true) ∧ Below w.heap.size w w') := by
  have HB0 : Hid (Below w.heap.size w (w.alloc (.cells #[.slice A n c] 33))) := Lib.hid ((Below.refl _ w).alloc (Nat.le_refl _) _)
  have KG := Lib.hid (rgreat_ok (w := w.alloc (.cells #[.slice A n c] 33)) A n c)
  by_cases hn : 300 < n
  · have d := decide_eq_true hn
    rw [d] at KG
    clear h hn d
    go_enter Tryz.func8, Tryz.ntmps8
    go_wp2_with fail
    refine KG.out.mono ?_
    rintro e w1 ⟨rfl, hb1⟩
    have HB1 := Lib.hid (HB0.out.trans (hb1.mono HB0.out.size))
    clear hb1
    go_wp2_with fail
    refine (wakes_ok _).mono ?_
    rintro e w2 ⟨rfl, hb2⟩
    have HB2 := Lib.hid (HB1.out.trans (hb2.mono HB1.out.size))
    clear hb2
    go_wp2
    go_ret
    exact ⟨rfl, HB2.out⟩
  have d := decide_eq_false hn
  rw [d] at KG
  clear d
  by_cases hB : 100 < lB
  · have eB : decide (((lB : Nat) : Int) > 100) = true := by simp; omega
    have fB : decide ((100 : Int) < ((lB : Nat) : Int)) = true := by simp; omega
    clear h hn hB
    go_enter Tryz.func8, Tryz.ntmps8
    go_wp2_with fail
    refine KG.out.mono ?_
    rintro e w1 ⟨rfl, hb1⟩
    have HB1 := Lib.hid (HB0.out.trans (hb1.mono HB0.out.size))
    clear hb1
    go_wp2_with fail
    refine (wakes_ok _).mono ?_
    rintro e w2 ⟨rfl, hb2⟩
    have HB2 := Lib.hid (HB1.out.trans (hb2.mono HB1.out.size))
    clear hb2
    go_wp2
    go_ret
    exact ⟨rfl, HB2.out⟩
  have eB : decide (((lB : Nat) : Int) > 100) = false := by simp; omega
  have fB : decide ((100 : Int) < ((lB : Nat) : Int)) = false := by simp; omega
  have hD : 2000 < lD := by omega
  have eD : decide (((lD : Nat) : Int) > 2000) = true := by simp; omega
  have fD : decide ((2000 : Int) < ((lD : Nat) : Int)) = true := by simp; omega
  clear h hn hD hB
  go_enter Tryz.func8, Tryz.ntmps8
  go_wp2_with fail
  refine KG.out.mono ?_
  rintro e w1 ⟨rfl, hb1⟩
  have HB1 := Lib.hid (HB0.out.trans (hb1.mono HB0.out.size))
  clear hb1
  go_wp2_with fail
  refine (wakes_ok _).mono ?_
  rintro e w2 ⟨rfl, hb2⟩
  have HB2 := Lib.hid (HB1.out.trans (hb2.mono HB1.out.size))
  clear hb2
  go_wp2
  go_ret
  exact ⟨rfl, HB2.out⟩
set_option maxRecDepth 100000 in
set_option maxHeartbeats 16000000 in
theorem shareNumbers_core {w : World} {A B D : Option Addr} {T : List Nd} {LB LD : List Int} (c cB cD : Nat) (h : Tab w A T) (hB : Row w B LB) (hD : Row w D LD) (hlT : T.length ≤ 300) (hlB : LB.length ≤ 100) (hlD : LD.length ≤ 2000) :
    Calls Tryz.prog 8 #[.agg #[.slice A T.length c], .slice B LB.length cB, .slice D LD.length cD] w (fun e w' => e = .returned (.bool true) ∧ Below w.heap.size w w') := by
  obtain ⟨j0, ji0, jz0, jz1, jz2⟩ := info_parts int8_info
  have hlD0 : LD.length ≤ 2000 := hlD
  have eB : decide (((LB.length : Nat) : Int) > 100) = false := by simp; omega
  have fB : decide ((100 : Int) < ((LB.length : Nat) : Int)) = false := by simp; omega
  have eD : decide (((LD.length : Nat) : Int) > 2000) = false := by simp; omega
  have fD : decide ((2000 : Int) < ((LD.length : Nat) : Int)) = false := by simp; omega
  have HB0 : Hid (Below w.heap.size w (w.alloc (.cells #[.slice A T.length c] 33))) := Lib.hid ((Below.refl _ w).alloc (Nat.le_refl _) _)
  have HT0 := Lib.hid (Blk.new w 33 #[.slice A T.length c])
  have KG := Lib.hid (rgreat_ok (w := w.alloc (.cells #[.slice A T.length c] 33)) A T.length c)
  rw [decide_eq_false (show ¬ 300 < T.length by omega)] at KG
  have H := Lib.hid h
  have HIB := Lib.hid hB
  have HID := Lib.hid hD
  clear h hB hD hlT hlB hlD
  go_enter Tryz.func8, Tryz.ntmps8
  go_wp2_with fail
  refine KG.out.mono ?_
  rintro e w1 ⟨rfl, hb1⟩
  have HB1 := Lib.hid (HB0.out.trans (hb1.mono HB0.out.size))
  have HT1 := Lib.hid (HT0.out.below hb1 HT0.out.lt)
  have x1 := HT1.out.cell 0
  simp only [List.getElem?_toArray, List.getElem?_cons_zero] at x1
  clear hb1
  go_wp2_with fail
  refine (cof_ok c cB 1000 (by decide) (H.out.below HB1.out) (HIB.out.below HB1.out)).mono ?_
  rintro e w2 ⟨CA, C, cc, oA, on, oc, er, rfl, hok, hb2⟩
  have hB2 := HB1.out.trans (hb2.mono HB1.out.size)
  have hbA : Below w2.heap.size w2 (w2.alloc (.cells #[.slice CA C.length cc] 33)) := (Below.refl _ w2).alloc (Nat.le_refl _) _
  obtain ⟨w3, hw3⟩ : ∃ w3, w2.alloc (.cells #[.slice CA C.length cc] 33) = w3 := ⟨_, rfl⟩
  obtain ⟨pC, hpC⟩ : ∃ pC, w2.heap.size = pC := ⟨_, rfl⟩
  have HB3 : Hid (Below w.heap.size w w3) := Lib.hid (by rw [← hw3]; exact hB2.trans (hbA.mono hB2.size))
  have HC3 : Hid (Blk w3 pC 33 #[.slice CA C.length cc]) := Lib.hid (by rw [← hw3, ← hpC]; exact Blk.new _ _ _)
  have HOK : Hid (er = 0 → Well C ∧ IteOk C ∧ (C.length : Int) ≤ max 2 1000 ∧ Tab w3 CA C ∧ C.length ≤ cc) := Lib.hid (fun e => by
    obtain ⟨g1, g2, g3, g4, g5⟩ := hok e
    exact ⟨g1, g2, g3, by rw [← hw3]; exact g4.alloc _, g5⟩)
  have HGE : Hid (w.heap.size ≤ pC) := Lib.hid (by rw [← hpC]; exact hB2.size)
  have HW3 := Lib.hid hw3
  have HPC := Lib.hid hpC
  clear hok hb2 hB2 hbA x1 hw3 hpC
  go_upto_region 4 with (fail)
  rw [HW3.out, HPC.out]
  clear HW3 HPC
  by_cases he : er = 0
  rotate_left
  · have e1 : (er != 0) = true := by simpa using he
    clear he HOK
    go_wp2_with fail
    refine (wakes_ok _).mono ?_
    rintro e w4 ⟨rfl, hb4⟩
    have HB4 := Lib.hid (HB3.out.trans (hb4.mono HB3.out.size))
    clear hb4
    go_wp2
    go_ret
    exact ⟨rfl, HB4.out⟩
  subst he
  obtain ⟨hwl, hit, hml, htc, hcc⟩ := HOK.out rfl
  have HWl := Lib.hid hwl
  have HIt := Lib.hid hit
  have HML : Hid (C.length ≤ 1000) := Lib.hid (by omega)
  have HTC := Lib.hid htc
  have HCC := Lib.hid hcc
  have x3 := HC3.out.cell 0
  simp only [List.getElem?_toArray, List.getElem?_cons_zero] at x3
  clear hwl hit hml htc hcc HOK
  go_wp2_with fail
  refine (sput_ok cc 2000 HCC.out HTC.out (by have := HML.out; omega)).mono ?_
  rintro e w4 ⟨A2, c2, rfl, ht4, hc4, hb4⟩
  obtain ⟨⟨U, er⟩, hr⟩ : ∃ r, putS C 2000 = r := ⟨_, rfl⟩
  have HPS := Lib.hid (putS_is HWl.out.core HWl.out.sum 2000)
  have HR := Lib.hid hr
  rw [hr] at ht4 hc4 HPS ⊢
  simp only at ht4 hc4 HPS ⊢
  have hB4 := HB3.out.trans (hb4.mono HB3.out.size)
  have hbA : Below w4.heap.size w4 (w4.alloc (.cells #[.slice A2 U.length c2] 33)) := (Below.refl _ w4).alloc (Nat.le_refl _) _
  obtain ⟨w5, hw5⟩ : ∃ w5, w4.alloc (.cells #[.slice A2 U.length c2] 33) = w5 := ⟨_, rfl⟩
  obtain ⟨pO, hpO⟩ : ∃ pO, w4.heap.size = pO := ⟨_, rfl⟩
  have HB5 : Hid (Below w.heap.size w w5) := Lib.hid (by rw [← hw5]; exact hB4.trans (hbA.mono hB4.size))
  have HO5 : Hid (Blk w5 pO 33 #[.slice A2 U.length c2]) := Lib.hid (by rw [← hw5, ← hpO]; exact Blk.new _ _ _)
  have HC5 : Hid (Blk w5 pC 33 #[.slice CA C.length cc]) := Lib.hid (by rw [← hw5]; exact (HC3.out.below hb4 HC3.out.lt).alloc _)
  have HU5 : Hid (Tab w5 A2 U) := Lib.hid (by rw [← hw5]; exact ht4.alloc _)
  have HTC5 : Hid (Tab w5 CA C) := Lib.hid (by rw [← hw5]; exact (HTC.out.below hb4).alloc _)
  have HLT5 : Hid (w.heap.size ≤ pC ∧ pC < pO) := Lib.hid (by have h1 := HC3.out.lt; have h2 := hb4.size; have h3 := HGE.out; omega)
  have HC4 := Lib.hid hc4
  have HW5 := Lib.hid hw5
  have HPO := Lib.hid hpO
  clear hB4 hbA hb4 ht4 hc4 x3 hr hw5 hpO
  go_upto_region 7 with (fail)
  rw [HW5.out, HPO.out]
  clear HW5 HPO HB0 HT0 KG HB1 HT1 HC3 HB3 HTC
  by_cases hf0 : er = 0
  rotate_left
  · have e1 : (er != 0) = true := by simpa using hf0
    clear hf0 HPS HR
    go_wp2_with fail
    refine (wakes_ok _).mono ?_
    rintro e wz ⟨rfl, hbz⟩
    have HBz := Lib.hid ((HB5.out).trans (hbz.mono (HB5.out).size))
    clear hbz
    go_wp2
    go_ret
    exact ⟨rfl, HBz.out⟩
  subst hf0
  by_cases hpos : 0 < LD.length
  rotate_left
  · have e2 : ((LD.length : Int) == 0) = true := beq_iff_eq.2 (by omega)
    clear hpos HPS HR
    go_wp2_with fail
    refine (wakes_ok _).mono ?_
    rintro e wz ⟨rfl, hbz⟩
    have HBz := Lib.hid ((HB5.out).trans (hbz.mono (HB5.out).size))
    clear hbz
    go_wp2
    go_ret
    exact ⟨rfl, HBz.out⟩
  have e2 : ((LD.length : Int) == 0) = false := beq_eq_false_iff_ne.2 (by omega)
  obtain ⟨g, l, hnl⟩ : Grew C U ∧ (∀ p ∈ pairsL (nodesT C), LaidP U p.1 p.2) ∧ (nodesT C).length ≤ 12 := by
    rcases HPS.out with ⟨_, g, l, hnl⟩ | ⟨h, _⟩
    · exact ⟨g, l, hnl⟩
    · rcases h with h | h <;> cases h
  have HCo := Lib.hid g.core
  have HSu : Hid (SumT U) := Lib.hid (HWl.out.sum.grew g HWl.out.core)
  have HNl : Hid ((nodesT U).length ≤ 500) := Lib.hid (by rw [nodesT_grew g]; omega)
  have HLd : Hid (laidB U = true) := Lib.hid (by
    have := putS_laid HWl.out.core HWl.out.sum HWl.out.noeq (most := 2000) (by rw [HR.out])
    rwa [HR.out] at this)
  have HHold : Hid (∀ nums, clsOn (asgN nums U) (allT U)) := Lib.hid (fun nums => numbers_hold HWl.out.core HWl.out.sum (most := 2000) (by rw [HR.out]) (by rw [HR.out]) nums)
  have hUl := HU5.out.len
  have HPos := Lib.hid hpos
  have x5 := HO5.out.cell 0
  simp only [List.getElem?_toArray, List.getElem?_cons_zero] at x5
  clear g l hnl HPS HR HWl HIt HML HCC HC5 HTC5 hpos
  go_wp2_with fail
  refine (rcheck_ok c2 HU5.out).mono ?_
  rintro e w6 ⟨r, rfl, hr, hb6⟩
  obtain rfl : r = true := hr.2 HCo.out.ok
  have HB6 := Lib.hid (HB5.out.trans (hb6.mono HB5.out.size))
  have HU6 := Lib.hid (HU5.out.below hb6)
  have HO6 := Lib.hid (HO5.out.below hb6 HO5.out.lt)
  have x6 := HO6.out.cell 0
  simp only [List.getElem?_toArray, List.getElem?_cons_zero] at x6
  clear hr hb6 x5
  go_wp2
  go_loopg [12] LD.length (fun g v W => ∃ i : Nat, i + g = LD.length ∧ v = .int .i64 i ∧ w6 = W ∧ ∀ k (hk : k < LD.length), k < i → -1048576 ≤ LD[k] ∧ LD[k] ≤ 1048576)
  case atStart => exact ⟨0, by omega, rfl, rfl, fun k hk h => absurd h (Nat.not_lt_zero _)⟩
  case round =>
    obtain ⟨i, hig, rfl, rfl, hin⟩ := hrel
    have HIn := Lib.hid hin
    clear hin
    cases gk with
    | succ gk =>
      have hlt : i < LD.length := by omega
      have d1 : decide ((i : Int) < LD.length) = true := by simp; omega
      have t1 : (0 : Int) ≤ (i : Int) := by omega
      have t2 : (i : Int) < (LD.length : Int) := by omega
      obtain ⟨rb, roff, hRA, hrb, hrc⟩ := (HID.out.below HB6.out).at_.resolve_left (by omega)
      have y0 := hrc i hlt
      have HNext : Hid (-1048576 ≤ LD[i] ∧ LD[i] ≤ 1048576 → ∀ k (hk : k < LD.length), k < i + 1 → -1048576 ≤ LD[k] ∧ LD[k] ≤ 1048576) := Lib.hid (fun e k hk h => by
        by_cases hki : k = i
        · subst hki; exact e
        · exact HIn.out k hk (by omega))
      subst hRA
      clear hrc
      generalize LD[i] = x at *
      by_cases h1 : x > 1048576
      · have e3 : decide (x > 1048576) = true := decide_eq_true h1
        have e3' : decide (1048576 < x) = true := decide_eq_true h1
        clear h1
        go_wp2_with fail
        refine (wakes_ok _).mono ?_
        rintro e wz ⟨rfl, hbz⟩
        have HBz := Lib.hid ((HB6.out).trans (hbz.mono (HB6.out).size))
        clear hbz
        go_wp2
        go_ret
        exact ⟨rfl, HBz.out⟩
      have e3 : decide (x > 1048576) = false := decide_eq_false h1
      have e3' : decide (1048576 < x) = false := decide_eq_false h1
      by_cases h2 : x < -1048576
      · have e4 : decide (x < -1048576) = true := decide_eq_true h2
        clear h1 h2
        go_wp2_with fail
        refine (wakes_ok _).mono ?_
        rintro e wz ⟨rfl, hbz⟩
        have HBz := Lib.hid ((HB6.out).trans (hbz.mono (HB6.out).size))
        clear hbz
        go_wp2
        go_ret
        exact ⟨rfl, HBz.out⟩
      have e4 : decide (x < -1048576) = false := decide_eq_false h2
      have HX := Lib.hid (HNext.out (by omega))
      clear h1 h2
      go_wp2
      go_roundg gk
      case measure => omega
      case rel => exact ⟨i + 1, by omega, by go_num, rfl, HX.out⟩
    | zero =>
      obtain rfl : i = LD.length := by omega
      have d1 : decide ((LD.length : Int) < LD.length) = false := by simp
      have HBd : Hid (∀ x ∈ LD, -1048576 ≤ x ∧ x ≤ 1048576) := Lib.hid (fun x hx => by
        obtain ⟨k, hk, rfl⟩ := List.getElem_of_mem hx
        exact HIn.out k hk hk)
      have hms := run_make_rowN (P := Tryz.prog) 41 44 j0 (.int .i8 0) Tryz.underlying41 ji0 jz0 .i64 .i64 U.length U.length (Nat.le_refl _) (by rw [jz2]; omega) (by omega) w6
      rw [jz1, Nat.mul_one, show (Value.int .i8 0).cells = #[Value.int .i8 0] from rfl, i8Cells_made] at hms
      obtain ⟨w7, hw7⟩ : ∃ w7, w6.alloc (.cells (i8Cells U.length (fun _ => 0)) 44) = w7 := ⟨_, rfl⟩
      obtain ⟨ab, hab⟩ : ∃ ab, w6.heap.size = ab := ⟨_, rfl⟩
      have HN7 : Hid (NI w pO ab A2 U c2 LD 0 (fun _ => 0) w7) := Lib.hid (by
        rw [← hw7, ← hab]
        refine ⟨HO6.out.alloc _, Blk.new _ _ _, HB6.out.alloc HB6.out.size _, HU6.out.alloc _, fun k hk => absurd hk (Nat.not_lt_zero _), fun k hk => absurd hk (Nat.not_lt_zero _), ?_, HO6.out.lt, fun b e h0 => Tab.lt (e ▸ HU6.out) h0⟩
        have := HLT5.out
        omega)
      rw [hw7] at hms
      rw [hab] at hms
      have HRow := Lib.hid HID.out
      clear HIn hw7 hab
      go_wp2
      clear hms x6
      go_loopg [14] U.length (fun g v W => ∃ (i : Nat) (F : Nat → Int), i + g = U.length ∧ v = .int .i64 i ∧ NI w pO ab A2 U c2 LD i F W)
      case atStart => exact ⟨0, _, by omega, rfl, HN7.out⟩
      case round =>
        obtain ⟨i, F, hig, rfl, hx⟩ := hrel
        have HX := Lib.hid hx
        have p0 := hx.t.cell 0
        simp only [List.getElem?_toArray, List.getElem?_cons_zero] at p0
        clear hx
        cases gk with
        | zero =>
          obtain rfl : i = U.length := by omega
          have d2 : decide ((U.length : Int) < U.length) = false := by simp
          go_wp2_with fail
          refine (sall_ok c2 HC4.out HX.out.tab HNl.out).mono ?_
          rintro e w8 ⟨v, rows, rfl, hg, hrows, hb8⟩
          rw [HLd.out] at hrows ⊢
          rw [if_pos rfl] at hrows ⊢
          have HX8 := Lib.hid (HX.out.below hb8)
          have hF : (List.range U.length).map F = (List.range U.length).map fun k : Nat => asgN (numF LD) U (k : Int) := List.map_congr_left fun k hk => HX.out.asg k (List.mem_range.1 hk)
          have h8 := i8_row HX8.out.a hUl
          rw [hF] at h8
          have KH := holds15t_ok U.length hg h8 (fun r hr x hx => by
            have := all_range (T := U) r.2.2 (by rw [← hrows]; exact List.mem_map.2 ⟨r, hr, rfl⟩) x hx
            omega) (fun r hr => all_vals (HHold.out (numF LD)) r.2.2 (by rw [← hrows]; exact List.mem_map.2 ⟨r, hr, rfl⟩))
          rw [List.length_map, List.length_range] at KH
          have KH := Lib.hid KH
          have HB8 := Lib.hid HX8.out.bel
          clear hb8 hg hrows hF h8
          go_wp2_with fail
          refine KH.out.mono ?_
          rintro e w9 ⟨rfl, rfl⟩
          go_wp2_with fail
          refine (wakes_ok _).mono ?_
          rintro e wz ⟨rfl, hbz⟩
          have HBz := Lib.hid ((HB8.out).trans (hbz.mono (HB8.out).size))
          clear hbz
          go_wp2
          go_ret
          exact ⟨rfl, HBz.out⟩
        | succ gk =>
          have hlt : i < U.length := by omega
          have d2 : decide ((i : Int) < U.length) = true := by simp; omega
          have t1 : (0 : Int) ≤ (i : Int) := by omega
          have t2 : (i : Int) < (U.length : Int) := by omega
          obtain ⟨tb, toff, hTA, htb, htc⟩ := HX.out.tab.at_.resolve_left (by omega)
          obtain ⟨y0, y1, y2, y3, y4, y5, y6, y7⟩ := (htc i hlt).all
          have HCa := Lib.hid (core_args HCo.out hlt)
          have HND : Hid (ndAt U (i : Nat) = U[i]) := Lib.hid (ndAt_nat hlt)
          have HAt : Hid (A2 = some ⟨tb, toff, none⟩) := Lib.hid hTA
          subst hTA
          clear htc
          rw [HND.out] at HCa
          generalize U[i] = n at *
          obtain ⟨nb, hnb⟩ : ∃ nb, wr.heap.size = nb := ⟨_, rfl⟩
          obtain ⟨wn, hwn⟩ : ∃ wn, wr.alloc (.cells #[.int .i8 n.op, .int .i8 n.len, .int .i64 n.a0, .int .i64 n.a1, .int .i64 n.a2, .int .i64 n.sort, .int .i64 n.fn, .int .i64 n.num] 51) = wn := ⟨_, rfl⟩
          have HXn : Hid (NI w pO ab (some ⟨tb, toff, none⟩) U c2 LD i F wn) := Lib.hid (by rw [← hwn]; exact HX.out.below ((Below.refl _ wr).alloc (Nat.le_refl _) _))
          have HNn : Hid (Blk wn nb 51 #[.int .i8 n.op, .int .i8 n.len, .int .i64 n.a0, .int .i64 n.a1, .int .i64 n.a2, .int .i64 n.sort, .int .i64 n.fn, .int .i64 n.num]) := Lib.hid (by rw [← hwn, ← hnb]; exact Blk.new _ _ _)
          have HNe : Hid (nb ≠ ab) := Lib.hid (by have := HX.out.a.lt; omega)
          have HWn := Lib.hid hwn
          have HNb := Lib.hid hnb
          have z7 : wn.cell? ⟨nb, 7, none⟩ = some (.int .i64 n.num) := HNn.out.cell 7
          obtain ⟨ac, af⟩ := HXn.out.cell hlt
          clear hwn hnb
          go_upto_region 21 with (fail)
          rw [HWn.out, HNb.out]
          clear HWn HNb y0 y1 y2 y3 y4 y5 y6 y7 p0
          by_cases h1 : n.num > 1099511627776
          · have e3 : decide (n.num > 1099511627776) = true := decide_eq_true h1
            have e3' : decide (1099511627776 < n.num) = true := decide_eq_true h1
            clear h1
            go_wp2_with fail
            refine (wakes_ok _).mono ?_
            rintro e wz ⟨rfl, hbz⟩
            have HBz := Lib.hid ((HXn.out.bel).trans (hbz.mono (HXn.out.bel).size))
            clear hbz
            go_wp2
            go_ret
            exact ⟨rfl, HBz.out⟩
          have e3 : decide (n.num > 1099511627776) = false := decide_eq_false h1
          have e3' : decide (1099511627776 < n.num) = false := decide_eq_false h1
          by_cases h2 : n.num < -1099511627776
          · have e4 : decide (n.num < -1099511627776) = true := decide_eq_true h2
            clear h1 h2
            go_wp2_with fail
            refine (wakes_ok _).mono ?_
            rintro e wz ⟨rfl, hbz⟩
            have HBz := Lib.hid ((HXn.out.bel).trans (hbz.mono (HXn.out.bel).size))
            clear hbz
            go_wp2
            go_ret
            exact ⟨rfl, HBz.out⟩
          have e4 : decide (n.num < -1099511627776) = false := decide_eq_false h2
          have HSm : Hid (-1099511627776 ≤ (ndAt U i).num ∧ (ndAt U i).num ≤ 1099511627776) := Lib.hid (by rw [HND.out]; omega)
          clear h1 h2
          obtain ⟨ws, hws⟩ : ∃ ws, wn.setCell ⟨ab, i, none⟩ (.int .i8 2) = ws := ⟨_, rfl⟩
          have HXs : Hid (NI w pO ab (some ⟨tb, toff, none⟩) U c2 LD i (updI F i 2) ws) := Lib.hid (by rw [← hws]; exact HXn.out.set 2)
          have HNs : Hid (Blk ws nb 51 #[.int .i8 n.op, .int .i8 n.len, .int .i64 n.a0, .int .i64 n.a1, .int .i64 n.a2, .int .i64 n.sort, .int .i64 n.fn, .int .i64 n.num]) := Lib.hid (by rw [← hws]; exact HNn.out.far (p := ⟨ab, i, none⟩) HNe.out _)
          have HF2 : Hid (updI F i 2 i = 2) := Lib.hid (updI_at F i 2)
          have HWs := Lib.hid hws
          clear hws
          go_upto_region 24 with (fail)
          rw [HWs.out]
          clear HWs z7 ac af HXn HNn
          generalize updI F i 2 = F2 at *
          have HAs : Hid (asgN (numF LD) U i = if n.op = 12 ∧ numV (numF LD) U n.a0 - numV (numF LD) U n.a1 ≤ n.num then 1 else if n.op = 6 ∧ (ndAt U n.a0).sort = 1 ∧ numV (numF LD) U n.a0 = numV (numF LD) U n.a1 then 1 else 2) := Lib.hid (by unfold asgN; rw [HND.out])
          have s0 : ws.cell? ⟨nb, 0, none⟩ = some (.int .i8 n.op) := HNs.out.cell 0
          obtain ⟨ac, af⟩ := HXs.out.cell hlt
          rw [HF2.out] at ac
          by_cases o12 : n.op = 12
          · have e12 : (n.op == 12) = true := beq_iff_eq.2 o12
            have e6 : (n.op == 6) = false := beq_eq_false_iff_ne.2 (by omega)
            obtain ⟨sh0, sh1, lt0, lt1⟩ := HCa.out.1 o12
            have b0 := HXs.out.small sh0.lo lt0
            have b1 := HXs.out.small sh1.lo lt1
            have K0 := Lib.hid (fun W (hW : Below ws.heap.size ws W) => number_ok c2 cD (HXs.out.tab.below hW) HCo.out.ok (ordB_iff.2 HCo.out.ord) sh0 (base_own HCo.out HSu.out sh0).2.1 (HRow.out.below (HXs.out.bel.trans (hW.mono HXs.out.bel.size))) HPos.out HBd.out b0)
            have K1 := Lib.hid (fun W (hW : Below ws.heap.size ws W) => number_ok c2 cD (HXs.out.tab.below hW) HCo.out.ok (ordB_iff.2 HCo.out.ord) sh1 (base_own HCo.out HSu.out sh1).2.1 (HRow.out.below (HXs.out.bel.trans (hW.mono HXs.out.bel.size))) HPos.out HBd.out b1)
            have w0 := numV_small HBd.out b0
            have w1 := numV_small HBd.out b1
            obtain ⟨v0, hv0⟩ : ∃ v, numV (numF LD) U n.a0 = v := ⟨_, rfl⟩
            obtain ⟨v1, hv1⟩ : ∃ v, numV (numF LD) U n.a1 = v := ⟨_, rfl⟩
            rw [hv0] at K0 w0
            rw [hv1] at K1 w1
            rw [hv0, hv1] at HAs
            have hsub : IntKind.i64.wrap (v0 - v1) = v0 - v1 := by unfold IntKind.wrap; simp [IntKind.bits, IntKind.signed]; omega
            have HFx : Hid (∀ W, Below ws.heap.size ws W → W.cell? ⟨pO, 0, none⟩ = some (.slice (some ⟨tb, toff, none⟩) U.length c2) ∧ W.cell? ⟨nb, 0, none⟩ = some (.int .i8 n.op) ∧ W.cell? ⟨nb, 2, none⟩ = some (.int .i64 n.a0) ∧ W.cell? ⟨nb, 3, none⟩ = some (.int .i64 n.a1) ∧ W.cell? ⟨nb, 7, none⟩ = some (.int .i64 n.num)) := Lib.hid (fun W hW => by
              have h1 := HXs.out.below hW
              have h2 := HNs.out.below hW HNs.out.lt
              exact ⟨h1.t.cell 0, h2.cell 0, h2.cell 2, h2.cell 3, h2.cell 7⟩)
            clear sh0 sh1 lt0 lt1 b0 b1 hv0 hv1 w0 w1 ac af s0
            by_cases hle : v0 - v1 ≤ n.num
            · have d4 : decide (v0 - v1 ≤ n.num) = true := decide_eq_true hle
              have HAv : Hid (asgN (numF LD) U i = 1) := Lib.hid (by rw [HAs.out, if_pos ⟨o12, hle⟩])
              clear o12 hle HAs
              refine wp_region_quiet (C := fun w' => Below ws.heap.size ws w') (by kernel_rfl) (by kernel_rfl) (⟨rfl, rfl, rfl, Nat.le_refl _, fun _ _ => rfl⟩) ?_
              refine QW.lit ?_
              refine qw_want rfl ?_ (fun w' hw' => ?_) ?_
              rotate_left
              · unfold Oper.quietAt
                go_simp
                exact rfl
              simp only [Act.put, List.setIfInBounds_toArray, List.set_cons_succ, List.set_cons_zero]
              refine qw_want rfl ?_ (fun w' hw' => ?_) ?_
              rotate_left
              · obtain ⟨k0', k1', k2', k3', k4'⟩ := HFx.out w' hw'
                unfold Oper.quietAt
                go_simp
                exact rfl
              simp only [Act.put, List.setIfInBounds_toArray, List.set_cons_succ, List.set_cons_zero]
              refine qw_want rfl ?_ (fun w' hw' => ?_) ?_
              rotate_left
              · unfold Oper.quietAt
                go_simp
                exact rfl
              simp only [Act.put, List.setIfInBounds_toArray, List.set_cons_succ, List.set_cons_zero]
              refine qw_want rfl ?_ (fun w' hw' => ?_) ?_
              rotate_left
              · unfold Oper.quietAt
                go_simp
                exact rfl
              simp only [Act.put, List.setIfInBounds_toArray, List.set_cons_succ, List.set_cons_zero]
              refine qw_want rfl ?_ (fun w' hw' => ?_) ?_
              rotate_left
              · obtain ⟨k0', k1', k2', k3', k4'⟩ := HFx.out w' hw'
                unfold Oper.quietAt
                go_simp
                exact rfl
              simp only [Act.put, List.setIfInBounds_toArray, List.set_cons_succ, List.set_cons_zero]
              refine qw_want rfl ?_ (fun w' hw' => ?_) ?_
              rotate_left
              · unfold Oper.quietAt
                go_simp
                exact rfl
              simp only [Act.put, List.setIfInBounds_toArray, List.set_cons_succ, List.set_cons_zero]
              refine qw_want rfl ?_ (fun w' hw' => ?_) ?_
              rotate_left
              · unfold Oper.quietAt
                go_simp
                exact rfl
              simp only [Act.put, List.setIfInBounds_toArray, List.set_cons_succ, List.set_cons_zero]
              refine qw_want rfl ?_ (fun w' hw' => ?_) ?_
              rotate_left
              · obtain ⟨k0', k1', k2', k3', k4'⟩ := HFx.out w' hw'
                unfold Oper.quietAt
                go_simp
                exact rfl
              simp only [Act.put, List.setIfInBounds_toArray, List.set_cons_succ, List.set_cons_zero]
              refine qw_want rfl ?_ (fun w' hw' => ?_) ?_
              rotate_left
              · unfold Oper.quietAt
                go_simp
                exact rfl
              simp only [Act.put, List.setIfInBounds_toArray, List.set_cons_succ, List.set_cons_zero]
              refine qw_want rfl (.int .i64 v0) (fun w' hw' => ?_) ?_
              · unfold Oper.quietAt
                go_simp
                refine (K0.out w' hw').mono ?_
                rintro e w2 ⟨rfl, hb⟩
                have hz := below_then hw' (Nat.le_refl _) hb
                exact ⟨rfl, by simpa using hz⟩
              simp only [Act.put, List.setIfInBounds_toArray, List.set_cons_succ, List.set_cons_zero]
              refine qw_want rfl ?_ (fun w' hw' => ?_) ?_
              rotate_left
              · obtain ⟨k0', k1', k2', k3', k4'⟩ := HFx.out w' hw'
                unfold Oper.quietAt
                go_simp
                exact rfl
              simp only [Act.put, List.setIfInBounds_toArray, List.set_cons_succ, List.set_cons_zero]
              refine qw_want rfl ?_ (fun w' hw' => ?_) ?_
              rotate_left
              · unfold Oper.quietAt
                go_simp
                exact rfl
              simp only [Act.put, List.setIfInBounds_toArray, List.set_cons_succ, List.set_cons_zero]
              refine qw_want rfl ?_ (fun w' hw' => ?_) ?_
              rotate_left
              · unfold Oper.quietAt
                go_simp
                exact rfl
              simp only [Act.put, List.setIfInBounds_toArray, List.set_cons_succ, List.set_cons_zero]
              refine qw_want rfl ?_ (fun w' hw' => ?_) ?_
              rotate_left
              · obtain ⟨k0', k1', k2', k3', k4'⟩ := HFx.out w' hw'
                unfold Oper.quietAt
                go_simp
                exact rfl
              simp only [Act.put, List.setIfInBounds_toArray, List.set_cons_succ, List.set_cons_zero]
              refine qw_want rfl ?_ (fun w' hw' => ?_) ?_
              rotate_left
              · unfold Oper.quietAt
                go_simp
                exact rfl
              simp only [Act.put, List.setIfInBounds_toArray, List.set_cons_succ, List.set_cons_zero]
              refine qw_want rfl (.int .i64 v1) (fun w' hw' => ?_) ?_
              · unfold Oper.quietAt
                go_simp
                refine (K1.out w' hw').mono ?_
                rintro e w2 ⟨rfl, hb⟩
                have hz := below_then hw' (Nat.le_refl _) hb
                exact ⟨rfl, by simpa using hz⟩
              simp only [Act.put, List.setIfInBounds_toArray, List.set_cons_succ, List.set_cons_zero]
              refine qw_want rfl ?_ (fun w' hw' => ?_) ?_
              rotate_left
              · unfold Oper.quietAt
                go_simp
                exact rfl
              simp only [Act.put, List.setIfInBounds_toArray, List.set_cons_succ, List.set_cons_zero]
              refine qw_want rfl ?_ (fun w' hw' => ?_) ?_
              rotate_left
              · unfold Oper.quietAt
                go_simp
                exact rfl
              simp only [Act.put, List.setIfInBounds_toArray, List.set_cons_succ, List.set_cons_zero]
              refine qw_want rfl ?_ (fun w' hw' => ?_) ?_
              rotate_left
              · obtain ⟨k0', k1', k2', k3', k4'⟩ := HFx.out w' hw'
                unfold Oper.quietAt
                go_simp
                exact rfl
              simp only [Act.put, List.setIfInBounds_toArray, List.set_cons_succ, List.set_cons_zero]
              refine qw_want rfl ?_ (fun w' hw' => ?_) ?_
              rotate_left
              · unfold Oper.quietAt
                go_simp
                exact rfl
              simp only [Act.put, List.setIfInBounds_toArray, List.set_cons_succ, List.set_cons_zero]
              refine qw_want rfl ?_ (fun w' hw' => ?_) ?_
              rotate_left
              · unfold Oper.quietAt
                go_simp
                exact rfl
              simp only [Act.put, List.setIfInBounds_toArray, List.set_cons_succ, List.set_cons_zero]
              refine qw_end (fun w5 hb5 => ?_)
              have HX5 := Lib.hid (HXs.out.below hb5)
              obtain ⟨ac5, af5⟩ := HX5.out.cell hlt
              rw [HF2.out] at ac5
              have HX6 := Lib.hid (HX5.out.set 1)
              have z0 : (w5.setCell ⟨ab, i, none⟩ (.int .i8 1)).cell? ⟨nb, 0, none⟩ = some (.int .i8 n.op) := ((HNs.out.below hb5 HNs.out.lt).far (p := ⟨ab, i, none⟩) HNe.out _).cell 0
              go_wp2
              go_quiet (fail)
              go_wp2
              go_roundg gk
              case measure => omega
              case rel => exact ⟨i + 1, _, by omega, by go_num, (HX6.out.below (below_drewN (Below.refl _ _) _)).step (by rw [updI_at, HAv.out]) HSm.out⟩
            · have d4 : decide (v0 - v1 ≤ n.num) = false := decide_eq_false hle
              have HAv : Hid (asgN (numF LD) U i = 2) := Lib.hid (by rw [HAs.out, if_neg (fun h => hle h.2), if_neg (fun h => by have := h.1; omega)])
              clear o12 hle HAs
              refine wp_region_quiet (C := fun w' => Below ws.heap.size ws w') (by kernel_rfl) (by kernel_rfl) (⟨rfl, rfl, rfl, Nat.le_refl _, fun _ _ => rfl⟩) ?_
              refine QW.lit ?_
              refine qw_want rfl ?_ (fun w' hw' => ?_) ?_
              rotate_left
              · unfold Oper.quietAt
                go_simp
                exact rfl
              simp only [Act.put, List.setIfInBounds_toArray, List.set_cons_succ, List.set_cons_zero]
              refine qw_want rfl ?_ (fun w' hw' => ?_) ?_
              rotate_left
              · obtain ⟨k0', k1', k2', k3', k4'⟩ := HFx.out w' hw'
                unfold Oper.quietAt
                go_simp
                exact rfl
              simp only [Act.put, List.setIfInBounds_toArray, List.set_cons_succ, List.set_cons_zero]
              refine qw_want rfl ?_ (fun w' hw' => ?_) ?_
              rotate_left
              · unfold Oper.quietAt
                go_simp
                exact rfl
              simp only [Act.put, List.setIfInBounds_toArray, List.set_cons_succ, List.set_cons_zero]
              refine qw_want rfl ?_ (fun w' hw' => ?_) ?_
              rotate_left
              · unfold Oper.quietAt
                go_simp
                exact rfl
              simp only [Act.put, List.setIfInBounds_toArray, List.set_cons_succ, List.set_cons_zero]
              refine qw_want rfl ?_ (fun w' hw' => ?_) ?_
              rotate_left
              · obtain ⟨k0', k1', k2', k3', k4'⟩ := HFx.out w' hw'
                unfold Oper.quietAt
                go_simp
                exact rfl
              simp only [Act.put, List.setIfInBounds_toArray, List.set_cons_succ, List.set_cons_zero]
              refine qw_want rfl ?_ (fun w' hw' => ?_) ?_
              rotate_left
              · unfold Oper.quietAt
                go_simp
                exact rfl
              simp only [Act.put, List.setIfInBounds_toArray, List.set_cons_succ, List.set_cons_zero]
              refine qw_want rfl ?_ (fun w' hw' => ?_) ?_
              rotate_left
              · unfold Oper.quietAt
                go_simp
                exact rfl
              simp only [Act.put, List.setIfInBounds_toArray, List.set_cons_succ, List.set_cons_zero]
              refine qw_want rfl ?_ (fun w' hw' => ?_) ?_
              rotate_left
              · obtain ⟨k0', k1', k2', k3', k4'⟩ := HFx.out w' hw'
                unfold Oper.quietAt
                go_simp
                exact rfl
              simp only [Act.put, List.setIfInBounds_toArray, List.set_cons_succ, List.set_cons_zero]
              refine qw_want rfl ?_ (fun w' hw' => ?_) ?_
              rotate_left
              · unfold Oper.quietAt
                go_simp
                exact rfl
              simp only [Act.put, List.setIfInBounds_toArray, List.set_cons_succ, List.set_cons_zero]
              refine qw_want rfl (.int .i64 v0) (fun w' hw' => ?_) ?_
              · unfold Oper.quietAt
                go_simp
                refine (K0.out w' hw').mono ?_
                rintro e w2 ⟨rfl, hb⟩
                have hz := below_then hw' (Nat.le_refl _) hb
                exact ⟨rfl, by simpa using hz⟩
              simp only [Act.put, List.setIfInBounds_toArray, List.set_cons_succ, List.set_cons_zero]
              refine qw_want rfl ?_ (fun w' hw' => ?_) ?_
              rotate_left
              · obtain ⟨k0', k1', k2', k3', k4'⟩ := HFx.out w' hw'
                unfold Oper.quietAt
                go_simp
                exact rfl
              simp only [Act.put, List.setIfInBounds_toArray, List.set_cons_succ, List.set_cons_zero]
              refine qw_want rfl ?_ (fun w' hw' => ?_) ?_
              rotate_left
              · unfold Oper.quietAt
                go_simp
                exact rfl
              simp only [Act.put, List.setIfInBounds_toArray, List.set_cons_succ, List.set_cons_zero]
              refine qw_want rfl ?_ (fun w' hw' => ?_) ?_
              rotate_left
              · unfold Oper.quietAt
                go_simp
                exact rfl
              simp only [Act.put, List.setIfInBounds_toArray, List.set_cons_succ, List.set_cons_zero]
              refine qw_want rfl ?_ (fun w' hw' => ?_) ?_
              rotate_left
              · obtain ⟨k0', k1', k2', k3', k4'⟩ := HFx.out w' hw'
                unfold Oper.quietAt
                go_simp
                exact rfl
              simp only [Act.put, List.setIfInBounds_toArray, List.set_cons_succ, List.set_cons_zero]
              refine qw_want rfl ?_ (fun w' hw' => ?_) ?_
              rotate_left
              · unfold Oper.quietAt
                go_simp
                exact rfl
              simp only [Act.put, List.setIfInBounds_toArray, List.set_cons_succ, List.set_cons_zero]
              refine qw_want rfl (.int .i64 v1) (fun w' hw' => ?_) ?_
              · unfold Oper.quietAt
                go_simp
                refine (K1.out w' hw').mono ?_
                rintro e w2 ⟨rfl, hb⟩
                have hz := below_then hw' (Nat.le_refl _) hb
                exact ⟨rfl, by simpa using hz⟩
              simp only [Act.put, List.setIfInBounds_toArray, List.set_cons_succ, List.set_cons_zero]
              refine qw_want rfl ?_ (fun w' hw' => ?_) ?_
              rotate_left
              · unfold Oper.quietAt
                go_simp
                exact rfl
              simp only [Act.put, List.setIfInBounds_toArray, List.set_cons_succ, List.set_cons_zero]
              refine qw_want rfl ?_ (fun w' hw' => ?_) ?_
              rotate_left
              · unfold Oper.quietAt
                go_simp
                exact rfl
              simp only [Act.put, List.setIfInBounds_toArray, List.set_cons_succ, List.set_cons_zero]
              refine qw_want rfl ?_ (fun w' hw' => ?_) ?_
              rotate_left
              · obtain ⟨k0', k1', k2', k3', k4'⟩ := HFx.out w' hw'
                unfold Oper.quietAt
                go_simp
                exact rfl
              simp only [Act.put, List.setIfInBounds_toArray, List.set_cons_succ, List.set_cons_zero]
              refine qw_want rfl ?_ (fun w' hw' => ?_) ?_
              rotate_left
              · unfold Oper.quietAt
                go_simp
                exact rfl
              simp only [Act.put, List.setIfInBounds_toArray, List.set_cons_succ, List.set_cons_zero]
              refine qw_want rfl ?_ (fun w' hw' => ?_) ?_
              rotate_left
              · unfold Oper.quietAt
                go_simp
                exact rfl
              simp only [Act.put, List.setIfInBounds_toArray, List.set_cons_succ, List.set_cons_zero]
              refine qw_end (fun w5 hb5 => ?_)
              have HX5 := Lib.hid (HXs.out.below hb5)
              obtain ⟨z1, z0, _⟩ := HFx.out w5 hb5
              go_wp2
              go_quiet (fail)
              go_wp2
              go_roundg gk
              case measure => omega
              case rel => exact ⟨i + 1, _, by omega, by go_num, (HX5.out.below (below_drewN (Below.refl _ _) _)).step (by rw [HF2.out, HAv.out]) HSm.out⟩
          have e12 : (n.op == 12) = false := beq_eq_false_iff_ne.2 o12
          by_cases o6 : n.op = 6
          rotate_left
          · have e6 : (n.op == 6) = false := beq_eq_false_iff_ne.2 o6
            have HAv : Hid (asgN (numF LD) U i = 2) := Lib.hid (by rw [HAs.out, if_neg (fun h => o12 h.1), if_neg (fun h => o6 h.1)])
            clear o12 o6 HAs
            go_wp2
            go_quiet (fail)
            go_wp2
            go_quiet (fail)
            go_wp2
            go_roundg gk
            case measure => omega
            case rel => exact ⟨i + 1, _, by omega, by go_num, (HXs.out.below (below_drewN (Below.refl _ _) _)).step (by rw [HF2.out, HAv.out]) HSm.out⟩
          have e6 : (n.op == 6) = true := beq_iff_eq.2 o6
          have hst := HCo.out.ok.st i n (by rw [← HND.out, ndAt_nat hlt]; exact List.getElem?_eq_getElem hlt)
          have h2 := (hst.two (.inl o6)).1
          obtain ⟨k0, hk0⟩ : ∃ k0 : Nat, n.a0 = k0 := ⟨n.a0.toNat, by omega⟩
          have hk0l : k0 < U.length := by omega
          have q5 := HXs.out.srt hk0l
          have HK0 := Lib.hid hk0
          have u1 : (0 : Int) ≤ (k0 : Int) := by omega
          have u2 : (k0 : Int) < (U.length : Int) := by omega
          rw [hk0] at HAs HCa
          have s2 : ws.cell? ⟨nb, 2, none⟩ = some (.int .i64 (k0 : Int)) := by rw [← hk0]; exact HNs.out.cell 2
          have p0 := HXs.out.t.cell 0
          simp only [List.getElem?_toArray, List.getElem?_cons_zero] at p0
          clear hst h2 hk0
          by_cases hs1 : (ndAt U k0).sort = 1
          rotate_left
          · have e5 : ((ndAt U k0).sort == 1) = false := beq_eq_false_iff_ne.2 hs1
            have HAv : Hid (asgN (numF LD) U i = 2) := Lib.hid (by rw [HAs.out, if_neg (fun h => o12 h.1), if_neg (fun h => hs1 h.2.1)])
            clear o12 o6 hs1 HAs HCa
            generalize (ndAt U k0).sort = sv at *
            go_wp2
            go_quiet (fail)
            go_wp2
            go_quiet (fail)
            go_wp2
            go_roundg gk
            case measure => omega
            case rel => exact ⟨i + 1, _, by omega, by go_num, (HXs.out.below (below_drewN (Below.refl _ _) _)).step (by rw [HF2.out, HAv.out]) HSm.out⟩
          rw [hs1] at q5
          obtain ⟨sh0, sh1, lt0, lt1⟩ := HCa.out.2 o6 hs1
          have b0 := HXs.out.small sh0.lo lt0
          have b1 := HXs.out.small sh1.lo lt1
          have K0 := Lib.hid (fun W (hW : Below ws.heap.size ws W) => number_ok c2 cD (HXs.out.tab.below hW) HCo.out.ok (ordB_iff.2 HCo.out.ord) sh0 (base_own HCo.out HSu.out sh0).2.1 (HRow.out.below (HXs.out.bel.trans (hW.mono HXs.out.bel.size))) HPos.out HBd.out b0)
          have K1 := Lib.hid (fun W (hW : Below ws.heap.size ws W) => number_ok c2 cD (HXs.out.tab.below hW) HCo.out.ok (ordB_iff.2 HCo.out.ord) sh1 (base_own HCo.out HSu.out sh1).2.1 (HRow.out.below (HXs.out.bel.trans (hW.mono HXs.out.bel.size))) HPos.out HBd.out b1)
          obtain ⟨v0, hv0⟩ : ∃ v, numV (numF LD) U (k0 : Nat) = v := ⟨_, rfl⟩
          obtain ⟨v1, hv1⟩ : ∃ v, numV (numF LD) U n.a1 = v := ⟨_, rfl⟩
          rw [hv0] at K0
          rw [hv1] at K1
          rw [hv0, hv1] at HAs
          have HFx : Hid (∀ W, Below ws.heap.size ws W → W.cell? ⟨pO, 0, none⟩ = some (.slice (some ⟨tb, toff, none⟩) U.length c2) ∧ W.cell? ⟨nb, 0, none⟩ = some (.int .i8 n.op) ∧ W.cell? ⟨nb, 2, none⟩ = some (.int .i64 (k0 : Int)) ∧ W.cell? ⟨nb, 3, none⟩ = some (.int .i64 n.a1) ∧ W.cell? ⟨nb, 7, none⟩ = some (.int .i64 n.num) ∧ W.cell? ⟨tb, toff + k0 * 8 + 5, none⟩ = some (.int .i64 1)) := Lib.hid (fun W hW => by
            have h1 := HXs.out.below hW
            have h2 := HNs.out.below hW HNs.out.lt
            have h3 := h1.srt hk0l
            rw [hs1] at h3
            exact ⟨h1.t.cell 0, h2.cell 0, by rw [← HK0.out]; exact h2.cell 2, h2.cell 3, h2.cell 7, h3⟩)
          clear sh0 sh1 lt0 lt1 b0 b1 hv0 hv1 q5 s2 p0 ac af
          by_cases hle : v0 = v1
          · have d4 : (v0 == v1) = true := beq_iff_eq.2 hle
            have HAv : Hid (asgN (numF LD) U i = 1) := Lib.hid (by rw [HAs.out, if_neg (fun h => o12 h.1), if_pos ⟨o6, hs1, hle⟩])
            clear o12 o6 hs1 hle HAs HCa
            go_wp2
            go_quiet (fail)
            go_upto_region 26 with (fail)
            refine wp_region_quiet (C := fun w' => Below ws.heap.size ws w') (by kernel_rfl) (by kernel_rfl) (⟨rfl, rfl, rfl, Nat.le_refl _, fun _ _ => rfl⟩) ?_
            refine QW.lit ?_
            refine qw_want rfl ?_ (fun w' hw' => ?_) ?_
            rotate_left
            · unfold Oper.quietAt
              go_simp
              exact rfl
            simp only [Act.put, List.setIfInBounds_toArray, List.set_cons_succ, List.set_cons_zero]
            refine qw_want rfl ?_ (fun w' hw' => ?_) ?_
            rotate_left
            · obtain ⟨k0', k1', k2', k3', k4', k5'⟩ := HFx.out w' hw'
              unfold Oper.quietAt
              go_simp
              exact rfl
            simp only [Act.put, List.setIfInBounds_toArray, List.set_cons_succ, List.set_cons_zero]
            refine qw_want rfl ?_ (fun w' hw' => ?_) ?_
            rotate_left
            · unfold Oper.quietAt
              go_simp
              exact rfl
            simp only [Act.put, List.setIfInBounds_toArray, List.set_cons_succ, List.set_cons_zero]
            refine qw_want rfl ?_ (fun w' hw' => ?_) ?_
            rotate_left
            · unfold Oper.quietAt
              go_simp
              exact rfl
            simp only [Act.put, List.setIfInBounds_toArray, List.set_cons_succ, List.set_cons_zero]
            refine qw_want rfl ?_ (fun w' hw' => ?_) ?_
            rotate_left
            · unfold Oper.quietAt
              go_simp
              exact rfl
            simp only [Act.put, List.setIfInBounds_toArray, List.set_cons_succ, List.set_cons_zero]
            refine qw_want rfl ?_ (fun w' hw' => ?_) ?_
            rotate_left
            · obtain ⟨k0', k1', k2', k3', k4', k5'⟩ := HFx.out w' hw'
              unfold Oper.quietAt
              go_simp
              exact rfl
            simp only [Act.put, List.setIfInBounds_toArray, List.set_cons_succ, List.set_cons_zero]
            refine qw_want rfl ?_ (fun w' hw' => ?_) ?_
            rotate_left
            · unfold Oper.quietAt
              go_simp
              exact rfl
            simp only [Act.put, List.setIfInBounds_toArray, List.set_cons_succ, List.set_cons_zero]
            refine qw_want rfl ?_ (fun w' hw' => ?_) ?_
            rotate_left
            · unfold Oper.quietAt
              go_simp
              exact rfl
            simp only [Act.put, List.setIfInBounds_toArray, List.set_cons_succ, List.set_cons_zero]
            refine qw_want rfl ?_ (fun w' hw' => ?_) ?_
            rotate_left
            · obtain ⟨k0', k1', k2', k3', k4', k5'⟩ := HFx.out w' hw'
              unfold Oper.quietAt
              go_simp
              exact rfl
            simp only [Act.put, List.setIfInBounds_toArray, List.set_cons_succ, List.set_cons_zero]
            refine qw_want rfl ?_ (fun w' hw' => ?_) ?_
            rotate_left
            · unfold Oper.quietAt
              go_simp
              exact rfl
            simp only [Act.put, List.setIfInBounds_toArray, List.set_cons_succ, List.set_cons_zero]
            refine qw_want rfl ?_ (fun w' hw' => ?_) ?_
            rotate_left
            · unfold Oper.quietAt
              go_simp
              exact rfl
            simp only [Act.put, List.setIfInBounds_toArray, List.set_cons_succ, List.set_cons_zero]
            refine qw_want rfl ?_ (fun w' hw' => ?_) ?_
            rotate_left
            · obtain ⟨k0', k1', k2', k3', k4', k5'⟩ := HFx.out w' hw'
              unfold Oper.quietAt
              go_simp
              exact rfl
            simp only [Act.put, List.setIfInBounds_toArray, List.set_cons_succ, List.set_cons_zero]
            refine qw_want rfl ?_ (fun w' hw' => ?_) ?_
            rotate_left
            · unfold Oper.quietAt
              go_simp
              exact rfl
            simp only [Act.put, List.setIfInBounds_toArray, List.set_cons_succ, List.set_cons_zero]
            refine qw_want rfl ?_ (fun w' hw' => ?_) ?_
            rotate_left
            · unfold Oper.quietAt
              go_simp
              exact rfl
            simp only [Act.put, List.setIfInBounds_toArray, List.set_cons_succ, List.set_cons_zero]
            refine qw_want rfl ?_ (fun w' hw' => ?_) ?_
            rotate_left
            · unfold Oper.quietAt
              go_simp
              exact rfl
            simp only [Act.put, List.setIfInBounds_toArray, List.set_cons_succ, List.set_cons_zero]
            refine qw_want rfl ?_ (fun w' hw' => ?_) ?_
            rotate_left
            · obtain ⟨k0', k1', k2', k3', k4', k5'⟩ := HFx.out w' hw'
              unfold Oper.quietAt
              go_simp
              exact rfl
            simp only [Act.put, List.setIfInBounds_toArray, List.set_cons_succ, List.set_cons_zero]
            refine qw_want rfl ?_ (fun w' hw' => ?_) ?_
            rotate_left
            · unfold Oper.quietAt
              go_simp
              exact rfl
            simp only [Act.put, List.setIfInBounds_toArray, List.set_cons_succ, List.set_cons_zero]
            refine qw_want rfl ?_ (fun w' hw' => ?_) ?_
            rotate_left
            · unfold Oper.quietAt
              go_simp
              exact rfl
            simp only [Act.put, List.setIfInBounds_toArray, List.set_cons_succ, List.set_cons_zero]
            refine qw_want rfl ?_ (fun w' hw' => ?_) ?_
            rotate_left
            · obtain ⟨k0', k1', k2', k3', k4', k5'⟩ := HFx.out w' hw'
              unfold Oper.quietAt
              go_simp
              exact rfl
            simp only [Act.put, List.setIfInBounds_toArray, List.set_cons_succ, List.set_cons_zero]
            refine qw_want rfl ?_ (fun w' hw' => ?_) ?_
            rotate_left
            · unfold Oper.quietAt
              go_simp
              exact rfl
            simp only [Act.put, List.setIfInBounds_toArray, List.set_cons_succ, List.set_cons_zero]
            refine qw_want rfl (.int .i64 v0) (fun w' hw' => ?_) ?_
            · unfold Oper.quietAt
              go_simp
              refine (K0.out w' hw').mono ?_
              rintro e w2 ⟨rfl, hb⟩
              have hz := below_then hw' (Nat.le_refl _) hb
              exact ⟨rfl, by simpa using hz⟩
            simp only [Act.put, List.setIfInBounds_toArray, List.set_cons_succ, List.set_cons_zero]
            refine qw_want rfl ?_ (fun w' hw' => ?_) ?_
            rotate_left
            · obtain ⟨k0', k1', k2', k3', k4', k5'⟩ := HFx.out w' hw'
              unfold Oper.quietAt
              go_simp
              exact rfl
            simp only [Act.put, List.setIfInBounds_toArray, List.set_cons_succ, List.set_cons_zero]
            refine qw_want rfl ?_ (fun w' hw' => ?_) ?_
            rotate_left
            · unfold Oper.quietAt
              go_simp
              exact rfl
            simp only [Act.put, List.setIfInBounds_toArray, List.set_cons_succ, List.set_cons_zero]
            refine qw_want rfl ?_ (fun w' hw' => ?_) ?_
            rotate_left
            · unfold Oper.quietAt
              go_simp
              exact rfl
            simp only [Act.put, List.setIfInBounds_toArray, List.set_cons_succ, List.set_cons_zero]
            refine qw_want rfl ?_ (fun w' hw' => ?_) ?_
            rotate_left
            · obtain ⟨k0', k1', k2', k3', k4', k5'⟩ := HFx.out w' hw'
              unfold Oper.quietAt
              go_simp
              exact rfl
            simp only [Act.put, List.setIfInBounds_toArray, List.set_cons_succ, List.set_cons_zero]
            refine qw_want rfl ?_ (fun w' hw' => ?_) ?_
            rotate_left
            · unfold Oper.quietAt
              go_simp
              exact rfl
            simp only [Act.put, List.setIfInBounds_toArray, List.set_cons_succ, List.set_cons_zero]
            refine qw_want rfl (.int .i64 v1) (fun w' hw' => ?_) ?_
            · unfold Oper.quietAt
              go_simp
              refine (K1.out w' hw').mono ?_
              rintro e w2 ⟨rfl, hb⟩
              have hz := below_then hw' (Nat.le_refl _) hb
              exact ⟨rfl, by simpa using hz⟩
            simp only [Act.put, List.setIfInBounds_toArray, List.set_cons_succ, List.set_cons_zero]
            refine qw_want rfl ?_ (fun w' hw' => ?_) ?_
            rotate_left
            · unfold Oper.quietAt
              go_simp
              exact rfl
            simp only [Act.put, List.setIfInBounds_toArray, List.set_cons_succ, List.set_cons_zero]
            refine qw_want rfl ?_ (fun w' hw' => ?_) ?_
            rotate_left
            · unfold Oper.quietAt
              go_simp
              exact rfl
            simp only [Act.put, List.setIfInBounds_toArray, List.set_cons_succ, List.set_cons_zero]
            refine qw_end (fun w5 hb5 => ?_)
            have HX5 := Lib.hid (HXs.out.below hb5)
            obtain ⟨ac5, af5⟩ := HX5.out.cell hlt
            rw [HF2.out] at ac5
            have HX6 := Lib.hid (HX5.out.set 1)
            go_wp2
            go_roundg gk
            case measure => omega
            case rel => exact ⟨i + 1, _, by omega, by go_num, HX6.out.step (by rw [updI_at, HAv.out]) HSm.out⟩
          · have d4 : (v0 == v1) = false := beq_eq_false_iff_ne.2 hle
            have HAv : Hid (asgN (numF LD) U i = 2) := Lib.hid (by rw [HAs.out, if_neg (fun h => o12 h.1), if_neg (fun h => hle h.2.2)])
            clear o12 o6 hs1 hle HAs HCa
            go_wp2
            go_quiet (fail)
            go_upto_region 26 with (fail)
            refine wp_region_quiet (C := fun w' => Below ws.heap.size ws w') (by kernel_rfl) (by kernel_rfl) (⟨rfl, rfl, rfl, Nat.le_refl _, fun _ _ => rfl⟩) ?_
            refine QW.lit ?_
            refine qw_want rfl ?_ (fun w' hw' => ?_) ?_
            rotate_left
            · unfold Oper.quietAt
              go_simp
              exact rfl
            simp only [Act.put, List.setIfInBounds_toArray, List.set_cons_succ, List.set_cons_zero]
            refine qw_want rfl ?_ (fun w' hw' => ?_) ?_
            rotate_left
            · obtain ⟨k0', k1', k2', k3', k4', k5'⟩ := HFx.out w' hw'
              unfold Oper.quietAt
              go_simp
              exact rfl
            simp only [Act.put, List.setIfInBounds_toArray, List.set_cons_succ, List.set_cons_zero]
            refine qw_want rfl ?_ (fun w' hw' => ?_) ?_
            rotate_left
            · unfold Oper.quietAt
              go_simp
              exact rfl
            simp only [Act.put, List.setIfInBounds_toArray, List.set_cons_succ, List.set_cons_zero]
            refine qw_want rfl ?_ (fun w' hw' => ?_) ?_
            rotate_left
            · unfold Oper.quietAt
              go_simp
              exact rfl
            simp only [Act.put, List.setIfInBounds_toArray, List.set_cons_succ, List.set_cons_zero]
            refine qw_want rfl ?_ (fun w' hw' => ?_) ?_
            rotate_left
            · unfold Oper.quietAt
              go_simp
              exact rfl
            simp only [Act.put, List.setIfInBounds_toArray, List.set_cons_succ, List.set_cons_zero]
            refine qw_want rfl ?_ (fun w' hw' => ?_) ?_
            rotate_left
            · obtain ⟨k0', k1', k2', k3', k4', k5'⟩ := HFx.out w' hw'
              unfold Oper.quietAt
              go_simp
              exact rfl
            simp only [Act.put, List.setIfInBounds_toArray, List.set_cons_succ, List.set_cons_zero]
            refine qw_want rfl ?_ (fun w' hw' => ?_) ?_
            rotate_left
            · unfold Oper.quietAt
              go_simp
              exact rfl
            simp only [Act.put, List.setIfInBounds_toArray, List.set_cons_succ, List.set_cons_zero]
            refine qw_want rfl ?_ (fun w' hw' => ?_) ?_
            rotate_left
            · unfold Oper.quietAt
              go_simp
              exact rfl
            simp only [Act.put, List.setIfInBounds_toArray, List.set_cons_succ, List.set_cons_zero]
            refine qw_want rfl ?_ (fun w' hw' => ?_) ?_
            rotate_left
            · obtain ⟨k0', k1', k2', k3', k4', k5'⟩ := HFx.out w' hw'
              unfold Oper.quietAt
              go_simp
              exact rfl
            simp only [Act.put, List.setIfInBounds_toArray, List.set_cons_succ, List.set_cons_zero]
            refine qw_want rfl ?_ (fun w' hw' => ?_) ?_
            rotate_left
            · unfold Oper.quietAt
              go_simp
              exact rfl
            simp only [Act.put, List.setIfInBounds_toArray, List.set_cons_succ, List.set_cons_zero]
            refine qw_want rfl ?_ (fun w' hw' => ?_) ?_
            rotate_left
            · unfold Oper.quietAt
              go_simp
              exact rfl
            simp only [Act.put, List.setIfInBounds_toArray, List.set_cons_succ, List.set_cons_zero]
            refine qw_want rfl ?_ (fun w' hw' => ?_) ?_
            rotate_left
            · obtain ⟨k0', k1', k2', k3', k4', k5'⟩ := HFx.out w' hw'
              unfold Oper.quietAt
              go_simp
              exact rfl
            simp only [Act.put, List.setIfInBounds_toArray, List.set_cons_succ, List.set_cons_zero]
            refine qw_want rfl ?_ (fun w' hw' => ?_) ?_
            rotate_left
            · unfold Oper.quietAt
              go_simp
              exact rfl
            simp only [Act.put, List.setIfInBounds_toArray, List.set_cons_succ, List.set_cons_zero]
            refine qw_want rfl ?_ (fun w' hw' => ?_) ?_
            rotate_left
            · unfold Oper.quietAt
              go_simp
              exact rfl
            simp only [Act.put, List.setIfInBounds_toArray, List.set_cons_succ, List.set_cons_zero]
            refine qw_want rfl ?_ (fun w' hw' => ?_) ?_
            rotate_left
            · unfold Oper.quietAt
              go_simp
              exact rfl
            simp only [Act.put, List.setIfInBounds_toArray, List.set_cons_succ, List.set_cons_zero]
            refine qw_want rfl ?_ (fun w' hw' => ?_) ?_
            rotate_left
            · obtain ⟨k0', k1', k2', k3', k4', k5'⟩ := HFx.out w' hw'
              unfold Oper.quietAt
              go_simp
              exact rfl
            simp only [Act.put, List.setIfInBounds_toArray, List.set_cons_succ, List.set_cons_zero]
            refine qw_want rfl ?_ (fun w' hw' => ?_) ?_
            rotate_left
            · unfold Oper.quietAt
              go_simp
              exact rfl
            simp only [Act.put, List.setIfInBounds_toArray, List.set_cons_succ, List.set_cons_zero]
            refine qw_want rfl ?_ (fun w' hw' => ?_) ?_
            rotate_left
            · unfold Oper.quietAt
              go_simp
              exact rfl
            simp only [Act.put, List.setIfInBounds_toArray, List.set_cons_succ, List.set_cons_zero]
            refine qw_want rfl ?_ (fun w' hw' => ?_) ?_
            rotate_left
            · obtain ⟨k0', k1', k2', k3', k4', k5'⟩ := HFx.out w' hw'
              unfold Oper.quietAt
              go_simp
              exact rfl
            simp only [Act.put, List.setIfInBounds_toArray, List.set_cons_succ, List.set_cons_zero]
            refine qw_want rfl ?_ (fun w' hw' => ?_) ?_
            rotate_left
            · unfold Oper.quietAt
              go_simp
              exact rfl
            simp only [Act.put, List.setIfInBounds_toArray, List.set_cons_succ, List.set_cons_zero]
            refine qw_want rfl (.int .i64 v0) (fun w' hw' => ?_) ?_
            · unfold Oper.quietAt
              go_simp
              refine (K0.out w' hw').mono ?_
              rintro e w2 ⟨rfl, hb⟩
              have hz := below_then hw' (Nat.le_refl _) hb
              exact ⟨rfl, by simpa using hz⟩
            simp only [Act.put, List.setIfInBounds_toArray, List.set_cons_succ, List.set_cons_zero]
            refine qw_want rfl ?_ (fun w' hw' => ?_) ?_
            rotate_left
            · obtain ⟨k0', k1', k2', k3', k4', k5'⟩ := HFx.out w' hw'
              unfold Oper.quietAt
              go_simp
              exact rfl
            simp only [Act.put, List.setIfInBounds_toArray, List.set_cons_succ, List.set_cons_zero]
            refine qw_want rfl ?_ (fun w' hw' => ?_) ?_
            rotate_left
            · unfold Oper.quietAt
              go_simp
              exact rfl
            simp only [Act.put, List.setIfInBounds_toArray, List.set_cons_succ, List.set_cons_zero]
            refine qw_want rfl ?_ (fun w' hw' => ?_) ?_
            rotate_left
            · unfold Oper.quietAt
              go_simp
              exact rfl
            simp only [Act.put, List.setIfInBounds_toArray, List.set_cons_succ, List.set_cons_zero]
            refine qw_want rfl ?_ (fun w' hw' => ?_) ?_
            rotate_left
            · obtain ⟨k0', k1', k2', k3', k4', k5'⟩ := HFx.out w' hw'
              unfold Oper.quietAt
              go_simp
              exact rfl
            simp only [Act.put, List.setIfInBounds_toArray, List.set_cons_succ, List.set_cons_zero]
            refine qw_want rfl ?_ (fun w' hw' => ?_) ?_
            rotate_left
            · unfold Oper.quietAt
              go_simp
              exact rfl
            simp only [Act.put, List.setIfInBounds_toArray, List.set_cons_succ, List.set_cons_zero]
            refine qw_want rfl (.int .i64 v1) (fun w' hw' => ?_) ?_
            · unfold Oper.quietAt
              go_simp
              refine (K1.out w' hw').mono ?_
              rintro e w2 ⟨rfl, hb⟩
              have hz := below_then hw' (Nat.le_refl _) hb
              exact ⟨rfl, by simpa using hz⟩
            simp only [Act.put, List.setIfInBounds_toArray, List.set_cons_succ, List.set_cons_zero]
            refine qw_want rfl ?_ (fun w' hw' => ?_) ?_
            rotate_left
            · unfold Oper.quietAt
              go_simp
              exact rfl
            simp only [Act.put, List.setIfInBounds_toArray, List.set_cons_succ, List.set_cons_zero]
            refine qw_want rfl ?_ (fun w' hw' => ?_) ?_
            rotate_left
            · unfold Oper.quietAt
              go_simp
              exact rfl
            simp only [Act.put, List.setIfInBounds_toArray, List.set_cons_succ, List.set_cons_zero]
            refine qw_end (fun w5 hb5 => ?_)
            have HX5 := Lib.hid (HXs.out.below hb5)
            go_wp2
            go_roundg gk
            case measure => omega
            case rel => exact ⟨i + 1, _, by omega, by go_num, HX5.out.step (by rw [HF2.out, HAv.out]) HSm.out⟩
/-- ShareNumbers, whatever came in. -/
theorem shareNumbers_walk (x : TabIn) (A1 : Option Addr) (l1 c1 : Nat) (z1 : List Int) (A2 : Option Addr) (l2 c2 : Nat) (z2 : List Int) (w : World) (h : x.Ok w) (h1 : IsRow .i64 w A1 l1 c1 z1) (h2 : IsRow .i64 w A2 l2 c2 z2) :
    Calls Tryz.prog 8 #[x.val, .slice A1 l1 c1, .slice A2 l2 c2] w (fun e w' => e = .returned (.bool true) ∧ Below w.heap.size w w') := by
  obtain ⟨A, n, c, f⟩ := x
  unfold TabIn.val TabIn.Ok at *
  simp only at h ⊢
  by_cases hb : 300 < n ∨ 100 < l1 ∨ 2000 < l2
  · exact shareNumbers_big hb
  · obtain ⟨T, hT, htab⟩ : ∃ T : List Nd, T.length = n ∧ Tab w A T := ⟨_, by simp, h.tab (by omega)⟩
    obtain ⟨L, e1, hL, _⟩ := isRow_row h1 (by omega)
    obtain ⟨M, e2, hM, _⟩ := isRow_row h2 (by omega)
    rw [← hT, ← e1, ← e2]
    exact shareNumbers_core c c1 c2 htab hL hM (by omega) (by omega) (by omega)
end Go.Proofs.YtlipnnibagidiaaGreat

/- EufConflict's walk. -/
import Derived.Test.YtbgbhfmchpdkcaaEvM
import Derived.Deep.RegionHeldLaw
import Derived.BigQuiet
namespace Go.Proofs.Ytbgbhfmchpdkcaa
open Go.RowKit

theorem addr_add0 (b off k : Nat) : (⟨b, off, none⟩ : Addr).add k = ⟨b, off + k, none⟩ := by unfold Addr.add; split <;> simp_all
/-- One of a row, by a slice expression. -/
theorem slice_one {A : Option Addr} {n c i : Nat} (hi : i < n) (hc : n ≤ c) (W : World) : (Instr.sliceAt 25 (.slice A n c) (some (.int .i64 (i : Int))) (some (.int .i64 ((i : Int) + 1))) none).run Try.prog W = .ok (.slice (A.map (·.add i)) 1 (c - i)) W := by
  have t1 : (0 : Int) ≤ (i : Int) := by omega
  have t2 : (i : Int) ≤ (i : Int) + 1 := by omega
  have t3 : (i : Int) + 1 ≤ (c : Int) := by omega
  have t4 : ((i : Int) + 1).toNat = i + 1 := by omega
  have t5 : c ≠ i := by omega
  have t6 : i + 1 - i = 1 := by omega
  simp [go_sem, t1, t2, t3, t4, t5, t6]
theorem slice_to {A : Option Addr} {n c i : Nat} (hi : i < n) (hc : n ≤ c) (W : World) : (Instr.sliceAt 25 (.slice A n c) none (some (.int .i64 (i : Int))) none).run Try.prog W = .ok (.slice A i c) W := by
  have t1 : (0 : Int) ≤ (i : Int) := by omega
  have t3 : (i : Int) ≤ (c : Int) := by omega
  have t5 : c ≠ 0 := by omega
  cases A with
  | none => simp [go_sem, t1, t3, t5]
  | some a =>
    obtain ⟨b, off, sp⟩ := a
    simp [go_sem, t1, t3, t5, Addr.add]
theorem slice_from {A : Option Addr} {n c i : Nat} (hi : i < n) (W : World) : (Instr.sliceAt 25 (.slice A n c) (some (.int .i64 ((i : Int) + 1))) none none).run Try.prog W = .ok (.slice (if c = i + 1 then A else A.map (·.add (i + 1))) (n - (i + 1)) (c - (i + 1))) W := by
  have t1 : (0 : Int) ≤ (i : Int) + 1 := by omega
  have t2 : (i : Int) + 1 ≤ (n : Int) := by omega
  have t4 : ((i : Int) + 1).toNat = i + 1 := by omega
  simp [go_sem, t1, t2, t4]
theorem Row.one {w : World} {A : Option Addr} {zs : List Int} (h : Row w A zs) (i : Nat) (hi : i < zs.length) : Row w (A.map (·.add i)) [zs[i]] := by
  obtain ⟨b, off, rfl, hb, hc⟩ := h.at_.resolve_left (by omega)
  refine ⟨by simp, .inr ⟨b, off + i, by simp [addr_add0], hb, fun j hj => ?_⟩⟩
  obtain rfl : j = 0 := by simp at hj; omega
  exact hc i hi
theorem Row.to {w : World} {A : Option Addr} {zs : List Int} (h : Row w A zs) (i : Nat) : Row w A (zs.take i) := by
  refine ⟨by rw [List.length_take]; have := h.len; omega, ?_⟩
  rcases h.at_ with h0 | ⟨b, off, e, hb, hc⟩
  · exact .inl (by rw [List.length_take]; omega)
  · refine .inr ⟨b, off, e, hb, fun i hi => ?_⟩
    rw [List.length_take] at hi
    rw [hc i (by omega), List.getElem_take]
theorem Row.from {w : World} {A : Option Addr} {zs : List Int} (h : Row w A zs) (i : Nat) (hi : i < zs.length) {c : Nat} (hc : zs.length ≤ c) : Row w (if c = i + 1 then A else A.map (·.add (i + 1))) (zs.drop (i + 1)) := by
  refine ⟨by rw [List.length_drop]; have := h.len; omega, ?_⟩
  by_cases h1 : i + 1 < zs.length
  · obtain ⟨b, off, rfl, hb, hcc⟩ := h.at_.resolve_left (by omega)
    rw [if_neg (by omega)]
    refine .inr ⟨b, off + (i + 1), by simp [addr_add0], hb, fun j hj => ?_⟩
    rw [List.length_drop] at hj
    rw [Nat.add_assoc, hcc (i + 1 + j) (by omega), List.getElem_drop]
  · exact .inl (by rw [List.length_drop]; omega)

set_option maxRecDepth 100000 in
set_option maxHeartbeats 4000000 in
theorem eufConflict_core {w : World} {A B C : Option Addr} {c : Nat} {T : List Nd} {L M : List Int} (cb cm : Nat) (h : Tab w A T) (hc : T.length ≤ c) (hr : Row w B L) (hm : Row w C M) (hnl : B = none → cb = 0) (hnm : C = none → cm = 0) :
    Calls Try.prog 4 #[.agg #[.slice A T.length c], .slice B L.length cb, .slice C M.length cm] w (fun e w' => e = .returned (.bool true) ∧ Below w.heap.size w w') := by
  have H := Lib.hid h
  have HR := Lib.hid hr
  have HM := Lib.hid hm
  have HNL := Lib.hid hnl
  have HNM := Lib.hid hnm
  clear h hr hm hnl hnm
  have HB1 : Hid (Below w.heap.size w (w.alloc (.cells #[.slice A T.length c] 24))) := Lib.hid ((Below.refl _ w).alloc (Nat.le_refl _) _)
  have HX1 := Lib.hid (Blk.new w 24 #[.slice A T.length c])
  have HL1 : Hid (w.heap.size < (w.alloc (.cells #[.slice A T.length c] 24)).heap.size) := Lib.hid (by simp)
  by_cases hT : 60 < T.length
  · have d1 : decide ((T.length : Int) > 60) = true := by simp; omega
    have d2 : decide ((60 : Int) < T.length) = true := by simp; omega
    clear hT
    go_enter Try.func4, Try.ntmps4
    go_wp2_with fail
    refine (wakes_ok _).mono ?_
    rintro e w2 ⟨rfl, hb2⟩
    have HB2 := Lib.hid (HB1.out.trans (hb2.mono HB1.out.size))
    clear hb2
    go_wp2_with fail
    go_ret
    exact ⟨rfl, HB2.out⟩
  have e1 : decide ((T.length : Int) > 60) = false := by simp; omega
  have e2 : decide ((60 : Int) < T.length) = false := by simp; omega
  have HT := Lib.hid hT
  clear hT
  by_cases hL : 60 < L.length
  · have d1 : decide ((L.length : Int) > 60) = true := by simp; omega
    have d2 : decide ((60 : Int) < L.length) = true := by simp; omega
    clear hL
    go_enter Try.func4, Try.ntmps4
    go_wp2_with fail
    refine (wakes_ok _).mono ?_
    rintro e w2 ⟨rfl, hb2⟩
    have HB2 := Lib.hid (HB1.out.trans (hb2.mono HB1.out.size))
    clear hb2
    go_wp2_with fail
    go_ret
    exact ⟨rfl, HB2.out⟩
  have e3 : decide ((L.length : Int) > 60) = false := by simp; omega
  have e4 : decide ((60 : Int) < L.length) = false := by simp; omega
  have HL := Lib.hid hL
  clear hL
  by_cases hM : 60 < M.length
  · have d1 : decide ((M.length : Int) > 60) = true := by simp; omega
    have d2 : decide ((60 : Int) < M.length) = true := by simp; omega
    clear hM
    go_enter Try.func4, Try.ntmps4
    go_wp2_with fail
    refine (wakes_ok _).mono ?_
    rintro e w2 ⟨rfl, hb2⟩
    have HB2 := Lib.hid (HB1.out.trans (hb2.mono HB1.out.size))
    clear hb2
    go_wp2_with fail
    go_ret
    exact ⟨rfl, HB2.out⟩
  have e5 : decide ((M.length : Int) > 60) = false := by simp; omega
  have e6 : decide ((60 : Int) < M.length) = false := by simp; omega
  have HMl := Lib.hid hM
  clear hM
  go_enter Try.func4, Try.ntmps4
  go_wp2_with fail
  refine (rmay_ok cb (H.out.below HB1.out) (HR.out.below HB1.out)).mono ?_
  rintro e w2 ⟨r1, rfl, hr1, hb2⟩
  have HR1 := Lib.hid hr1
  have HB2 := Lib.hid (HB1.out.trans (hb2.mono HB1.out.size))
  have HX2 := Lib.hid (HX1.out.below hb2 HX1.out.lt)
  have cx2 := HX2.out.cell 0
  simp only [List.getElem?_toArray, List.getElem?_cons_zero] at cx2
  clear hr1 hb2
  cases r1 with
  | false =>
    go_wp2_with fail
    refine (wakes_ok _).mono ?_
    rintro e w9 ⟨rfl, hb9⟩
    have HB9 := Lib.hid (HB2.out.trans (hb9.mono HB2.out.size))
    clear hb9
    go_wp2_with fail
    go_ret
    exact ⟨rfl, HB9.out⟩
  | true =>
    have HML := Lib.hid (HR1.out.1 rfl)
    go_wp2_with fail
    refine (rmay_ok cm (H.out.below HB2.out) (HM.out.below HB2.out)).mono ?_
    rintro e w3 ⟨r2, rfl, hr2, hb3⟩
    have HR2 := Lib.hid hr2
    have HX3 := Lib.hid (HX2.out.below hb3 HX2.out.lt)
    have HB3 := Lib.hid (HB2.out.trans (hb3.mono HB2.out.size))
    have cx3 := HX3.out.cell 0
    simp only [List.getElem?_toArray, List.getElem?_cons_zero] at cx3
    clear hr2 hb3 cx2
    cases r2 with
    | false =>
      go_wp2_with fail
      refine (wakes_ok _).mono ?_
      rintro e w9 ⟨rfl, hb9⟩
      have HB9 := Lib.hid (HB3.out.trans (hb9.mono HB3.out.size))
      clear hb9
      go_wp2_with fail
      go_ret
      exact ⟨rfl, HB9.out⟩
    | true =>
      have HMM := Lib.hid (HR2.out.1 rfl)
      have lT : T.length ≤ 100 := by have := HT.out; omega
      have lM : M.length ≤ 60 := by have := HMl.out; omega
      have lL : L.length ≤ 300 := by have := HL.out; omega
      have lL6 : L.length ≤ 60 := by have := HL.out; omega
      go_wp2_with fail
      refine (close_ok cb (H.out.below HB3.out) hc lT lL (HR.out.below HB3.out)).mono ?_
      rintro e w4 ⟨v4, cs, bd, er, rfl, ho4, hb4, hbd, hcl⟩
      obtain ⟨rfl, hcl4⟩ : er = 0 ∧ Classes T (told T L) cs := by
        rcases hcl with ⟨_, e1, e2⟩ | ⟨hn, _⟩
        · exact ⟨e1, e2⟩
        · exact absurd HML.out hn
      have hn4 : cs.length = T.length + 1 := hcl4.1
      obtain ⟨A4, k4, rfl, hr4, hk4, _⟩ := ho4.row (by omega)
      have HB4 := Lib.hid (HB3.out.trans (hb4.mono HB3.out.size))
      have HX4 := Lib.hid (HX3.out.below hb4 HX3.out.lt)
      have cx4 := HX4.out.cell 0
      simp only [List.getElem?_toArray, List.getElem?_cons_zero] at cx4
      have HCL4 := Lib.hid hcl4
      have HR4 := Lib.hid hr4
      have HBD4 := Lib.hid hbd
      have HBd : Hid (Below w.heap.size w (w4.drew.alloc (.cells #[] 3))) := Lib.hid ((show Below w.heap.size w w4.drew from below_drewN HB4.out 1).alloc HB4.out.size _)
      have HE := Lib.hid (own_empty w4.drew)
      have HXd := Lib.hid ((Blk.drew HX4.out).alloc (.cells #[] 3))
      obtain ⟨N, hN⟩ : ∃ N, T.length + 1 = N := ⟨_, rfl⟩
      rw [hN] at hn4
      have HN4 := Lib.hid hn4
      have HNN := Lib.hid hN
      clear ho4 hb4 hbd hcl hcl4 hr4 hk4 hN cx3
      rw [hn4]
      clear hn4
      obtain ⟨LM, hLM⟩ : ∃ X, L ++ M = X := ⟨_, rfl⟩
      have HME := Lib.hid hLM
      have HMN : Hid (LM.length = L.length + M.length) := Lib.hid (by rw [← hLM, List.length_append])
      have HM3 : Hid (LM.length ≤ 300) := Lib.hid (by rw [← hLM, List.length_append]; omega)
      have HMayLM := Lib.hid (HML.out.append HMM.out)
      rw [hLM] at HMayLM
      clear hLM
      go_wp2_with fail
      go_region_held_law (fun w' => w'.cell? ⟨w.heap.size, 0, none⟩ = some (.slice A T.length c)) (go_keep) (first
        | (go_at_call 7; (with_reducible refine KL.out.mono ?_); rintro e w8 ⟨v8, ds, bw, er, rfl, ho8, hb8, hbw, hcl8⟩; obtain ⟨rfl, hq8⟩ : er = 0 ∧ Classes T (told T LM) ds := (hcl8.elim (fun h => h.2) (fun h => absurd HMayLM.out h.1)); obtain ⟨A8, k8, rfl, hr8, hk8, _⟩ := ho8.row (by have := hq8.1; omega); have HN8 : Hid (ds.length = N) := Lib.hid (hq8.1.trans HNN.out); have HB8 := Lib.hid (HB7.out.trans (hb8.mono HB7.out.size)); have HG8 := Lib.hid (HG7.out.trans (hb8.mono HG7.out.size)); have HX8 := Lib.hid (HX7.out.below hb8 HX7.out.lt); have cx8 := HX8.out.cell 0; simp only [List.getElem?_toArray, List.getElem?_cons_zero] at cx8; have HR8 := Lib.hid hr8; have HCL8 := Lib.hid hq8; have HBW8 := Lib.hid hbw; rw [HN8.out]; clear ho8 hb8 hbw hcl8 hq8 hr8 hk8)
        | (refine step_append_rowW w6 (by rfl) (.tmp 61) (.tmp 62) rfl w4.heap.size v6 (0 + L.length) ([] ++ L) (by rfl) HO6.out C cm M (by rfl) (HM.out.below HB6.out) HNM.out (by omega) HS6.out ?_; intro v7 w7 ho7 hg7; have HX7 := Lib.hid (HX6.out.grown hg7 (fun e => own_blk_ne HO6.out HX6.out (by decide) e.symm)); have cx7 := HX7.out.cell 0; simp only [List.getElem?_toArray, List.getElem?_cons_zero] at cx7; have HB7 := Lib.hid (Below.grown HB6.out hg7 HB6.out.size (fun k hk => Nat.le_trans HB4.out.size (HO6.out.lt k hk).1)); have HG7 := Lib.hid (Below.grown HG6.out hg7 HG6.out.size (fun k hk => (HO6.out.lt k hk).1)); obtain ⟨A7, k7, rfl, hr7, _⟩ := OwnL.row (zs := LM) (by have h9 := ho7; simp only [Nat.zero_add, List.nil_append, HME.out] at h9; unfold OwnL; rw [HMN.out]; exact h9) (Nat.le_trans HM3.out (by decide)); have KL := Lib.hid (close_ok k7 (H.out.below HB7.out) hc lT HM3.out hr7); have HR7 := Lib.hid hr7; clear ho7 hg7 hr7)
        | (refine step_append_rowW (w4.drew.alloc (.cells #[] 3)) (by rfl) (.tmp 59) (.tmp 60) rfl w4.heap.size _ 0 [] (by rfl) HE.out B cb L (by rfl) (HR.out.below HBd.out) HNL.out (by omega) (by simp) ?_; intro v6 w6 ho6 hg6; have HO6 := Lib.hid ho6; have HB6 := Lib.hid (Below.grown HBd.out hg6 (Nat.le_trans HB4.out.size (by simp)) (fun k hk => Nat.le_trans HB4.out.size (HE.out.lt k hk).1)); have HX6 := Lib.hid (HXd.out.grown hg6 (fun e => own_blk_ne HE.out HXd.out (by decide) e.symm)); have HS6 := Lib.hid (Nat.le_trans (by simp) hg6.size : w4.heap.size ≤ w6.heap.size); have cx6 := HX6.out.cell 0; simp only [List.getElem?_toArray, List.getElem?_cons_zero] at cx6; have HG6 := Lib.hid (Below.grown ((Below.refl w4.heap.size w4.drew).alloc (Nat.le_refl _) (.cells #[] 3)) hg6 (by simp) (fun k hk => (HE.out.lt k hk).1)); clear ho6 hg6))
      have HWB : Hid (bd = true → bw = true) := Lib.hid fun e => HBW8.out.2 ((HBD4.out.1 e).more (fun x hx => by rw [← HME.out]; exact List.mem_append.2 (.inl hx)) HMayLM.out)
      have HR48 := Lib.hid (HR4.out.below (((below_drewN (Below.refl _ w4) 1).mono (Nat.le_refl _)).trans HG8.out))
      have HW8 : Hid (∀ i (h : i < cs.length), ∃ k : Nat, cs[i] = (k : Int) ∧ k < N ∧ ds.getD i 0 = ds.getD k 0) := Lib.hid fun i hi => by
        obtain ⟨h0, h1, g1, g2, h2⟩ := wide_same (fun x hx => (by rw [← HME.out]; exact told_more x hx)) HCL4.out HCL8.out i hi
        refine ⟨cs[i].toNat, by omega, by have := HN8.out; omega, ?_⟩
        rw [List.getD_eq_getElem?_getD, List.getD_eq_getElem?_getD, List.getElem?_eq_getElem g1, List.getElem?_eq_getElem g2, h2]
      have lN : N ≤ 61 := by have := HNN.out; have := HT.out; omega
      cases bd with
      | true =>
        obtain rfl : bw = true := HWB.out rfl
        have dNN : ((N : Int) != (N : Int)) = false := by simp
        go_wp2
        go_loopg [82] N (fun g v wr => ∃ i : Nat, i + g = N ∧ v = .int .i64 i ∧ Below w8.heap.size w8 wr)
        case atStart => exact ⟨0, by omega, rfl, Below.refl _ _⟩
        case round =>
          obtain ⟨i, hig, rfl, hb⟩ := hrel
          have HBV := Lib.hid hb
          have HBW := Lib.hid (HB8.out.trans (hb.mono HB8.out.size))
          clear hb
          cases gk with
          | zero =>
            obtain rfl : N = i := by omega
            have d1 : decide ((N : Int) < N) = false := by simp
            have HXw := Lib.hid (HX8.out.below HBV.out HX8.out.lt)
            have cxw := HXw.out.cell 0
            have hlw := HXw.out.lt
            simp only [List.getElem?_toArray, List.getElem?_cons_zero] at cxw
            clear cx8
            go_wp2_with fail
            refine (conflict_ok cb (H.out.below HBW.out) hc lT lL (HR.out.below HBW.out)).mono ?_
            rintro e w9 ⟨A9, zs, cp9, ok, rfl, hr9, hcp9, hb9, hcf⟩
            have HB9 := Lib.hid (HBW.out.trans (hb9.mono HBW.out.size))
            have HX9 := Lib.hid (HXw.out.below hb9 HXw.out.lt)
            obtain ⟨hbad, rfl, hzs⟩ : BadL T L ∧ ok = true ∧ zs = confM T [] L := hcf.resolve_right (fun h => h.1 (HBD4.out.1 (by first | rfl | trivial)))
            have HBad := Lib.hid hbad
            have HR9 := Lib.hid hr9
            have HCP := Lib.hid hcp9
            have hz3 : zs.length ≤ 60 := by rw [hzs]; have := conf_len (T := T) (L := L); omega
            have HMin : Hid (∀ i, i < zs.length → ¬ BadL T (zs.take i ++ zs.drop (i + 1))) := Lib.hid (by rw [hzs]; exact conf_min HML.out)
            have HMayZ : Hid (MayLits T zs) := Lib.hid (by rw [hzs]; exact (conf_bad hbad).1)
            have HWi : Hid (∀ i (h : i < zs.length), ([zs[i]].all fun x => decide (x ∈ L)) = true) := Lib.hid (by subst hzs; exact conf_within)
            have HBZ : Hid (BadL T zs) := Lib.hid (by rw [hzs]; exact conf_bad hbad)
            have cx9 := HX9.out.cell 0
            have hl9 := HX9.out.lt
            simp only [List.getElem?_toArray, List.getElem?_cons_zero] at cx9
            clear hr9 hcp9 hb9 hcf cxw hbad hzs
            go_wp2_with fail
            refine (close_ok cp9 (H.out.below HB9.out) hc lT (by omega) HR9.out).mono ?_
            rintro e w10 ⟨v10, es, st, er, rfl, ho10, hb10, hst, _⟩
            obtain ⟨a10, k10, rfl⟩ := own_slice ho10
            obtain rfl : st = true := hst.2 HBZ.out
            have HB10 := Lib.hid (HB9.out.trans (hb10.mono HB9.out.size))
            have HX10 := Lib.hid (HX9.out.below hb10 HX9.out.lt)
            have HR10 := Lib.hid (HR9.out.below hb10)
            clear ho10 hb10 hst cx9 hl9
            go_wp2
            go_loopg [141] zs.length (fun g v wr => ∃ i : Nat, i + g = zs.length ∧ v = .int .i64 i ∧ Below w10.heap.size w10 wr)
            case atStart => exact ⟨0, by omega, rfl, Below.refl _ _⟩
            case round =>
              obtain ⟨wq, rfl⟩ : ∃ x : World, x = wr := ⟨_, rfl⟩
              obtain ⟨i, hig, rfl, hb⟩ := hrel
              have HBq := Lib.hid hb
              have HBQ := Lib.hid (HB10.out.trans (hb.mono HB10.out.size))
              clear hb
              cases gk with
              | zero =>
                obtain rfl : i = zs.length := by omega
                have d1 : decide ((zs.length : Int) < zs.length) = false := by simp
                go_wp2_with fail
                refine (wakes_ok _).mono ?_
                rintro e w12 ⟨rfl, hb12⟩
                have HB12 := Lib.hid (HBQ.out.trans (hb12.mono HBQ.out.size))
                clear hb12
                go_wp2_with fail
                go_ret
                exact ⟨rfl, HB12.out⟩
              | succ gk =>
                have hlt : i < zs.length := by omega
                have d1 : decide ((i : Int) < zs.length) = true := by simp; omega
                have HRq := Lib.hid (HR10.out.below HBq.out)
                have HXq := Lib.hid (HX10.out.below HBq.out HX10.out.lt)
                have KW : Hid (Calls Try.prog 17 #[.slice (A9.map (·.add i)) 1 (cp9 - i), .slice B L.length cb] wq fun e w' => e = .returned (.bool true) ∧ wq = w') := Lib.hid (by
                  have := within15_ok (cp9 - i) cb (HRq.out.one i hlt) (HR.out.below HBQ.out)
                  rw [HWi.out i hlt] at this
                  exact this)
                have hs1 := slice_one (A := A9) hlt HCP.out
                obtain ⟨B9, hB9⟩ : ∃ B9, A9.map (·.add i) = B9 := ⟨_, rfl⟩
                rw [hB9] at KW
                simp only [hB9] at hs1
                clear hB9
                go_wp2_with fail
                refine KW.out.mono ?_
                rintro e w11 ⟨rfl, rfl⟩
                have X3 := Lib.hid (show (zs.take i).length = i by rw [List.length_take]; omega)
                have X4 := Lib.hid (show (zs.drop (i + 1)).length = zs.length - (i + 1) from List.length_drop)
                have hs2 := slice_to (A := A9) hlt HCP.out
                have hs3 := slice_from (A := A9) (c := cp9) hlt
                have HRf := Lib.hid (HRq.out.from i hlt HCP.out)
                have HRt := Lib.hid (HRq.out.to i)
                obtain ⟨D9, hD9⟩ : ∃ D9, (if cp9 = i + 1 then A9 else A9.map (·.add (i + 1))) = D9 := ⟨_, rfl⟩
                obtain ⟨b9, o9, hA9, _⟩ := HRq.out.at_.resolve_left (by omega)
                have HNa : Hid (A9 = none → cp9 = 0) := Lib.hid (by rw [hA9]; intro h; cases h)
                have HNf : Hid (D9 = none → cp9 - (i + 1) = 0) := Lib.hid (by
                  rw [← hD9, hA9]
                  intro h
                  split at h <;> cases h)
                rw [hD9] at HRf
                simp only [hD9] at hs3
                clear hD9 hs1 hA9
                obtain ⟨ZZ, hZZ⟩ : ∃ X, zs.take i ++ zs.drop (i + 1) = X := ⟨_, rfl⟩
                have HZE := Lib.hid hZZ
                have HZN : Hid (ZZ.length = (zs.take i).length + (zs.drop (i + 1)).length) := Lib.hid (by rw [← hZZ, List.length_append])
                have HZ3 : Hid (ZZ.length ≤ 300) := Lib.hid (by rw [← hZZ, List.length_append, X3.out, X4.out]; omega)
                have HZB : Hid (¬ BadL T ZZ) := Lib.hid (by rw [← hZZ]; exact HMin.out i hlt)
                have HBd9 : Hid (Below w.heap.size w (wq.drew.alloc (.cells #[] 3))) := Lib.hid ((show Below w.heap.size w wq.drew from below_drewN HBQ.out 1).alloc HBQ.out.size _)
                have HGd9 : Hid (Below w10.heap.size w10 (wq.drew.alloc (.cells #[] 3))) := Lib.hid ((show Below w10.heap.size w10 wq.drew from below_drewN HBq.out 1).alloc HBq.out.size _)
                have HEq := Lib.hid (own_empty wq.drew)
                have HXd9 := Lib.hid ((Blk.drew HXq.out).alloc (.cells #[] 3))
                have HRtd := Lib.hid (HRt.out.below ((below_drewN (Below.refl _ wq) 1).alloc (Nat.le_refl _) (.cells #[] 3)))
                have HSq : Hid (wq.heap.size ≤ (wq.drew.alloc (.cells #[] 3)).heap.size) := Lib.hid (by simp)
                have cxq := HXq.out.cell 0
                have hlq := HXq.out.lt
                simp only [List.getElem?_toArray, List.getElem?_cons_zero] at cxq
                have XA1 : Hid (0 + (zs.take i).length ≤ 1000000) := Lib.hid (by rw [X3.out]; omega)
                have XA2 : Hid (0 + (zs.take i).length + (zs.drop (i + 1)).length ≤ 1000000) := Lib.hid (by rw [X3.out, X4.out]; omega)
                go_wp2_with fail
                have tw2 : IntKind.i64.wrap ((i : Int) + 1) = (i : Int) + 1 := by rw [IntKind.wrap_i64]; omega
                have tw1 : wrap64 ((i : Int) + 1) = (i : Int) + 1 := (by unfold wrap64; omega)
                go_region_held_law (fun w' => w'.cell? ⟨w.heap.size, 0, none⟩ = some (.slice A T.length c)) (go_keep) (first
                  | (go_at_call 7; (with_reducible refine KL.out.mono ?_); rintro e w15 ⟨v15, fs, lb, er5, rfl, ho15, hb15, hlb, _⟩; obtain ⟨a15, k15, rfl⟩ := own_slice ho15; obtain rfl : lb = false := (by cases lb with | false => rfl | true => exact absurd (hlb.1 rfl) HZB.out); have HB15 := Lib.hid (HB14.out.trans (hb15.mono HB14.out.size)); have HG15 := Lib.hid (HG14.out.trans (hb15.mono HG14.out.size)); have HX15 := Lib.hid (HX14.out.below hb15 HX14.out.lt); have cx15 := HX15.out.cell 0; simp only [List.getElem?_toArray, List.getElem?_cons_zero] at cx15; clear ho15 hb15 hlb)
                  | (refine step_append_rowW w13 (by rfl) (.tmp 158) (.tmp 162) rfl wq.heap.size v13 (0 + (zs.take i).length) ([] ++ zs.take i) (by rfl) HO13.out D9 (cp9 - (i + 1)) (zs.drop (i + 1)) (by rw [X4.out]; rfl) HRf13.out HNf.out XA2.out HS13.out ?_; intro v14 w14 ho14 hg14; have HX14 := Lib.hid (HX13.out.grown hg14 (fun e => own_blk_ne HO13.out HX13.out (by decide) e.symm)); have cx14 := HX14.out.cell 0; simp only [List.getElem?_toArray, List.getElem?_cons_zero] at cx14; have HB14 := Lib.hid (Below.grown HB13.out hg14 HB13.out.size (fun k hk => Nat.le_trans HBQ.out.size (HO13.out.lt k hk).1)); have HG14 := Lib.hid (Below.grown HG13.out hg14 HG13.out.size (fun k hk => Nat.le_trans HBq.out.size (HO13.out.lt k hk).1)); obtain ⟨A14, k14, rfl, hr14, _⟩ := OwnL.row (zs := ZZ) (by have h9 := ho14; simp only [Nat.zero_add, List.nil_append, HZE.out] at h9; unfold OwnL; rw [HZN.out]; exact h9) (Nat.le_trans HZ3.out (by decide)); have KL := Lib.hid (close_ok k14 (H.out.below HB14.out) hc lT HZ3.out hr14); clear ho14 hg14 hr14)
                  | (refine step_append_rowW (wq.drew.alloc (.cells #[] 3)) (by rfl) (.tmp 154) (.tmp 157) rfl wq.heap.size _ 0 [] (by rfl) HEq.out A9 cp9 (zs.take i) (by rw [X3.out]; rfl) HRtd.out HNa.out XA1.out (by simp) ?_; intro v13 w13 ho13 hg13; have HO13 := Lib.hid ho13; have HB13 := Lib.hid (Below.grown HBd9.out hg13 HBd9.out.size (fun k hk => Nat.le_trans HBQ.out.size (HEq.out.lt k hk).1)); have HG13 := Lib.hid (Below.grown HGd9.out hg13 HGd9.out.size (fun k hk => Nat.le_trans HBq.out.size (HEq.out.lt k hk).1)); have HX13 := Lib.hid (HXd9.out.grown hg13 (fun e => own_blk_ne HEq.out HXd9.out (by decide) e.symm)); have HS13 := Lib.hid (Nat.le_trans HSq.out hg13.size); have HRf13 := Lib.hid (HRf.out.below (Below.grown ((below_drewN (Below.refl _ wq) 1).alloc (Nat.le_refl _) (.cells #[] 3)) hg13 HSq.out (fun k hk => (HEq.out.lt k hk).1))); have cx13 := HX13.out.cell 0; simp only [List.getElem?_toArray, List.getElem?_cons_zero] at cx13; clear ho13 hg13))
                clear tw1 tw2
                go_wp2
                go_roundg gk
                case measure => omega
                case rel => exact ⟨i + 1, by omega, by go_num, HG15.out⟩
          | succ gk =>
            have hlt : i < N := by omega
            have d1 : decide ((i : Int) < N) = true := by simp; omega
            have t1 : (0 : Int) ≤ (i : Int) := by omega
            have t2 : (i : Int) < (N : Int) := by omega
            have g4 : i < cs.length := by rw [HN4.out]; exact hlt
            have g8 : i < ds.length := by rw [HN8.out]; exact hlt
            obtain ⟨k, hk, hkN, hkd⟩ := HW8.out i g4
            have gk8 : k < ds.length := by rw [HN8.out]; exact hkN
            obtain ⟨b4, o4, hA4, hb4, hc4⟩ := (HR48.out.below HBV.out).at_.resolve_left (by omega)
            obtain ⟨b8, o8, hA8, hb8, hc8⟩ := (HR8.out.below HBV.out).at_.resolve_left (by omega)
            subst hA4 hA8
            have y0 := hc4 i g4
            rw [hk] at y0
            have y1 : wr.cell? ⟨b8, o8 + i, none⟩ = some (.int .i64 (ds.getD i 0)) := by rw [hc8 i g8, List.getD_eq_getElem?_getD, List.getElem?_eq_getElem g8]; rfl
            have y2 : wr.cell? ⟨b8, o8 + k, none⟩ = some (.int .i64 (ds.getD k 0)) := by rw [hc8 k gk8, List.getD_eq_getElem?_getD, List.getElem?_eq_getElem gk8]; rfl
            rw [hkd] at y1
            generalize ds.getD k 0 = y at y1 y2
            have t3 : (0 : Int) ≤ (k : Int) := by omega
            have t4 : (k : Int) < (N : Int) := by omega
            have e1' : decide ((k : Int) < 0) = false := by simp
            have e2' : decide ((N : Int) ≤ (k : Int)) = false := by simp; omega
            have e3' : (y != y) = false := by simp
            clear hc4 hc8 hk hkd g4 g8 gk8
            go_wp2
            go_quiet (fail)
            go_wp2
            go_roundg gk
            case measure => omega
            case rel => exact ⟨i + 1, by omega, by go_num, below_drewN HBV.out _⟩
      | false =>
        have dNN : ((N : Int) != (N : Int)) = false := by simp
        go_wp2
        go_loopg [82] N (fun g v wr => ∃ i : Nat, i + g = N ∧ v = .int .i64 i ∧ Below w8.heap.size w8 wr)
        case atStart => exact ⟨0, by omega, rfl, Below.refl _ _⟩
        case round =>
          obtain ⟨i, hig, rfl, hb⟩ := hrel
          have HBV := Lib.hid hb
          have HBW := Lib.hid (HB8.out.trans (hb.mono HB8.out.size))
          clear hb
          cases gk with
          | zero =>
            obtain rfl : N = i := by omega
            have d1 : decide ((N : Int) < N) = false := by simp
            have HXw := Lib.hid (HX8.out.below HBV.out HX8.out.lt)
            have cxw := HXw.out.cell 0
            have hlw := HXw.out.lt
            simp only [List.getElem?_toArray, List.getElem?_cons_zero] at cxw
            clear cx8
            go_wp2_with fail
            refine (conflict_ok cb (H.out.below HBW.out) hc lT lL (HR.out.below HBW.out)).mono ?_
            rintro e w9 ⟨A9, zs, cp9, ok, rfl, hr9, hcp9, hb9, hcf⟩
            have HB9 := Lib.hid (HBW.out.trans (hb9.mono HBW.out.size))
            have HX9 := Lib.hid (HXw.out.below hb9 HXw.out.lt)
            obtain ⟨_, rfl, rfl⟩ : ¬ BadL T L ∧ ok = false ∧ zs = [] := hcf.resolve_left (fun h => by have := HBD4.out.2 h.1; cases this)
            clear hr9 hcp9 hb9 hcf cxw
            rw [List.length_nil]
            go_wp2_with fail
            refine (wakes_ok _).mono ?_
            rintro e w12 ⟨rfl, hb12⟩
            have HB12 := Lib.hid (HB9.out.trans (hb12.mono HB9.out.size))
            clear hb12
            go_wp2_with fail
            go_ret
            exact ⟨rfl, HB12.out⟩
          | succ gk =>
            have hlt : i < N := by omega
            have d1 : decide ((i : Int) < N) = true := by simp; omega
            have t1 : (0 : Int) ≤ (i : Int) := by omega
            have t2 : (i : Int) < (N : Int) := by omega
            have g4 : i < cs.length := by rw [HN4.out]; exact hlt
            have g8 : i < ds.length := by rw [HN8.out]; exact hlt
            obtain ⟨k, hk, hkN, hkd⟩ := HW8.out i g4
            have gk8 : k < ds.length := by rw [HN8.out]; exact hkN
            obtain ⟨b4, o4, hA4, hb4, hc4⟩ := (HR48.out.below HBV.out).at_.resolve_left (by omega)
            obtain ⟨b8, o8, hA8, hb8, hc8⟩ := (HR8.out.below HBV.out).at_.resolve_left (by omega)
            subst hA4 hA8
            have y0 := hc4 i g4
            rw [hk] at y0
            have y1 : wr.cell? ⟨b8, o8 + i, none⟩ = some (.int .i64 (ds.getD i 0)) := by rw [hc8 i g8, List.getD_eq_getElem?_getD, List.getElem?_eq_getElem g8]; rfl
            have y2 : wr.cell? ⟨b8, o8 + k, none⟩ = some (.int .i64 (ds.getD k 0)) := by rw [hc8 k gk8, List.getD_eq_getElem?_getD, List.getElem?_eq_getElem gk8]; rfl
            rw [hkd] at y1
            generalize ds.getD k 0 = y at y1 y2
            have t3 : (0 : Int) ≤ (k : Int) := by omega
            have t4 : (k : Int) < (N : Int) := by omega
            have e1' : decide ((k : Int) < 0) = false := by simp
            have e2' : decide ((N : Int) ≤ (k : Int)) = false := by simp; omega
            have e3' : (y != y) = false := by simp
            clear hc4 hc8 hk hkd g4 g8 gk8
            go_wp2
            go_quiet (fail)
            go_wp2
            go_roundg gk
            case measure => omega
            case rel => exact ⟨i + 1, by omega, by go_num, below_drewN HBV.out _⟩
end Go.Proofs.Ytbgbhfmchpdkcaa

/- Conflict. -/
import Derived.Test.YtbgbhfmchpdkcaaEvB
import Derived.Laws.IdiomCopy
namespace Go.Proofs.Ytbgbhfmchpdkcaa
open Go.RowKit

theorem setCells_below {B g : Nat} (hg : B ≤ g) : ∀ (vs : List Value) (o : Nat) {a w : World}, Below B a w → Below B a (w.setCells g o vs)
  | [], _, _, _, h => h
  | _ :: r, o, _, _, h => setCells_below hg r (o + 1) (h.setCell hg _)
theorem setCells_size (g : Nat) : ∀ (vs : List Value) (o : Nat) (w : World), (w.setCells g o vs).heap.size = w.heap.size
  | [], _, _ => rfl
  | v :: r, o, w => (setCells_size g r (o + 1) _).trans (by simp [World.setCell])
set_option maxRecDepth 100000 in
theorem del_ok {w : World} {base g cp : Nat} {zs : List Int} (h : OwnL w base (.slice (some ⟨g, 0, none⟩) zs.length cp) zs) (hl : zs.length ≤ 100000) {i : Nat} (hi : i < zs.length) :
    Calls Try.prog 33 #[.slice (some ⟨g, 0, none⟩) zs.length cp, .int .i64 (i : Int), .int .i64 ((i : Int) + 1)] w fun e w' => e = .returned (.slice (some ⟨g, 0, none⟩) (zs.eraseIdx i).length cp) ∧ Row w' (some ⟨g, 0, none⟩) (zs.eraseIdx i) ∧ Below base w w' ∧ (zs.eraseIdx i).length ≤ cp := by
  obtain ⟨A, cap, hv, hrow, hcap, _⟩ := h.row hl
  injection hv with e1 _ e3
  subst e1 e3
  have hbg := (h.lt g rfl)
  have hcm : cp ≤ 9223372036854775807 := by
    rcases h.2 with ⟨e, _⟩ | ⟨g', cap', cur, e, _, _, _, hM, _⟩
    · cases e
    · injection e with _ _ e
      subst e
      unfold maxLen at hM
      omega
  have hcell : ∀ j, j < zs.length → w.cell? ⟨g, 0 + j, none⟩ = some (.int .i64 (zs.getD j 0)) := fun j hj => by
    obtain ⟨b, off, e, _, hc⟩ := hrow.at_.resolve_left (by omega)
    injection e with e
    injection e with e1 e2
    subst e1 e2
    rw [hc j hj, List.getD_eq_getElem?_getD, List.getElem?_eq_getElem hj]
    rfl
  have K := Try.slices_Delete_int_cells g 0 zs.length cp i (i + 1) zs w (Nat.le_refl _) hcap hcm (Nat.le_succ _) (by omega) hcell (fun j _ => own_frozen h _)
  refine K.mono ?_
  rintro e w' ⟨rfl, k, rfl⟩
  have hle : (zs.eraseIdx i).length = zs.length - 1 := by rw [List.length_eraseIdx, if_pos hi]
  have hlist : (zs.take zs.length).take i ++ (zs.take zs.length).drop (i + 1) ++ List.replicate (i + 1 - i) 0 = zs.eraseIdx i ++ [0] := by
    rw [List.take_length, List.eraseIdx_eq_take_drop_succ, show i + 1 - i = 1 by omega]
    rfl
  rw [hlist]
  refine ⟨by rw [hle, show i + 1 - i = 1 by omega], ⟨by omega, .inr ⟨g, 0, rfl, ?_, fun j hj => ?_⟩⟩, setCells_below hbg.1 _ _ (below_drewN (Below.refl _ _) _), by omega⟩
  · rw [setCells_size]
    exact hbg.2
  · have := World.cell?_setCells_in g ((zs.eraseIdx i ++ [0]).map (Value.int .i64)) 0 (w.drewN k) (fun p hp => by
      rw [List.length_map, List.length_append, hle] at hp
      have := hcell p (by simp at hp; omega)
      show (w.cell? ⟨g, 0 + p, none⟩).isSome = true
      rw [this]
      rfl) j (by rw [List.length_map, List.length_append]; omega)
    rw [this, List.getElem_map, List.getElem_append_left hj]
def ConfIs (T : List Nd) (L : List Int) (w : World) (e : Ending) (w' : World) : Prop := ∃ (A : Option Addr) (cs : List Int) (cp : Nat) (ok : Bool), e = .returned (.tuple #[.slice A cs.length cp, .bool ok]) ∧ Row w' A cs ∧ cs.length ≤ cp ∧ Below w.heap.size w w' ∧ ((BadL T L ∧ ok = true ∧ cs = confM T [] L) ∨ (¬ BadL T L ∧ ok = false ∧ cs = []))
/-- A clone of a row that is not empty. -/
theorem clone_ok {w : World} {B : Option Addr} {zs : List Int} (cap : Nat) (hr : Row w B zs) (h0 : 0 < zs.length) :
    Calls Try.prog 32 #[.slice B zs.length cap] w fun e w' => ∃ g cp, e = .returned (.slice (some ⟨g, 0, none⟩) zs.length cp) ∧ OwnL w' w.heap.size (.slice (some ⟨g, 0, none⟩) zs.length cp) zs ∧ Below w.heap.size w w' := by
  obtain ⟨b, off, rfl, hb, hc⟩ := hr.at_.resolve_left (by omega)
  refine (Try.slices_Clone_int b off zs.length cap zs w (Nat.le_refl _) (by have := hr.len; omega) (fun j hj => by rw [hc j hj, List.getD_eq_getElem?_getD, List.getElem?_eq_getElem hj]; rfl)).mono ?_
  rintro e w' ⟨v, rfl, ho, _, hbel⟩
  rw [List.take_length] at ho
  obtain ⟨g, cp, rfl, _, _, _⟩ := own_form ho h0
  exact ⟨g, cp, rfl, ho, hbel⟩

set_option maxRecDepth 100000 in
set_option maxHeartbeats 4000000 in
theorem conflict_ok {w : World} {A B : Option Addr} {c : Nat} {T : List Nd} {L : List Int} (cap : Nat) (h : Tab w A T) (hc : T.length ≤ c) (hT1 : T.length ≤ 100) (hL1 : L.length ≤ 300) (hr : Row w B L) :
    Calls Try.prog 12 #[.agg #[.slice A T.length c], .slice B L.length cap] w (ConfIs T L w) := by
  have HB := Lib.hid (show Below w.heap.size w (w.alloc (.cells #[.slice A T.length c] 24)) from (Below.refl _ w).alloc (Nat.le_refl _) _)
  have HBX := Lib.hid (Blk.new w 24 #[.slice A T.length c])
  have HT := Lib.hid h
  have HR := Lib.hid hr
  have HCap := Lib.hid hc
  clear h hr hc
  go_enter Try.func12, Try.ntmps12
  go_wp2_with fail
  refine (close_ok cap (HT.out.below HB.out) HCap.out hT1 hL1 (HR.out.below HB.out)).mono ?_
  rintro e w1 ⟨v1, cs1, bd, er, rfl, ho1, hb1, hbd, _⟩
  obtain ⟨a1, cp1, rfl⟩ := own_slice ho1
  have HB1 := Lib.hid (HB.out.trans (hb1.mono HB.out.size))
  have HX1 := Lib.hid (HBX.out.below hb1 HBX.out.lt)
  have HBD := Lib.hid hbd
  clear ho1 hb1 hbd
  cases bd with
  | false =>
    go_wp2
    go_ret2
    exact ⟨none, [], 0, false, rfl, ⟨by simp, .inl rfl⟩, Nat.le_refl _, HB1.out, .inr ⟨fun hl => (by have := HBD.out.2 hl; cases this), rfl, rfl⟩⟩
  | true =>
    have HBad := Lib.hid (HBD.out.1 rfl)
    have hne : ∀ M, BadL T M → 0 < M.length := fun M hM => by
      rcases Nat.eq_zero_or_pos M.length with h0 | h0
      · obtain rfl := List.length_eq_zero_iff.1 h0
        exact absurd hM.2 (nil_not_bad hM.1.1 fun x hx => by cases hx.1)
      · exact h0
    have HNE := Lib.hid hne
    have c1 := HX1.out.cell 0
    have hl1 := HX1.out.lt
    simp only [List.getElem?_toArray, List.getElem?_cons_zero] at c1
    clear hne
    go_wp2_with fail
    refine (clone_ok cap (HR.out.below HB1.out) (HNE.out L HBad.out)).mono ?_
    rintro e w2 ⟨g2, cp2, rfl, ho2, hb2⟩
    have HB2 := Lib.hid (HB1.out.trans (hb2.mono HB1.out.size))
    have HX2 := Lib.hid (HX1.out.below hb2 HX1.out.lt)
    obtain ⟨A2, cc2, hv2, hrow2, hcc2, _⟩ := ho2.row (by omega)
    injection hv2 with e1 _ e3
    subst e1 e3
    have HRow2 := Lib.hid hrow2
    clear ho2 hb2 hrow2 c1 hl1
    go_wp2
    go_loopg [9, 1] L.length (fun g v vl wr => ∃ (pre r : List Int) (gg cp : Nat), r.length = g ∧ v = .int .i64 pre.length ∧ vl = .slice (some ⟨gg, 0, none⟩) (pre ++ r).length cp ∧ (pre ++ r).length ≤ cp ∧ (pre ++ r).length ≤ 300 ∧ Row wr (some ⟨gg, 0, none⟩) (pre ++ r) ∧ BadL T (pre ++ r) ∧ confM T pre r = confM T [] L ∧ Below w.heap.size w wr ∧ Blk wr w.heap.size 24 #[.slice A T.length c])
    case atStart => exact ⟨[], L, g2, cp2, rfl, rfl, rfl, hcc2, hL1, HRow2.out, HBad.out, rfl, HB2.out, HX2.out⟩
    case round =>
      obtain ⟨pre, r, gg, cp, hrg, rfl, rfl, hcp, hl3, hrow, hbad, hconf, hb, hbl⟩ := hrel
      have HRow := Lib.hid hrow
      have HBd := Lib.hid hbad
      have HCf := Lib.hid hconf
      have HBW := Lib.hid hb
      have HX := Lib.hid hbl
      clear hrow hbad hconf hb hbl
      cases gk with
      | zero =>
        obtain rfl := List.length_eq_zero_iff.1 hrg
        have HE := Lib.hid (List.append_nil pre)
        rw [HE.out] at hcp hl3 HRow HBd ⊢
        have HCf2 := Lib.hid (show pre = confM T [] L from by rw [← HCf.out]; rfl)
        have d1 : decide (pre.length < pre.length) = false := by simp
        have d2 : decide ((pre.length : Int) < (pre.length : Int)) = false := by simp
        clear HCf HE
        go_wp2
        go_ret2
        exact ⟨_, pre, cp, true, rfl, HRow.out, hcp, HBW.out, .inl ⟨HBad.out, rfl, HCf2.out⟩⟩
      | succ gk =>
        obtain ⟨x, r2, rfl⟩ : ∃ x r2, r = x :: r2 := by
          cases r with
          | nil => cases hrg
          | cons x r2 => exact ⟨x, r2, rfl⟩
        have hles : (pre ++ x :: r2).eraseIdx pre.length = pre ++ r2 := by
          rw [List.eraseIdx_append_of_length_le (Nat.le_refl _), Nat.sub_self]
          rfl
        have hi : pre.length < (pre ++ x :: r2).length := by simp
        have hlm : (pre ++ r2).length ≤ 300 := by simp at hl3 ⊢; omega
        have hsub : ∀ y ∈ pre ++ r2, y ∈ pre ++ x :: r2 := fun y hy => by
          simp at hy ⊢
          rcases hy with hy | hy
          · exact .inl hy
          · exact .inr (.inr hy)
        have HHi := Lib.hid hi
        have HLes := Lib.hid hles
        have HLm := Lib.hid hlm
        have HRG := Lib.hid (show r2.length = gk by simpa using hrg)
        have KC := Lib.hid (clone_ok cp HRow.out (by omega))
        have hpl : pre.length ≤ 300 := by omega
        have HL3 := Lib.hid hl3
        have HCP := Lib.hid hcp
        obtain ⟨ln, hln⟩ : ∃ ln, (pre ++ x :: r2).length = ln := ⟨_, rfl⟩
        have HLN := Lib.hid hln
        rw [hln] at KC hi ⊢
        have d1 : decide (pre.length < ln) = true := by simp; exact hi
        have d2 : decide ((pre.length : Int) < (ln : Int)) = true := by simp; exact hi
        have cx := HX.out.cell 0
        have hls := HX.out.lt
        simp only [List.getElem?_toArray, List.getElem?_cons_zero] at cx
        clear hles hlm hsub hln hl3 hcp hrg
        obtain ⟨pl, hplE⟩ : ∃ pl, pre.length = pl := ⟨_, rfl⟩
        have HPL := Lib.hid hplE
        rw [hplE] at HHi HLes hpl hi d1 d2 ⊢
        clear hplE
        go_wp2_with fail
        refine KC.out.mono ?_
        rintro e w5 ⟨g5, cp5, rfl, ho5, hb5⟩
        have KD := Lib.hid (del_ok (i := pl) (zs := pre ++ x :: r2) (by have := ho5; rwa [← HLN.out] at this) (by have := HL3.out; omega) HHi.out)
        rw [HLN.out] at KD
        have HB5 := Lib.hid (HBW.out.trans (hb5.mono HBW.out.size))
        have HX5 := Lib.hid (HX.out.below hb5 HX.out.lt)
        have HR5 := Lib.hid (HRow.out.below hb5)
        have HW5 := Lib.hid hb5
        clear ho5 hb5
        rw [HLes.out] at KD
        obtain ⟨lm, hlmE⟩ : ∃ lm, (pre ++ r2).length = lm := ⟨_, rfl⟩
        have HLME := Lib.hid hlmE
        rw [hlmE] at KD
        clear hlmE
        go_wp2_with fail
        refine KD.out.mono ?_
        rintro e w6 ⟨rfl, hrow6, hb6, hcp6⟩
        have HR6 := Lib.hid (HW5.out.trans hb6)
        have HB6 := Lib.hid (HBW.out.trans (HR6.out.mono HBW.out.size))
        have HX6 := Lib.hid (HX.out.below HR6.out HX.out.lt)
        have HRow6 := Lib.hid hrow6
        have HLM5 : Hid ((pre ++ r2).length ≤ cp5) := Lib.hid (by rw [HLME.out]; exact hcp6)
        clear hrow6 hb6 hcp6
        have KL := Lib.hid (close_ok (L := pre ++ r2) cp5 (HT.out.below HB6.out) HCap.out hT1 HLm.out HRow6.out)
        rw [HLME.out] at KL
        have cx6 := HX6.out.cell 0
        have hls6 := HX6.out.lt
        simp only [List.getElem?_toArray, List.getElem?_cons_zero] at cx6
        clear cx hls
        go_wp2_with fail
        refine KL.out.mono ?_
        rintro e w7 ⟨v7, cs7, bd7, er7, rfl, ho7, hb7, hbd7, _⟩
        obtain ⟨a7, cp7, rfl⟩ := own_slice ho7
        have HB7 := Lib.hid (HB6.out.trans (hb7.mono HB6.out.size))
        have HX7 := Lib.hid (HX6.out.below hb7 HX6.out.lt)
        have HRow7 := Lib.hid (HRow6.out.below hb7)
        have HRowO := Lib.hid (HRow.out.below (HR6.out.trans (hb7.mono HR6.out.size)))
        have HBD7 := Lib.hid hbd7
        clear ho7 hb7 hbd7 cx6 hls6
        cases bd7 with
        | true =>
          go_wp2
          go_roundg gk
          case measure => omega
          case rel => exact ⟨pre, r2, g5, cp5, HRG.out, by rw [HPL.out], by rw [HLME.out], HLM5.out, HLm.out, HRow7.out, by have := HBD7.out; simpa using this, by rw [← HCf.out]; conv => rhs; rw [confM]; rw [if_pos (badB_iff.2 (by have := HBD7.out; simpa using this))], HB7.out, HX7.out⟩
        | false =>
          have hnb : ¬ badB T (pre ++ r2) = true := fun hb => by have := HBD7.out.2 (badB_iff.1 hb); cases this
          have HNB := Lib.hid hnb
          clear hnb
          go_wp2
          go_roundg gk
          case measure => omega
          case rel =>
            have e1 : pre ++ [x] ++ r2 = pre ++ x :: r2 := by simp
            refine ⟨pre ++ [x], r2, gg, cp, HRG.out, ?_, by rw [e1, HLN.out], by rw [e1]; exact HCP.out, by rw [e1]; exact HL3.out, by rw [e1]; exact HRowO.out, by rw [e1]; exact HBd.out, ?_, HB7.out, HX7.out⟩
            · rw [List.length_append, HPL.out]
              go_num
            · rw [← HCf.out]
              conv => rhs; rw [confM]
              rw [if_neg HNB.out]
end Go.Proofs.Ytbgbhfmchpdkcaa

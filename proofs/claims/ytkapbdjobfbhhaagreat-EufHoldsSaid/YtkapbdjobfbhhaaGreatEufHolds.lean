/- EufHolds' walk. -/
import Derived.Test.YtkapbdjobfbhhaaGreatVyD
import Derived.Test.YtkapbdjobfbhhaaGreatIntIn
import Derived.Test.YtkapbdjobfbhhaaGreatEvH
namespace Go.Proofs.YtkapbdjobfbhhaaGreat
open Go.RowKit Go.Lib Go.ChangeShapes Go.WideShapes Go.ChangeAt
theorem IsNodes.full {w : World} {a : Option Addr} {len cap : Nat} {f : Nat → Nd} (h : IsNodes w a len cap f) (hl : len ≤ 60) : ∃ T, T.length = len ∧ Tab w a T ∧ len ≤ cap :=
  ⟨_, by simp, h.tab (by omega), h.cap⟩
set_option maxRecDepth 100000 in
set_option maxHeartbeats 16000000 in
theorem eufHolds_core {w : World} {g : SigV} {wl : WldV} {A B : Option Addr} {n lB : Nat} (c cB : Nat) (hg : SigAt w g) (hd : SigDeep w g) (hw : WldAt w wl) (hwf : WldWf wl) (h : n ≤ 60 → ∃ T : List Nd, T.length = n ∧ Tab w A T ∧ n ≤ c) (hB : lB ≤ 60 → ∃ LB : List Int, LB.length = lB ∧ Row w B LB) :
    Calls Tryz.prog 3 #[.agg g.cells, .agg wl.cells, .agg #[.slice A n c], .slice B lB cB] w (fun e w' => e = .returned (.bool true) ∧ Below w.heap.size w w') := by
  obtain ⟨qs, sf, zf, hx⟩ := hd.x
  obtain ⟨S, hS⟩ : ∃ S, w.heap.size = S := ⟨_, rfl⟩
  obtain ⟨w0, hw0⟩ : ∃ w0, ((w.alloc (.cells g.cells 26)).alloc (.cells wl.cells 30)).alloc (.cells #[.slice A n c] 33) = w0 := ⟨_, rfl⟩
  have HB0 : Hid (Below w.heap.size w w0) := Lib.hid (by
    rw [← hw0]
    exact (((Below.refl _ w).alloc (Nat.le_refl _) _).alloc (by simp) _).alloc (by simp; omega) _)
  have HBx : Hid (Blk w0 S 26 g.cells ∧ Blk w0 (S + 1) 30 wl.cells ∧ Blk w0 (S + 1 + 1) 33 #[.slice A n c]) := Lib.hid (by
    rw [← hw0, ← hS]
    exact ⟨((Blk.new w 26 g.cells).alloc _).alloc _, (Blk.new_at (by simp) _ _).alloc _, Blk.new_at (by simp) _ _⟩)
  have HG := Lib.hid (hg.below HB0.out)
  have HD : Hid (SigDD w0 g qs sf zf) := Lib.hid ⟨hd.below HB0.out, hx.below HB0.out⟩
  have HW := Lib.hid (hw.below HB0.out)
  have HWf := Lib.hid hwf
  have HTb : Hid (n ≤ 60 → ∃ T : List Nd, T.length = n ∧ Tab w0 A T ∧ n ≤ c) := Lib.hid (fun e => by
    obtain ⟨T, h1, h2, h3⟩ := h e
    exact ⟨T, h1, h2.below HB0.out, h3⟩)
  have HRw : Hid (lB ≤ 60 → ∃ LB : List Int, LB.length = lB ∧ Row w0 B LB) := Lib.hid (fun e => by
    obtain ⟨T, h1, h2⟩ := hB e
    exact ⟨T, h1, h2.below HB0.out⟩)
  have HGC : Hid (g.cells = #[.slice g.A0 g.sorts.length g.c0, .slice g.A1 g.funs.length g.c1, .slice g.A2 g.macs.length g.c2]) := Lib.hid rfl
  have HVC : Hid (wl.cells = #[.slice wl.A0 wl.sizes.length wl.c0, .slice wl.A1 wl.funs.length wl.c1]) := Lib.hid rfl
  have HX : Hid (∀ W, Below w0.heap.size w0 W → (W.cell? ⟨S, 0, none⟩ = some (.slice g.A0 g.sorts.length g.c0) ∧ W.cell? ⟨S, 1, none⟩ = some (.slice g.A1 g.funs.length g.c1) ∧ W.cell? ⟨S, 2, none⟩ = some (.slice g.A2 g.macs.length g.c2)) ∧ (W.cell? ⟨S + 1, 0, none⟩ = some (.slice wl.A0 wl.sizes.length wl.c0) ∧ W.cell? ⟨S + 1, 1, none⟩ = some (.slice wl.A1 wl.funs.length wl.c1)) ∧ W.cell? ⟨S + 1 + 1, 0, none⟩ = some (.slice A n c)) := Lib.hid (fun W hW => by
    obtain ⟨h1, h2, h3⟩ := HBx.out
    exact ⟨sig_blk (h1.below hW h1.lt), wld_blk (h2.below hW h2.lt), tab_box (h3.below hW h3.lt)⟩)
  have K0 := Lib.hid (lgreat_ok HG.out HD.out.1)
  have K1 := Lib.hid (fun W (hW : Below w0.heap.size w0 W) => wgreat09_ok (HW.out.below hW))
  have K5 := Lib.hid (fun W (hW : Below w0.heap.size w0 W) (C : List Nd) (CA : Option Addr) (cc : Nat) (ht : Tab W CA C) => xvalues_ok cc (HG.out.below hW) (HD.out.below hW) (HW.out.below hW) HWf.out ht)
  rw [HGC.out] at hw0 K0 K5 ⊢
  rw [HVC.out] at hw0 K1 K5 ⊢
  have HW0 := Lib.hid hw0
  clear hg hd hw hwf h hB hw0 hx
  go_enter Tryz.func3, Tryz.ntmps3
  go_upto_region 1 with (fail)
  rw [HW0.out]
  clear HW0 hS
  obtain ⟨⟨x0, x1, x2⟩, ⟨x3, x4⟩, x5⟩ := HX.out w0 (Below.refl _ _)
  by_cases hn : 60 < n
  · have eA : decide ((n : Int) > 60) = true := by simp; omega
    have fA : decide ((60 : Int) < (n : Int)) = true := by simp; omega
    clear hn
    go_wp2_with fail
    refine (wakes_ok _).mono ?_
    rintro e wz ⟨rfl, hbz⟩
    have HBz := Lib.hid ((HB0.out).trans (hbz.mono (HB0.out).size))
    clear hbz
    go_wp2
    go_ret
    exact ⟨rfl, HBz.out⟩
  have eA : decide ((n : Int) > 60) = false := by simp; omega
  have fA : decide ((60 : Int) < (n : Int)) = false := by simp; omega
  by_cases hlB : 60 < lB
  · have eB : decide ((lB : Int) > 60) = true := by simp; omega
    have fB : decide ((60 : Int) < (lB : Int)) = true := by simp; omega
    clear hn hlB
    go_wp2_with fail
    refine (wakes_ok _).mono ?_
    rintro e wz ⟨rfl, hbz⟩
    have HBz := Lib.hid ((HB0.out).trans (hbz.mono (HB0.out).size))
    clear hbz
    go_wp2
    go_ret
    exact ⟨rfl, HBz.out⟩
  have eB : decide ((lB : Int) > 60) = false := by simp; omega
  have fB : decide ((60 : Int) < (lB : Int)) = false := by simp; omega
  obtain ⟨T, hTl, hTab, hnc⟩ := HTb.out (by omega)
  obtain ⟨L, hLl, hRow⟩ := HRw.out (by omega)
  have HTab := Lib.hid hTab
  have HRow := Lib.hid hRow
  have HTl := Lib.hid hTl
  have HLl := Lib.hid hLl
  have HNc := Lib.hid hnc
  have hn60 : n ≤ 60 := by omega
  have hl60 : lB ≤ 60 := by omega
  clear hn hlB hTab hRow hTl hLl hnc HTb HRw
  go_wp2_with fail
  refine K0.out.mono ?_
  rintro e w1 ⟨q1, rfl, hb1⟩
  have HB1 := Lib.hid hb1
  have HT1 := Lib.hid (HB0.out.trans (hb1.mono HB0.out.size))
  clear hb1 x0 x1 x2 x3 x4 x5 K0
  obtain ⟨⟨x0, x1, x2⟩, ⟨x3, x4⟩, x5⟩ := HX.out w1 HB1.out
  cases q1 with
  | true =>
    go_wp2_with fail
    refine (wakes_ok _).mono ?_
    rintro e wz ⟨rfl, hbz⟩
    have HBz := Lib.hid ((HT1.out).trans (hbz.mono (HT1.out).size))
    clear hbz
    go_wp2
    go_ret
    exact ⟨rfl, HBz.out⟩
  | false =>
    have K1a := Lib.hid (K1.out w1 HB1.out)
    go_wp2_with fail
    refine K1a.out.mono ?_
    rintro e w2 ⟨q2, rfl, hb2⟩
    have HB2 := Lib.hid (HB1.out.trans (hb2.mono HB1.out.size))
    have HT2 := Lib.hid (HT1.out.trans (hb2.mono HT1.out.size))
    clear hb2 x0 x1 x2 x3 x4 x5 K1a K1
    obtain ⟨⟨x0, x1, x2⟩, ⟨x3, x4⟩, x5⟩ := HX.out w2 HB2.out
    cases q2 with
    | true =>
      go_wp2_with fail
      refine (wakes_ok _).mono ?_
      rintro e wz ⟨rfl, hbz⟩
      have HBz := Lib.hid ((HT2.out).trans (hbz.mono (HT2.out).size))
      clear hbz
      go_wp2
      go_ret
      exact ⟨rfl, HBz.out⟩
    | false =>
      have K2 := rmay_ok (c := c) cB (HTab.out.below HB2.out) (HRow.out.below HB2.out)
      rw [HTl.out, HLl.out] at K2
      have K2 := Lib.hid K2
      go_wp2_with fail
      refine K2.out.mono ?_
      rintro e w3 ⟨q3, rfl, hq3, hb3⟩
      have HQ3 := Lib.hid hq3
      have HB3 := Lib.hid (HB2.out.trans (hb3.mono HB2.out.size))
      have HT3 := Lib.hid (HT2.out.trans (hb3.mono HT2.out.size))
      clear hb3 hq3 x0 x1 x2 x3 x4 x5 K2
      obtain ⟨⟨x0, x1, x2⟩, ⟨x3, x4⟩, x5⟩ := HX.out w3 HB3.out
      cases q3 with
      | false =>
        go_wp2_with fail
        refine (wakes_ok _).mono ?_
        rintro e wz ⟨rfl, hbz⟩
        have HBz := Lib.hid ((HT3.out).trans (hbz.mono (HT3.out).size))
        clear hbz
        go_wp2
        go_ret
        exact ⟨rfl, HBz.out⟩
      | true =>
        have HMay : Hid (MayLits T L) := Lib.hid (HQ3.out.1 (by trivial))
        have K5a := K5.out w3 HB3.out T A c (HTab.out.below HB3.out)
        rw [HTl.out] at K5a
        have K5a := Lib.hid K5a
        clear K5 eA fA eB fB
        go_wp2_with fail
        refine K5a.out.mono ?_
        rintro e w4 ⟨v1, v2, er, rfl, hyes, hb4⟩
        have HB4 := Lib.hid (HB3.out.trans (hb4.mono HB3.out.size))
        have HT4 := Lib.hid (HT3.out.trans (hb4.mono HT3.out.size))
        have HY := Lib.hid hyes
        clear hyes hb4 x0 x1 x2 x3 x4 x5 K5a
        by_cases hv0 : er = 0
        rotate_left
        · have e1 : (er != 0) = true := bne_iff_ne.2 hv0
          clear hv0
          go_wp2_with fail
          refine (wakes_ok _).mono ?_
          rintro e wz ⟨rfl, hbz⟩
          have HBz := Lib.hid ((HT4.out).trans (hbz.mono (HT4.out).size))
          clear hbz
          go_wp2
          go_ret
          exact ⟨rfl, HBz.out⟩
        have e1 : (er != 0) = false := by rw [hv0]; rfl
        obtain ⟨hTO, _, hru, vals, overs, hF, ho1, ho2⟩ := HY.out hv0
        have h2 := hTO.len
        obtain ⟨q, qc, hv1, _, _, _⟩ := own_form ho1 (by have := HTl.out; omega)
        obtain ⟨q2, qc2, hv2, _, _, _⟩ := own_form ho2 (by have := HTl.out; omega)
        subst hv1 hv2
        have hl1 := hF.l1
        have hl2 := hF.l2
        have hR4 : Row w4 (some ⟨q, 0, none⟩) vals := by
          have : OwnL w4 w3.heap.size (.slice (some ⟨q, 0, none⟩) vals.length qc) vals := by unfold OwnL; rw [hl1]; rw [HTl.out] at ho1 ⊢; exact ho1
          exact (this.rowS (by have := HTl.out; omega)).1
        have hO4 : ∀ k, k < n → w4.cell? ⟨q2, k, none⟩ = some (.bool (overs.getD k true)) := fun k hk => own_bool_at ho2 (by rw [hl2, HTl.out]; exact hk)
        have HR4 := Lib.hid hR4
        have HO4 := Lib.hid hO4
        have HVl : Hid (vals.length = n) := Lib.hid (hl1.trans HTl.out)
        have HOl : Hid (overs.length = n) := Lib.hid (hl2.trans HTl.out)
        have HWv : Hid ((∀ b ∈ overs, b = false) → WVal T (vf vals)) := Lib.hid (fun hb => wval_of hF hTO hru hb)
        rw [HTl.out]
        clear hv0 hTO hru hF ho1 ho2 h2 hl1 hl2 hR4 hO4 HY
        go_wp2
        go_loopg [58] n (fun gg v W => ∃ i : Nat, i + gg = n ∧ v = .int .i64 i ∧ (∀ k, k < i → overs.getD k true = false) ∧ w4 = W)
        case atStart => exact ⟨0, by omega, rfl, fun k hk => absurd hk (Nat.not_lt_zero k), rfl⟩
        case round =>
          obtain ⟨i, hig, rfl, hinv, rfl⟩ := hrel
          have HI := Lib.hid hinv
          clear hinv
          cases gk with
          | succ gk =>
            have hlt : i < n := by omega
            have d1 : decide ((i : Int) < (n : Int)) = true := decide_eq_true (by omega)
            have t1 : (0 : Int) ≤ (i : Int) := by omega
            have t2 : (i : Int) < (n : Int) := by omega
            have y0 := HO4.out i hlt
            cases hb : overs.getD i true with
            | true =>
              rw [hb] at y0
              go_wp2_with fail
              refine (wakes_ok _).mono ?_
              rintro e wz ⟨rfl, hbz⟩
              have HBz := Lib.hid ((HT4.out).trans (hbz.mono (HT4.out).size))
              clear hbz
              go_wp2
              go_ret
              exact ⟨rfl, HBz.out⟩
            | false =>
              have HBi := Lib.hid hb
              rw [hb] at y0
              clear hb
              go_wp2
              go_roundg gk
              case measure => omega
              case rel => exact ⟨i + 1, by omega, by go_num, fun k hk => by
                rcases Nat.lt_or_ge k i with h' | h'
                · exact HI.out k h'
                · obtain rfl : k = i := by omega
                  exact HBi.out, rfl⟩
          | zero =>
            obtain rfl : n = i := by omega
            have d1 : decide ((n : Int) < (n : Int)) = false := by simp
            have HV : Hid (WVal T (vf vals)) := Lib.hid (HWv.out fun b hb => by
              obtain ⟨k, hk, rfl⟩ := List.getElem_of_mem hb
              have := HI.out k (by have := HOl.out; omega)
              rwa [List.getD_eq_getElem?_getD, List.getElem?_eq_getElem hk] at this)
            have HRw4 := Lib.hid (HRow.out.below HB4.out)
            clear HI HWv hig
            go_wp2
            clear d1
            go_loopg [69, 12, 13] lB (fun gg v va vs W => ∃ (j : Nat) (al so : Bool), j + gg = lB ∧ v = .int .i64 j ∧ va = .bool al ∧ vs = .bool so ∧ (al = true ↔ ∀ k (hk : k < L.length), k < j → hldB vals L[k] = true) ∧ (so = true ↔ ∃ (k : Nat) (hk : k < L.length), k < j ∧ hldB vals L[k] = true) ∧ w4 = W)
            case atStart => exact ⟨0, true, false, by omega, rfl, rfl, rfl, ⟨fun _ k _ h => absurd h (Nat.not_lt_zero k), fun _ => rfl⟩, ⟨fun e => Bool.noConfusion e, fun ⟨k, _, h, _⟩ => absurd h (Nat.not_lt_zero k)⟩, rfl⟩
            case round =>
              obtain ⟨j, al, so, hjg, rfl, rfl, rfl, hal, hso, rfl⟩ := hrel
              have HAl := Lib.hid hal
              have HSo := Lib.hid hso
              clear hal hso
              cases gk with
              | succ gk =>
                have hlt : j < lB := by omega
                have hlL : j < L.length := by rw [HLl.out]; exact hlt
                have d1 : decide ((j : Int) < (lB : Int)) = true := decide_eq_true (by omega)
                have t1 : (0 : Int) ≤ (j : Int) := by omega
                have t2 : (j : Int) < (lB : Int) := by omega
                obtain ⟨b, off, hBA, _, hc⟩ := HRw4.out.at_.resolve_left (by omega)
                have y0 := hc j hlL
                obtain ⟨p, nn, hp, _, _, hpl⟩ := (HMay.out.2 L[j] (List.getElem_mem hlL)).at_
                have KH := holds_ok qc HR4.out (x := L[j]) (HMay.out.2 L[j] (List.getElem_mem hlL)).1 (by rw [hp, HVl.out, ← HTl.out]; omega)
                rw [HVl.out] at KH
                have HAn : Hid (∀ b : Bool, b = hldB vals L[j] → ((al && b) = true ↔ ∀ k (hk : k < L.length), k < j + 1 → hldB vals L[k] = true)) := Lib.hid (fun b hb => by
                  rw [Bool.and_eq_true, HAl.out]
                  refine ⟨fun h k hk h' => ?_, fun h => ⟨fun k hk h' => h k hk (by omega), by rw [hb]; exact h j hlL (by omega)⟩⟩
                  rcases Nat.lt_or_ge k j with h3 | h3
                  · exact h.1 k hk h3
                  · obtain rfl : k = j := by omega
                    rw [← hb]; exact h.2)
                have HSn : Hid (∀ b : Bool, b = hldB vals L[j] → ((so || b) = true ↔ ∃ (k : Nat) (hk : k < L.length), k < j + 1 ∧ hldB vals L[k] = true)) := Lib.hid (fun b hb => by
                  rw [Bool.or_eq_true, HSo.out]
                  refine ⟨fun h => ?_, fun ⟨k, hk, h', h4⟩ => ?_⟩
                  · rcases h with ⟨k, hk, h', h4⟩ | h
                    · exact ⟨k, hk, by omega, h4⟩
                    · exact ⟨j, hlL, by omega, by rw [← hb]; exact h⟩
                  · rcases Nat.lt_or_ge k j with h3 | h3
                    · exact .inl ⟨k, hk, h3, h4⟩
                    · obtain rfl : k = j := by omega
                      exact .inr (by rw [hb]; exact h4))
                obtain ⟨hb, hhb⟩ : ∃ hb, hldB vals L[j] = hb := ⟨_, rfl⟩
                rw [hhb] at KH
                have HAx := Lib.hid (HAn.out hb hhb.symm)
                have HSx := Lib.hid (HSn.out hb hhb.symm)
                have KH := Lib.hid KH
                subst hBA
                generalize L[j] = x at *
                clear hc hp hpl hhb HAn HSn
                cases al with
                | true =>
                  cases so with
                  | true =>
                    go_wp2_with (go_at_call 9; refine KH.out.mono ?_; rintro e wh ⟨rfl, rfl⟩)
                    go_roundg gk
                    case measure => omega
                    case rel => exact ⟨j + 1, _, _, by omega, by go_num, rfl, rfl, HAx.out, HSx.out, rfl⟩
                  | false =>
                    go_wp2_with (go_at_call 9; refine KH.out.mono ?_; rintro e wh ⟨rfl, rfl⟩)
                    go_roundg gk
                    case measure => omega
                    case rel => exact ⟨j + 1, _, _, by omega, by go_num, rfl, rfl, HAx.out, HSx.out, rfl⟩
                | false =>
                  cases so with
                  | true =>
                    go_wp2_with (go_at_call 9; refine KH.out.mono ?_; rintro e wh ⟨rfl, rfl⟩)
                    go_roundg gk
                    case measure => omega
                    case rel => exact ⟨j + 1, _, _, by omega, by go_num, rfl, rfl, HAx.out, HSx.out, rfl⟩
                  | false =>
                    go_wp2_with (go_at_call 9; refine KH.out.mono ?_; rintro e wh ⟨rfl, rfl⟩)
                    go_roundg gk
                    case measure => omega
                    case rel => exact ⟨j + 1, _, _, by omega, by go_num, rfl, rfl, HAx.out, HSx.out, rfl⟩
              | zero =>
                obtain rfl : lB = j := by omega
                have d1 : decide ((lB : Int) < (lB : Int)) = false := by simp
                have HAll : Hid (al = true → ∀ x ∈ L, Hld (vf vals) x) := Lib.hid (fun e x hx => by
                  obtain ⟨k, hk, rfl⟩ := List.getElem_of_mem hx
                  exact hldB_iff.1 (HAl.out.1 e k hk (by have := HLl.out; omega)))
                have HSome : Hid (LemL T L → so = true) := Lib.hid (fun e => by
                  obtain ⟨x, hx, hh⟩ := lem_holds HMay.out (by have := HTl.out; omega) HV.out e
                  obtain ⟨k, hk, rfl⟩ := List.getElem_of_mem hx
                  exact HSo.out.2 ⟨k, hk, by have := HLl.out; omega, hldB_iff.2 hh⟩)
                clear HAl HSo hjg
                obtain ⟨⟨x0, x1, x2⟩, ⟨x3, x4⟩, x5⟩ := HX.out w4 HB4.out
                have KL := lemma_ok (c := c) cB (HTab.out.below HB4.out) (by rw [HTl.out]; exact HNc.out) (by have := HTl.out; omega) (by have := HLl.out; omega) HRw4.out
                rw [HTl.out, HLl.out] at KL
                have KL := Lib.hid KL
                go_wp2_with fail
                refine KL.out.mono ?_
                rintro e w5 ⟨ql, rfl, hql, hb5⟩
                have HB5 := Lib.hid (HB4.out.trans (hb5.mono HB4.out.size))
                have HT5 := Lib.hid (HT4.out.trans (hb5.mono HT4.out.size))
                have HQl : Hid (ql = true → so = true) := Lib.hid (fun e => HSome.out (hql.1 e))
                have HR5 := Lib.hid (HR4.out.below hb5)
                have KC := close_ok (c := c) cB (HTab.out.below HB5.out) (by rw [HTl.out]; exact HNc.out) (by have := HTl.out; omega) (by have := HLl.out; omega) (HRow.out.below HB5.out)
                rw [HTl.out, HLl.out] at KC
                have KC := Lib.hid KC
                clear hql hb5 d1 x0 x1 x2 x3 x4 x5 KL
                obtain ⟨⟨x0, x1, x2⟩, ⟨x3, x4⟩, x5⟩ := HX.out w5 HB5.out
                have hqs : (ql = false ∧ (so = false ∨ so = true)) ∨ (ql = true ∧ so = true) := by
                  cases ql with
                  | true => exact .inr ⟨rfl, HQl.out rfl⟩
                  | false => cases so <;> simp
                clear HQl HSome
                rcases hqs with ⟨rfl, hso2⟩ | ⟨rfl, rfl⟩
                rotate_left
                all_goals
                  try clear hso2
                  go_wp2_with fail
                  refine KC.out.mono ?_
                  rintro e w6 ⟨vc, cs, bd, er, rfl, hown, hb6, hbd, hcl⟩
                  have HB6 := Lib.hid (HB5.out.trans (hb6.mono HB5.out.size))
                  have HT6 := Lib.hid (HT5.out.trans (hb6.mono HT5.out.size))
                  have HR6 := Lib.hid (HR5.out.below hb6)
                  have HTab6 := Lib.hid (HTab.out.below HB6.out)
                  obtain ⟨_, rfl, hcs⟩ : MayLits T L ∧ er = 0 ∧ Classes T (told T L) cs := hcl.resolve_right (fun h => absurd HMay.out h.1)
                  have hlen : cs.length = n + 1 := by rw [hcs.1, HTl.out]
                  obtain ⟨VA, vcap, rfl, hrc, _, _⟩ := hown.row (by omega)
                  have HRc := Lib.hid hrc
                  have HLen := Lib.hid hlen
                  have HBd : Hid (al = true → bd = false ∧ ∀ (i k : Nat) (hi : i < cs.length) (hk : k < cs.length), i < n → k < n → cs[i] = cs[k] → vf vals i = vf vals k) := Lib.hid (fun e => by
                    obtain ⟨h1, h2⟩ := held_all HMay.out HV.out (HAll.out e)
                    refine ⟨?_, fun i k hi hk hiT hkT => h2 cs hcs i k hi hk (by rw [HTl.out]; exact hiT) (by rw [HTl.out]; exact hkT)⟩
                    cases bd with
                    | false => rfl
                    | true => exact absurd (hbd.1 rfl) h1)
                  have hw1 : IntKind.i64.wrap ((n : Int) + 1) = (n : Int) + 1 := by rw [IntKind.wrap_i64]; omega
                  have e3 : (((n + 1 : Nat) : Int) != (n : Int) + 1) = false := by simp
                  rw [hlen]
                  clear hown hb6 hbd hcl hcs hlen hrc KC x0 x1 x2 x3 x4 x5
                  obtain ⟨_, _, x5⟩ := HX.out w6 HB6.out
                  cases al with
                  | false =>
                    go_wp2_with fail
                    refine (wakes_ok _).mono ?_
                    rintro e wz ⟨rfl, hbz⟩
                    have HBz := Lib.hid ((HT6.out).trans (hbz.mono (HT6.out).size))
                    clear hbz
                    go_wp2
                    go_ret
                    exact ⟨rfl, HBz.out⟩
                  | true =>
                    obtain ⟨rfl, hcl⟩ := HBd.out rfl
                    have HCl := Lib.hid hcl
                    clear hcl HBd HAll
                    go_wp2
                    clear x5
                    go_loopg [117] n (fun gg v W => ∃ i : Nat, i + gg = n ∧ v = .int .i64 i ∧ Below w6.heap.size w6 W)
                    case atStart => exact ⟨0, by omega, rfl, Below.refl _ _⟩
                    case round =>
                      obtain ⟨i, hig, rfl, hbo⟩ := hrel
                      have HBo := Lib.hid hbo
                      have HTo := Lib.hid (HT6.out.trans (hbo.mono HT6.out.size))
                      clear hbo
                      cases gk with
                      | zero =>
                        obtain rfl : i = n := by omega
                        have d1 : decide ((i : Int) < (i : Int)) = false := by simp
                        go_wp2_with fail
                        refine (wakes_ok _).mono ?_
                        rintro e wz ⟨rfl, hbz⟩
                        have HBz := Lib.hid ((HTo.out).trans (hbz.mono (HTo.out).size))
                        clear hbz
                        go_wp2
                        go_ret
                        exact ⟨rfl, HBz.out⟩
                      | succ gk =>
                        have hin : i < n := by omega
                        have d1 : decide ((i : Int) < (n : Int)) = true := decide_eq_true (by omega)
                        have t1 : (0 : Int) ≤ (i : Int) := by omega
                        have t2 : (i : Int) < (n : Int) := by omega
                        have t3 : (i : Int) < ((n + 1 : Nat) : Int) := by omega
                        obtain ⟨gk0, rfl⟩ : ∃ go : Nat, go = gk := ⟨_, rfl⟩
                        go_wp2
                        go_loopg [20] i (fun gg v W => ∃ k : Nat, k + gg = i ∧ v = .int .i64 k ∧ Below w6.heap.size w6 W)
                        case atStart => exact ⟨0, by omega, rfl, HBo.out⟩
                        case round =>
                          obtain ⟨k, hkg, rfl, hbi⟩ := hrel
                          have HBi := Lib.hid hbi
                          clear hbi
                          cases gk with
                          | zero =>
                            obtain rfl : k = i := by omega
                            have d2 : decide ((k : Int) < (k : Int)) = false := by simp
                            go_wp2
                            go_roundg gk0
                            case measure => omega
                            case rel => exact ⟨k + 1, by omega, by go_num, HBi.out⟩
                          | succ gq =>
                            have hki : k < i := by omega
                            have d2 : decide ((k : Int) < (i : Int)) = true := decide_eq_true (by omega)
                            have u1 : (0 : Int) ≤ (k : Int) := by omega
                            have u2 : (k : Int) < (n : Int) := by omega
                            have u3 : (k : Int) < ((n + 1 : Nat) : Int) := by omega
                            obtain ⟨b1, f1, hVA, l1, hc1⟩ := HRc.out.at_.resolve_left (by have := HLen.out; omega)
                            have c1 := hc1 i (by have := HLen.out; omega)
                            have c2 := hc1 k (by have := HLen.out; omega)
                            obtain ⟨b2, f2, hA, l2, hc2⟩ := HTab6.out.at_.resolve_left (by have := HTl.out; omega)
                            have s1 : w6.cell? ⟨b2, f2 + i * 8 + 5, none⟩ = some (.int .i64 (T[i]'(by rw [HTl.out]; exact hin)).sort) := (hc2 i (by rw [HTl.out]; exact hin)).cells 5 (by omega)
                            have s2 : w6.cell? ⟨b2, f2 + k * 8 + 5, none⟩ = some (.int .i64 (T[k]'(by rw [HTl.out]; omega)).sort) := (hc2 k (by rw [HTl.out]; omega)).cells 5 (by omega)
                            obtain ⟨b3, f3, hQ, l3, hc3⟩ := HR6.out.at_.resolve_left (by have := HVl.out; omega)
                            injection hQ with hQ
                            injection hQ with hQ1 hQ2
                            subst hQ1 hQ2
                            have z1 : w6.cell? ⟨q, i, none⟩ = some (.int .i64 (vf vals (i : Int))) := by
                              have := hc3 i (by rw [HVl.out]; exact hin)
                              rw [Nat.zero_add] at this
                              rw [this]; unfold vf; rw [Int.toNat_natCast, List.getD_eq_getElem?_getD, List.getElem?_eq_getElem (by rw [HVl.out]; exact hin)]; rfl
                            have z2 : w6.cell? ⟨q, k, none⟩ = some (.int .i64 (vf vals (k : Int))) := by
                              have := hc3 k (by rw [HVl.out]; omega)
                              rw [Nat.zero_add] at this
                              rw [this]; unfold vf; rw [Int.toNat_natCast, List.getD_eq_getElem?_getD, List.getElem?_eq_getElem (by rw [HVl.out]; omega)]; rfl
                            have HIm := Lib.hid (HCl.out i k (by have := HLen.out; omega) (by have := HLen.out; omega) hin (by omega))
                            subst hVA hA
                            generalize (T[i]'(by rw [HTl.out]; exact hin)).sort = si at *
                            generalize (T[k]'(by rw [HTl.out]; omega)).sort = sk at *
                            generalize vf vals (i : Int) = vi at *
                            generalize vf vals (k : Int) = vk at *
                            generalize cs[i]'(by have := HLen.out; omega) = ci at *
                            generalize cs[k]'(by have := HLen.out; omega) = ck at *
                            have HFx : Hid (∀ W, Below wr.heap.size wr W → W.cell? ⟨S + 1 + 1, 0, none⟩ = some (.slice (some ⟨b2, f2, none⟩) n c) ∧ (W.cell? ⟨b1, f1 + i, none⟩ = some (.int .i64 ci) ∧ W.cell? ⟨b1, f1 + k, none⟩ = some (.int .i64 ck)) ∧ (W.cell? ⟨b2, f2 + i * 8 + 5, none⟩ = some (.int .i64 si) ∧ W.cell? ⟨b2, f2 + k * 8 + 5, none⟩ = some (.int .i64 sk)) ∧ W.cell? ⟨q, i, none⟩ = some (.int .i64 vi) ∧ W.cell? ⟨q, k, none⟩ = some (.int .i64 vk)) := Lib.hid (fun W hW => by
                              have h6 := HBi.out.trans (hW.mono HBi.out.size)
                              exact ⟨(HX.out W (HB6.out.trans (h6.mono HB6.out.size))).2.2, ⟨(h6.cell (p := ⟨b1, f1 + i, none⟩) l1).trans c1, (h6.cell (p := ⟨b1, f1 + k, none⟩) l1).trans c2⟩, ⟨(h6.cell (p := ⟨b2, f2 + i * 8 + 5, none⟩) l2).trans s1, (h6.cell (p := ⟨b2, f2 + k * 8 + 5, none⟩) l2).trans s2⟩, (h6.cell (p := ⟨q, i, none⟩) l3).trans z1, (h6.cell (p := ⟨q, k, none⟩) l3).trans z2⟩)
                            clear hc1 hc2 hc3 c1 c2 s1 s2 z1 z2 l1 l2 l3
                            obtain ⟨x5, ⟨c1, c2⟩, ⟨s1, s2⟩, z1, z2⟩ := HFx.out wr (Below.refl _ _)
                            go_upto_region 32 with fail
                            cases g1 : (ci == ck) with
                            | false =>
                              go_quiet (fail)
                              go_wp2
                              go_roundg gq
                              case measure => omega
                              case rel => exact ⟨k + 1, by omega, by go_num, below_drewN HBi.out _⟩
                            | true =>
                              have g3 : (vi != vk) = false := by have := HIm.out (beq_iff_eq.1 g1); rw [this]; simp
                              cases g2 : (si == sk) with
                              | false =>
                                go_quiet (fail)
                                go_wp2
                                go_roundg gq
                                case measure => omega
                                case rel => exact ⟨k + 1, by omega, by go_num, below_drewN HBi.out _⟩
                              | true =>
                                go_quiet (fail)
                                go_wp2
                                go_roundg gq
                                case measure => omega
                                case rel => exact ⟨k + 1, by omega, by go_num, below_drewN HBi.out _⟩
theorem eufHolds_walk (g : SigV) (wl : WldV) (x : TabIn) (A3 : Option Addr) (l3 c3 : Nat) (z3 : List Int) (w : World) (h0 : g.Ok w) (h1 : wl.Ok w) (h2 : x.Ok w) (h3 : IsRow .i64 w A3 l3 c3 z3) :
    Calls Tryz.prog 3 #[g.val, wl.val, x.val, .slice A3 l3 c3] w (fun e w' => e = .returned (.bool true) ∧ Below w.heap.size w w') := by
  obtain ⟨A, n, c, f⟩ := x
  unfold TabIn.val TabIn.Ok SigV.val WldV.val at *
  simp only at h2 ⊢
  refine eufHolds_core c c3 h0.1 h0.2 h1.1 h1.2 (fun hb => IsNodes.full h2 hb) (fun hb => ?_)
  obtain ⟨L, e1, hL, _⟩ := isRow_row h3 (by omega)
  exact ⟨L, e1, hL⟩
end Go.Proofs.YtkapbdjobfbhhaaGreat

/- ClauseTurns's walk. -/
import Derived.Test.YtlganicnbcnngaaSameRef
namespace Go.Proofs.Ytlganicnbcnngaa
open Go.RowKit Go.Lib

theorem negM_le {x : Int} (h : x ≤ 9223372036854775807) : negM x ≤ 9223372036854775807 := by
  unfold negM
  split <;> omega

set_option maxRecDepth 100000 in
set_option maxHeartbeats 4000000 in
theorem clauseTurns_walk (A0 : Option Addr) (l0 c0 : Nat) (z0 : List Int) (A1 : Option Addr) (l1 c1 : Nat) (z1 : List Int) (lit : Int) (w : World) (w0 : IsRow .i64 w A0 l0 c0 z0) (w1 : IsRow .i64 w A1 l1 c1 z1) (w2 : (Lit.int .i64 lit).wf = true) :
    Calls Try.prog 5 #[.slice A0 l0 c0, .slice A1 l1 c1, .int .i64 lit] w fun e w' => e = .returned (.bool true) ∧ Below w.heap.size w w' := by
  have hl0 : l0 ≤ maxLen := by
    rcases w0 with ⟨_, rfl, _⟩ | ⟨_, _, h1, h2, _⟩
    · exact Nat.zero_le _
    · omega
  have hl1 : l1 ≤ maxLen := by
    rcases w1 with ⟨_, rfl, _⟩ | ⟨_, _, h1, h2, _⟩
    · exact Nat.zero_le _
    · omega
  unfold maxLen at hl0 hl1
  have hlit := wf_le w2
  by_cases h60 : 60 < l0
  · have d1 : decide ((60 : Int) < (l0 : Int)) = true := by simp; omega
    clear w0 w1 w2
    go_enter Try.func5, Try.ntmps5
    go_wp2_with (go_at_call 7; refine (wakes_ok _).mono ?_; rintro e w2 ⟨rfl, b2⟩)
    go_ret
    exact ⟨rfl, b2⟩
  have d1 : decide ((60 : Int) < (l0 : Int)) = false := by simp; omega
  by_cases h61 : 60 < l1
  · have d2 : decide ((60 : Int) < (l1 : Int)) = true := by simp; omega
    clear w0 w1 w2
    go_enter Try.func5, Try.ntmps5
    go_wp2_with (go_at_call 7; refine (wakes_ok _).mono ?_; rintro e w2 ⟨rfl, b2⟩)
    go_ret
    exact ⟨rfl, b2⟩
  have d2 : decide ((60 : Int) < (l1 : Int)) = false := by simp; omega
  by_cases h62 : lit < 0
  · have d3 : decide (lit < (0 : Int)) = true := by simp; omega
    clear w0 w1 w2
    go_enter Try.func5, Try.ntmps5
    go_wp2_with (go_at_call 7; refine (wakes_ok _).mono ?_; rintro e w2 ⟨rfl, b2⟩)
    go_ret
    exact ⟨rfl, b2⟩
  have d3 : decide (lit < (0 : Int)) = false := by simp; omega
  have hlit0 : 0 ≤ lit := by omega
  have hn : bits .xor .i64 lit 1 = negM lit := i64_xor_one lit hlit0 (by omega)
  obtain ⟨zs, rfl, hrow, hnil, -, -, hwf⟩ := w0.row (by omega)
  obtain ⟨ys, rfl, krow, knil, -, -, kwf⟩ := w1.row (by omega)
  have Hrow := Lib.hid hrow
  have Hnil := Lib.hid hnil
  have Krow := Lib.hid krow
  have Knil := Lib.hid knil
  have hcr := can_turn zs ys hlit0
  have hres := res_turn zs ys hlit0
  have hln := negM_le hlit
  have hlen : zs.length ≤ 60 := by omega
  have klen : ys.length ≤ 60 := by omega
  clear w0 w1 w2 hrow krow hwf kwf hnil knil z0 z1 h60 h61 h62 hl0 hl1
  cases hcan : canM zs ys lit with
  | false =>
    rw [hcan] at hcr
    have K1 := resolve_no c0 c1 lit hlit Hrow.out Krow.out hcan
    have K2 := resolve_no c1 c0 (negM lit) hln Krow.out Hrow.out hcr
    have K3 := sameRef_ok (w := w) (A := none) (B := none) (xs := []) (ys := []) 0 0 ⟨by simp, .inl rfl⟩ ⟨by simp, .inl rfl⟩
    have K4 := fun W B d (zs : List Int) (h : Row .i64 W B zs) => within_ok (w := W) (A := none) (zs := []) 0 d ⟨by simp, .inl rfl⟩ h
    simp only [List.length_nil] at K3 K4
    have e1 : (([] : List Int) == []) = true := rfl
    rw [e1] at K3
    clear hcan hcr hres e1
    go_enter Try.func5, Try.ntmps5
    go_upto_region 5 with (first
      | (go_at_call 14; (with_reducible refine K1.mono ?_); rintro e w2 ⟨rfl, rfl⟩)
      | (go_at_call 14; (with_reducible refine K2.mono ?_); rintro e w2 ⟨rfl, rfl⟩))
    obtain ⟨L, hL⟩ : ∃ L, [] ++ zs ++ ys = L := ⟨_, rfl⟩
    have HX := fun q => (((below_drewN (Below.refl _ w) q).alloc (Nat.le_refl _) _ : Below w.heap.size w ((w.drewN q).alloc (.cells #[] 3))))
    have hLl : L.length = zs.length + ys.length := by rw [← hL]; simp
    have hLl2 : L.length ≤ 120 := by omega
    have HL := Lib.hid hL
    have HLl := Lib.hid hLl
    clear hL hLl
    go_wp2_with (first
      | (go_at_call 15; (with_reducible refine K3.mono ?_); rintro e w2 ⟨rfl, q2, rfl⟩)
      | (at_builtin; refine list_append_row _ rfl (.tmp 49) (.tmp 50) rfl w.heap.size _ 0 [] rfl (own_empty (w.drewN q2)) A0 c0 zs rfl (Hrow.out.below (HX q2)) Hnil.out (by omega) (by simp) ?_; intro v1 wa ho1 hg1; have HY1 := Lib.hid (Krow.out.below (below_grow (HX q2) hg1 (by simp) (Nat.le_refl _))); have HO1 := Lib.hid ho1; have HG1 := Lib.hid (below_grow (HX q2) hg1 (by simp) (Nat.le_refl _)); clear ho1 hg1)
      | (at_builtin; refine list_append_row _ rfl (.tmp 51) (.tmp 52) rfl w.heap.size v1 (0 + zs.length) ([] ++ zs) rfl HO1.out A1 c1 ys rfl HY1.out Knil.out (by omega) HG1.out.size ?_; intro v2 wb ho2 hg2; rw [HL.out] at ho2; obtain ⟨D, d, rfl, hr2, _⟩ := own_row ho2 (by rw [HLl.out]; omega) (by omega); have HR2 := Lib.hid hr2; have HG2 := Lib.hid (below_grown_own HG1.out hg2 HO1.out (Nat.le_refl _) HG1.out.size); clear ho2 hg2 hr2)
      | (go_at_call 11; refine (K4 _ D d L HR2.out).mono ?_; rintro e w5 ⟨rfl, hb5⟩; have HB5 := Lib.hid (below_then HG2.out (Nat.le_refl _) hb5); clear hb5)
      | (go_at_call 7; refine (wakes_ok _).mono ?_; rintro e w7 ⟨rfl, hb7⟩; have HB7 := Lib.hid (below_then HB5.out (Nat.le_refl _) hb7); clear hb7))
    go_ret
    exact ⟨rfl, HB7.out⟩
  | true =>
    rw [hcan] at hcr
    have K1 := resolve_yes c0 c1 lit hlit Hrow.out Krow.out hcan (by omega)
    have K2 := fun W (h : Below w.heap.size w W) => resolve_yes c1 c0 (negM lit) hln (Krow.out.below h) (Hrow.out.below h) hcr (by omega)
    rw [hres] at K2
    have his : (resM zs ys lit == makeM (resM zs ys lit)) = true := is_make (woM lit zs ++ woM (negM lit) ys)
    obtain ⟨L, hL⟩ : ∃ L, [] ++ zs ++ ys = L := ⟨_, rfl⟩
    have hwi : (!(resM zs ys lit).any (outP L)) = true := by
      rw [within_iff]
      intro x hx
      rw [← hL]
      rcases ((mem_res _ _ _ _).1 hx).1 with h | h
      · simp [h.1]
      · simp [h.1]
    have hLl : L.length = zs.length + ys.length := by rw [← hL]; simp
    have hLl2 : L.length ≤ 120 := by omega
    have HL := Lib.hid hL
    have HLl := Lib.hid hLl
    have His := Lib.hid his
    have Hwi := Lib.hid hwi
    clear hL hLl hcan hcr hres his hwi
    generalize resM zs ys lit = m at *
    have hsm : (m == m) = true := by simp
    have Hsm := Lib.hid hsm
    clear hsm
    go_enter Try.func5, Try.ntmps5
    go_upto_region 5 with (first
      | (go_at_call 14; (with_reducible refine K1.mono ?_); rintro e w1 ⟨C1, e1, rfl, hr1, hn1, hb1⟩; have HR1 := Lib.hid hr1; have HN1 := Lib.hid hn1; have HB1 := Lib.hid hb1; clear hr1 hn1 hb1)
      | (go_at_call 14; (with_reducible refine (K2 _ HB1.out).mono ?_); rintro e w2 ⟨C2, e2, rfl, hr2, hn2, hb2⟩; have HR2 := Lib.hid hr2; have HB2 := Lib.hid (below_then HB1.out (Nat.le_refl _) hb2); have HRC := Lib.hid (HR1.out.below hb2); clear hr2 hn2 hb2))
    have K3 := sameRef_ok e1 e2 HRC.out HR2.out
    rw [Hsm.out] at K3
    have HX := fun q => (((below_drewN (Below.refl _ w2) q).alloc (Nat.le_refl _) _ : Below w2.heap.size w2 ((w2.drewN q).alloc (.cells #[] 3))))
    have HZ := Lib.hid (Hrow.out.below HB2.out)
    have HY := Lib.hid (Krow.out.below HB2.out)
    go_wp2_with (first
      | (go_at_call 15; (with_reducible refine K3.mono ?_); rintro e w3 ⟨rfl, q2, rfl⟩)
      | (at_builtin; refine list_append_row _ rfl (.tmp 49) (.tmp 50) rfl w2.heap.size _ 0 [] rfl (own_empty (w2.drewN q2)) A0 c0 zs rfl (HZ.out.below (HX q2)) Hnil.out (by omega) (by simp) ?_; intro v1 wa ho1 hg1; have HY1 := Lib.hid (HY.out.below (below_grow (HX q2) hg1 (by simp) (Nat.le_refl _))); have HO1 := Lib.hid ho1; have HG1 := Lib.hid (below_grow (HX q2) hg1 (by simp) (Nat.le_refl _)); clear ho1 hg1)
      | (at_builtin; refine list_append_row _ rfl (.tmp 51) (.tmp 52) rfl w2.heap.size v1 (0 + zs.length) ([] ++ zs) rfl HO1.out A1 c1 ys rfl HY1.out Knil.out (by omega) HG1.out.size ?_; intro v2 wb ho2 hg2; rw [HL.out] at ho2; obtain ⟨D, d, rfl, hr2, _⟩ := own_row ho2 (by rw [HLl.out]; omega) (by omega); have HRL := Lib.hid hr2; have HG2 := Lib.hid (below_grown_own HG1.out hg2 HO1.out (Nat.le_refl _) HG1.out.size); clear ho2 hg2 hr2)
      | (go_at_call 11; refine (within_ok e1 d (HRC.out.below HG2.out) HRL.out).mono ?_; rintro e w5 ⟨rfl, hb5⟩; rw [Hwi.out]; have HB5 := Lib.hid (below_then HG2.out (Nat.le_refl _) hb5); clear hb5)
      | (go_at_call 12; refine (is_ok e1 (HRC.out.below HB5.out) HN1.out).mono ?_; rintro e w6 ⟨rfl, hb6⟩; rw [His.out]; have HB6 := Lib.hid (below_then HB5.out (Nat.le_refl _) hb6); clear hb6)
      | (go_at_call 7; refine (wakes_ok _).mono ?_; rintro e w7 ⟨rfl, hb7⟩; have HB7 := Lib.hid (below_then HB6.out (Nat.le_refl _) hb7); clear hb7))
    go_ret
    exact ⟨rfl, HB2.out.trans (HB7.out.mono HB2.out.size)⟩
end Go.Proofs.Ytlganicnbcnngaa

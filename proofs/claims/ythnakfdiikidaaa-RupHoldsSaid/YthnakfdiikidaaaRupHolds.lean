/- RupHolds's walk. -/
import Derived.Test.YthnakfdiikidaaaRupQ
namespace Go.Proofs.Ythnakfdiikidaaa
open Go.RowKit Go.Lib

/-- What holds is not refuted. -/
theorem no_refute {L : List Int} (hL : Two L 60) {cs s : List (List Int)} (hr : ∀ c ∈ s, ∀ x ∈ c, 0 ≤ x ∧ x < 120) (hh : holdsM L cs = true) : refutesM cs s = false := by
  cases hq : refutesM cs s with
  | false => rfl
  | true =>
    unfold refutesM at hq
    rw [Bool.and_eq_true, Bool.and_eq_true] at hq
    obtain ⟨⟨h1, h2⟩, h3⟩ := hq
    have h1 := of_decide_eq_true h1
    have h3 := of_decide_eq_true h3
    have h4 := (row_index cs s 0 (Int.le_refl _))
    have hs := row_sound hL cs s 0 s.length (Int.le_refl _) hr hh (fun _ => rfl) (fun e => by omega)
    rw [List.take_length] at hs
    have hne : s ≠ [] := by rintro rfl; cases h1
    rw [← List.dropLast_concat_getLast hne] at hs
    obtain ⟨_, x, hx, _⟩ := holds_snoc.1 hs
    have hg : s.getLast hne = s.getD (s.length - 1) [0] := by
      rw [List.getLast_eq_getElem, List.getD_eq_getElem?_getD, List.getElem?_eq_getElem (by omega)]
      rfl
    rw [hg, List.isEmpty_iff.1 h2] at hx
    cases hx

set_option maxRecDepth 100000 in
set_option maxHeartbeats 4000000 in
theorem rupHolds_walk (A0 : Option Addr) (l0 c0 : Nat) (A : Nat → Option Addr) (L C : Nat → Nat) (Z : Nat → List Int) (A1 : Option Addr) (l1 c1 : Nat) (A' : Nat → Option Addr) (L' C' : Nat → Nat) (Z' : Nat → List Int) (A2 : Option Addr) (l2 c2 : Nat) (BB : Nat → Bool) (w : World) (w0 : IsGrid w A0 l0 c0 A L C Z) (w1 : IsGrid w A1 l1 c1 A' L' C' Z') (w2 : IsBools w A2 l2 c2 BB) :
    Calls Try.prog 3 #[.slice A0 l0 c0, .slice A1 l1 c1, .slice A2 l2 c2] w fun e w' => e = .returned (.bool true) ∧ Below w.heap.size w w' := by
  have W0 := Lib.hid w0
  have W1 := Lib.hid w1
  have hwk := Lib.hid (wakes_ok w)
  have hfu := Lib.hid (full_ok w2)
  clear w0 w1 w2
  go_enter Try.func3, Try.ntmps3
  go_upto_region 4 with (first
    | (go_at_call 7; (with_reducible refine (great15_ok W0.out).mono ?_); rintro e w1 ⟨bb, rfl, rfl, hbb⟩; have HB0 := Lib.hid hbb; clear hbb; cases bb)
    | (go_at_call 7; (with_reducible refine (great15_ok W1.out).mono ?_); rintro e w1 ⟨bb, rfl, rfl, hbb⟩; have HB1 := Lib.hid hbb; clear hbb; cases bb)
    | (go_at_call 9; (with_reducible refine hfu.out.mono ?_); rintro e w3 ⟨vals, rfl, hv2, hvr, hb3⟩; have HV2 := Lib.hid hv2; have HVR := Lib.hid hvr; have HB3 := Lib.hid hb3; clear hv2 hvr hb3)
    | (go_at_call 8; (with_reducible refine hwk.out.mono ?_); rintro e w9 ⟨rfl, hb9⟩; have HB9 := Lib.hid hb9; clear hb9))
  rotate_left
  · go_ret
    exact ⟨rfl, HB9.out⟩
  · go_ret
    exact ⟨rfl, HB9.out⟩
  obtain ⟨R, rfl, hR⟩ := tameG W0.out (HB0.out rfl)
  obtain ⟨S, rfl, hS⟩ := tameG W1.out (HB1.out rfl)
  have hR80 := hR.r80
  have hS80 := hS.r80
  have hcapS := hS.cap
  have HR := Lib.hid hR
  have HS := Lib.hid hS
  have hBd : Below w.heap.size w (w3.alloc (.cells #[] 28)) := HB3.out.alloc HB3.out.size _
  have HGR := Lib.hid (HR.out.grid.below hBd)
  have HE := Lib.hid (own_emptyR w3)
  have HNR := Lib.hid HR.out.nil
  have HNS := Lib.hid HS.out.nil
  have X1 := Lib.hid (show ([] : List (Option Addr × Nat × List Int)).length + R.length ≤ 1000000 by simp; omega)
  have X2 := Lib.hid (show R.length + S.length ≤ 1000000 by omega)
  have HBd := Lib.hid hBd
  have hgr5 : ∀ W v, Below w.heap.size w W → W.ownsRow w3.heap.size 28 1 v (R ++ S).length ((R ++ S).map encR) → ∃ GA gc, v = .slice GA (R ++ S).length gc ∧ Grid W GA (R ++ S) := by
    intro W v hb ho
    exact Gath.grid (.inl ho) (by rw [List.length_append]; omega) (fun r hr => by
      rcases List.mem_append.1 hr with h5 | h5
      · exact (HR.out.grid.below hb).each r h5
      · exact (HS.out.grid.below hb).each r h5)
  obtain ⟨T, hT⟩ : ∃ T, R ++ S = T := ⟨_, rfl⟩
  rw [hT] at hgr5
  have hTl : T.length ≤ 160 := by rw [← hT, List.length_append]; omega
  have hTe : ∀ r ∈ T, r.2.2.length ≤ 20 := by
    intro r hr
    rw [← hT] at hr
    rcases List.mem_append.1 hr with h5 | h5
    · exact (HR.out.each r h5).1
    · exact (HS.out.each r h5).1
  have HT := Lib.hid hT
  have HTe := Lib.hid hTe
  have HG5 := Lib.hid hgr5
  clear hBd hT hgr5 hR hS hTe W0 W1 HB0 HB1 hwk hfu
  go_wp2_with (first
      | (at_builtin; refine list_append_rows (w3.alloc (.cells #[] 28)) rfl (.tmp 22) (.tmp 23) rfl w3.heap.size (.slice (some ⟨w3.heap.size, 0, none⟩) 0 0) [] (by rfl) HE.out A0 c0 R (by rfl) HGR.out HNR.out X1.out (by simp) ?_; intro v1 wa ho1 hb1; rw [List.nil_append] at ho1; have HO1 := Lib.hid ho1; have HB1 := Lib.hid hb1; have HBW1 := Lib.hid (HBd.out.trans (hb1.mono HB3.out.size)); have HGS1 := Lib.hid (HS.out.grid.below HBW1.out); clear ho1 hb1)
      | (at_builtin; refine list_append_rows wa rfl (.tmp 24) (.tmp 25) rfl w3.heap.size v1 R (by rfl) HO1.out A1 c1 S (by rfl) HGS1.out HNS.out X2.out (Nat.le_trans (by simp) HB1.out.size) ?_; intro v2 wb ho2 hb2; rw [HT.out] at ho2; have HB2 := Lib.hid (HBW1.out.trans (hb2.mono HB3.out.size)); have HBv := Lib.hid (HB1.out.trans hb2); obtain ⟨GA, gc, rfl, hg6⟩ := HG5.out wb v2 HB2.out ho2; have HG6 := Lib.hid hg6; clear ho2 hb2 hg6))
  go_loopg [28] T.length (fun g v wx => wb = wx ∧ ∃ i : Nat, i + g = T.length ∧ v = .int .i64 i ∧ ∀ r (h : r < T.length), r < i → ∀ x ∈ T[r].2.2, 0 ≤ x ∧ x < 120)
  case atStart => exact ⟨rfl, 0, by omega, rfl, fun r _ hr => by omega⟩
  case round =>
    obtain ⟨rfl, i, hig, rfl, hall⟩ := hrel
    have Hall := Lib.hid hall
    clear hall
    cases gk with
    | succ n =>
      have hlt : i < T.length := by omega
      have d1 : decide ((i : Int) < T.length) = true := by simp; omega
      obtain ⟨b, off, hA, hb, hcell⟩ := HG6.out.at_.resolve_left (by omega)
      subst hA
      have y0 := (hcell i hlt).1
      have hrow := (hcell i hlt).2.1
      have hnext : (∀ x ∈ T[i].2.2, 0 ≤ x ∧ x < 120) → ∀ r (h : r < T.length), r < i + 1 → ∀ x ∈ T[r].2.2, 0 ≤ x ∧ x < 120 := fun h r hr hri => by
        by_cases e : r = i
        · subst e; exact h
        · exact Hall.out r hr (by omega)
      have hlen := HTe.out T[i] (List.getElem_mem hlt)
      have t1 : (0 : Int) ≤ (i : Int) := by omega
      have t2 : (i : Int) < (T.length : Int) := by omega
      have Hrow := Lib.hid hrow
      have Hnext := Lib.hid hnext
      clear hcell hrow hnext
      generalize T[i] = sk at *
      go_wp2
      go_loopg [34] sk.2.2.length (fun g v wx => wb = wx ∧ ∃ j : Nat, j + g = sk.2.2.length ∧ v = .int .i64 j ∧ ∀ c (h : c < sk.2.2.length), c < j → 0 ≤ sk.2.2[c] ∧ sk.2.2[c] < 120)
      case atStart => exact ⟨rfl, 0, by omega, rfl, fun c _ hc => by omega⟩
      case round =>
        obtain ⟨rfl, j, hjg, rfl, hcs⟩ := hrel
        have Hcs := Lib.hid hcs
        clear hcs
        cases gk with
        | zero =>
          have d2 : decide ((j : Int) < sk.2.2.length) = false := by simp; omega
          have hfin : ∀ x ∈ sk.2.2, 0 ≤ x ∧ x < 120 := fun x hx => by
            obtain ⟨c, hc, rfl⟩ := List.mem_iff_getElem.1 hx
            exact Hcs.out c hc (by omega)
          have Hfin := Lib.hid hfin
          clear hfin
          go_wp2
          go_roundg n
          case measure => omega
          case rel => exact ⟨rfl, i + 1, by omega, by go_num, Hnext.out Hfin.out⟩
        | succ m =>
          have hlt2 : j < sk.2.2.length := by omega
          have d2 : decide ((j : Int) < sk.2.2.length) = true := by simp; omega
          obtain ⟨b2, off2, hA, hb2, hcell2⟩ := Hrow.out.at_.resolve_left (by omega)
          rw [hA] at y0
          have y1 := hcell2 j hlt2
          have t3 : (0 : Int) ≤ (j : Int) := by omega
          have t4 : (j : Int) < (sk.2.2.length : Int) := by omega
          have hnext2 : 0 ≤ sk.2.2[j] ∧ sk.2.2[j] < 120 → ∀ c (h : c < sk.2.2.length), c < j + 1 → 0 ≤ sk.2.2[c] ∧ sk.2.2[c] < 120 := fun h c hc hcj => by
            by_cases e : c = j
            · subst e; exact h
            · exact Hcs.out c hc (by omega)
          have Hnext2 := Lib.hid hnext2
          clear hcell2 hnext2
          have hwk := Lib.hid (wakes_ok wb)
          generalize sk.2.2[j] = x at *
          by_cases g1 : x < 0
          · have d3 : decide (x < (0 : Int)) = true := decide_eq_true g1
            clear g1
            go_wp2_with (go_at_call 8; (with_reducible refine hwk.out.mono ?_); rintro e w9 ⟨rfl, hb9⟩; have HB9 := Lib.hid (below_then HB2.out (Nat.le_refl _) hb9); clear hb9)
            go_ret
            exact ⟨rfl, HB9.out⟩
          have d3 : decide (x < (0 : Int)) = false := decide_eq_false g1
          by_cases g2 : 120 ≤ x
          · have d4 : decide ((120 : Int) ≤ x) = true := decide_eq_true g2
            clear g1 g2
            go_wp2_with (go_at_call 8; (with_reducible refine hwk.out.mono ?_); rintro e w9 ⟨rfl, hb9⟩; have HB9 := Lib.hid (below_then HB2.out (Nat.le_refl _) hb9); clear hb9)
            go_ret
            exact ⟨rfl, HB9.out⟩
          have d4 : decide ((120 : Int) ≤ x) = false := decide_eq_false g2
          have Hx := Lib.hid (show 0 ≤ x ∧ x < 120 from ⟨by omega, by omega⟩)
          clear g1 g2
          go_wp2
          go_roundg m
          case measure => omega
          case rel => exact ⟨rfl, j + 1, by omega, by go_num, Hnext2.out Hx.out⟩
    | zero =>
      have d1 : decide ((i : Int) < T.length) = false := by simp; omega
      have hsr : ∀ c ∈ rowsOf S, ∀ x ∈ c, 0 ≤ x ∧ x < 120 := by
        intro c hc
        obtain ⟨r, hr, rfl⟩ := List.mem_map.1 hc
        have : r ∈ T := by rw [← HT.out]; exact List.mem_append_right _ hr
        obtain ⟨k, hk, rfl⟩ := List.mem_iff_getElem.1 this
        exact Hall.out k hk (by omega)
      have hgR := HR.out.grid.below HB2.out
      have hgS := HS.out.grid.below HB2.out
      have K1 := row_ok c0 c1 hgR hgS (by omega) (by omega) HS.out.max
      have hvr := HVR.out.below (((Below.refl _ w3).alloc (Nat.le_refl _) _).trans HBv.out)
      have hv60 : vals.length = 60 := HV2.out.1
      have K2 := fun W (h : Below wb.heap.size wb W) => holds15_ok c0 60 (hgR.below h) (hvr.below h) HR.out.max
      have K3 := fun W kn (h : Below wb.heap.size wb W) => holds15_ok c1 60 ((hgS.below h).take kn) (hvr.below h) (fun r hr => HS.out.max r (List.mem_of_mem_take hr))
      have K4 := fun W (h : Below wb.heap.size wb W) => refutes_ok c0 c1 (hgR.below h) (hgS.below h) (by omega) (by omega) HS.out.max
      rw [hv60] at K2 K3
      have hnr := fun h => no_refute HV2.out hsr (cs := rowsOf R) h
      have hsl : (rowsOf S).length = S.length := List.length_map _
      have hsnd := fun (kn : Nat) h h1 h2 => row_sound HV2.out (rowsOf R) (rowsOf S) 0 kn (Int.le_refl _) hsr h h1 h2
      have hidx := row_index (rowsOf R) (rowsOf S) 0 (Int.le_refl _)
      rw [hsl] at hidx hsnd
      have Hnr := Lib.hid hnr
      have Hsnd := Lib.hid hsnd
      clear hnr hsnd hsr hgR hgS hvr hv60 hsl Hall
      generalize rowM (rowsOf R) (rowsOf S) 0 = at_ at *
      have hkn : ∃ kn : Nat, kn ≤ S.length ∧ ((at_ = -1 ∧ kn = S.length) ∨ (at_ = kn ∧ kn < S.length)) := by
        rcases hidx with h | h
        · exact ⟨S.length, Nat.le_refl _, .inl ⟨h, rfl⟩⟩
        · exact ⟨at_.toNat, by omega, .inr ⟨by omega, by omega⟩⟩
      obtain ⟨kn, hkl, hkn⟩ := hkn
      have hho : holdsM vals (rowsOf R) = true → holdsM vals (rowsOf (S.take kn)) = true := fun h => by
        rw [rows_take]
        exact Hsnd.out kn h (by intro e; omega) (by intro e; omega)
      have hkt : (S.take kn).length = kn := by rw [List.length_take]; omega
      have K3 := fun W h => K3 W kn h
      rw [hkt] at K3
      have d3 : decide ((S.length : Int) < (kn : Int)) = false := decide_eq_false (by omega)
      have t1 : (0 : Int) ≤ (kn : Int) := by omega
      have t2 : (kn : Int) ≤ (c1 : Int) := by omega
      have hno := Hnr.out
      clear Hnr Hsnd hidx hkt
      cases hl : holdsM vals (rowsOf R) with
      | false =>
        rw [hl] at K2
        clear hho hno hl K3 K4
        rcases hkn with ⟨rfl, rfl⟩ | ⟨rfl, hks⟩
        · go_wp2_with (first
            | (go_at_call 10; (with_reducible refine K1.mono ?_); rintro e w5 ⟨rfl, hb5⟩; have HB5 := Lib.hid hb5; clear hb5)
            | (go_at_call 11; (with_reducible refine (K2 _ HB5.out).mono ?_); rintro e w6 ⟨rfl, rfl⟩)
            | (go_at_call 8; (refine (wakes_ok _).mono ?_); rintro e w9 ⟨rfl, hb9⟩; have HB9 := Lib.hid (below_then HB2.out (Nat.le_refl _) (below_then HB5.out (Nat.le_refl _) hb9)); clear hb9))
          go_ret
          exact ⟨rfl, HB9.out⟩
        · have d4 : decide ((kn : Int) < 0) = false := decide_eq_false (by omega)
          go_wp2_with (first
            | (go_at_call 10; (with_reducible refine K1.mono ?_); rintro e w5 ⟨rfl, hb5⟩; have HB5 := Lib.hid hb5; clear hb5)
            | (go_at_call 11; (with_reducible refine (K2 _ HB5.out).mono ?_); rintro e w6 ⟨rfl, rfl⟩)
            | (go_at_call 8; (refine (wakes_ok _).mono ?_); rintro e w9 ⟨rfl, hb9⟩; have HB9 := Lib.hid (below_then HB2.out (Nat.le_refl _) (below_then HB5.out (Nat.le_refl _) hb9)); clear hb9))
          go_ret
          exact ⟨rfl, HB9.out⟩
      | true =>
        rw [hl] at K2 hho hno
        have hho := hho rfl
        have hno := hno rfl
        rw [hho] at K3
        rw [hno] at K4
        clear hho hno hl
        rcases hkn with ⟨rfl, rfl⟩ | ⟨rfl, hks⟩
        · go_wp2_with (first
            | (go_at_call 10; (with_reducible refine K1.mono ?_); rintro e w5 ⟨rfl, hb5⟩; have HB5 := Lib.hid hb5; clear hb5)
            | (go_at_call 11; (with_reducible refine (K2 _ HB5.out).mono ?_); rintro e w6 ⟨rfl, rfl⟩)
            | (go_at_call 11; (with_reducible refine (K3 _ HB5.out).mono ?_); rintro e w6 ⟨rfl, rfl⟩)
            | (go_at_call 12; (with_reducible refine (K4 _ HB5.out).mono ?_); rintro e w7 ⟨rfl, hb7⟩; have HB5 := Lib.hid (below_then HB5.out (Nat.le_refl _) hb7); clear hb7)
            | (go_at_call 8; (refine (wakes_ok _).mono ?_); rintro e w9 ⟨rfl, hb9⟩; have HB9 := Lib.hid (below_then HB2.out (Nat.le_refl _) (below_then HB5.out (Nat.le_refl _) hb9)); clear hb9))
          go_ret
          exact ⟨rfl, HB9.out⟩
        · have d4 : decide ((kn : Int) < 0) = false := decide_eq_false (by omega)
          go_wp2_with (first
            | (go_at_call 10; (with_reducible refine K1.mono ?_); rintro e w5 ⟨rfl, hb5⟩; have HB5 := Lib.hid hb5; clear hb5)
            | (go_at_call 11; (with_reducible refine (K2 _ HB5.out).mono ?_); rintro e w6 ⟨rfl, rfl⟩)
            | (go_at_call 11; (with_reducible refine (K3 _ HB5.out).mono ?_); rintro e w6 ⟨rfl, rfl⟩)
            | (go_at_call 12; (with_reducible refine (K4 _ HB5.out).mono ?_); rintro e w7 ⟨rfl, hb7⟩; have HB5 := Lib.hid (below_then HB5.out (Nat.le_refl _) hb7); clear hb7)
            | (go_at_call 8; (refine (wakes_ok _).mono ?_); rintro e w9 ⟨rfl, hb9⟩; have HB9 := Lib.hid (below_then HB2.out (Nat.le_refl _) (below_then HB5.out (Nat.le_refl _) hb9)); clear hb9))
          go_ret
          exact ⟨rfl, HB9.out⟩
end Go.Proofs.Ythnakfdiikidaaa

/- UnitsSound's walk. -/
import Derived.Test.YtfkjojogkdlcgaaUnM
namespace Go.Proofs.Ytfkjojogkdlcgaa
open Go.RowKit Go.Lib

set_option maxRecDepth 100000 in
set_option maxHeartbeats 4000000 in
theorem unitsSound_walk (A0 : Option Addr) (l0 c0 : Nat) (A : Nat → Option Addr) (L C : Nat → Nat) (Z : Nat → List Int) (A1 : Option Addr) (l1 c1 : Nat) (z1 : List Int) (A2 : Option Addr) (l2 c2 : Nat) (z2 : List Int) (w : World) (w0 : IsGrid w A0 l0 c0 A L C Z) (w1 : IsRow .i64 w A1 l1 c1 z1) (w2 : IsRow .i8 w A2 l2 c2 z2) :
    Calls Try.prog 3 #[.slice A0 l0 c0, .slice A1 l1 c1, .slice A2 l2 c2] w fun e w' => e = .returned (.bool true) ∧ Below w.heap.size w w' := by
  have W0 := Lib.hid w0
  have W1 := Lib.hid w1
  have hl2 := w2.lenMax
  by_cases h3 : 3000 < l2
  · have d0 : decide ((3000 : Int) < (l2 : Int)) = true := by simp; omega
    clear w0 w1 w2
    go_enter Try.func3, Try.ntmps3
    go_wp2_with (first
      | (go_at_call 10; (with_reducible refine (great16_ok W0.out W1.out).mono ?_); rintro e w1 ⟨bb, rfl, rfl, hbb⟩; have HBB := Lib.hid hbb; clear hbb; cases bb)
      | (go_at_call 11; refine (wakes_ok _).mono ?_; rintro e w2 ⟨rfl, b2⟩))
    all_goals
      go_ret
      exact ⟨rfl, b2⟩
  have d0 : decide ((3000 : Int) < (l2 : Int)) = false := by simp; omega
  obtain ⟨s1, s2, s3, s4⟩ := w2.row (by omega)
  have hl3 : l2 ≤ 3000 := by omega
  generalize z2.take l2 = vals at s1 s2
  subst s1
  have HV := Lib.hid s2
  clear w0 w1 w2 s2 s3 s4 h3 hl2
  go_enter Try.func3, Try.ntmps3
  go_upto_region 3 with (go_at_call 10; (with_reducible refine (great16_ok W0.out W1.out).mono ?_); rintro e w1 ⟨bb, rfl, rfl, hbb⟩; have HBB := Lib.hid hbb; clear hbb; cases bb)
  rotate_left
  · refine (wakes_ok _).mono ?_
    rintro e w2 ⟨rfl, b2⟩
    go_wp2
    go_ret
    exact ⟨rfl, b2⟩
  obtain ⟨R, zs, rfl, rfl, hT⟩ := tame_of W0.out W1.out (HBB.out (by first | rfl | trivial))
  have hr80 := hT.r80
  have hz200 := hT.z200
  have HT := Lib.hid hT
  clear hT HBB W0 W1
  go_wp2
  go_loopg [7] vals.length (fun g v wx => w = wx ∧ ∃ i : Nat, i + g = vals.length ∧ v = .int .i64 i)
  case atStart => exact ⟨rfl, 0, by omega, rfl⟩
  case round =>
    obtain ⟨rfl, i, hig, rfl⟩ := hrel
    cases gk with
    | succ n =>
      have d1 : decide ((i : Int) < vals.length) = true := by simp; omega
      obtain ⟨b, off, hA, hb, hcell⟩ := HV.out.at_.resolve_left (by omega)
      subst hA
      have y0 := hcell i (by omega)
      have t1 : (0 : Int) ≤ (i : Int) := by omega
      have t2 : (i : Int) < (vals.length : Int) := by omega
      clear hcell
      generalize vals[i]'(by omega) = x at *
      by_cases g1 : x < 0
      · have d2 : decide (x < (0 : Int)) = true := decide_eq_true g1
        clear g1
        go_wp2_with (go_at_call 11; refine (wakes_ok _).mono ?_; rintro e w2 ⟨rfl, b2⟩)
        go_ret
        exact ⟨rfl, b2⟩
      have d2 : decide (x < (0 : Int)) = false := decide_eq_false g1
      by_cases g2 : 2 < x
      · have d3 : decide ((2 : Int) < x) = true := decide_eq_true g2
        clear g1 g2
        go_wp2_with (go_at_call 11; refine (wakes_ok _).mono ?_; rintro e w2 ⟨rfl, b2⟩)
        go_ret
        exact ⟨rfl, b2⟩
      have d3 : decide ((2 : Int) < x) = false := decide_eq_false g2
      clear g1 g2
      go_wp2
      go_roundg n
      case measure => omega
      case rel => exact ⟨rfl, i + 1, by omega, by go_num⟩
    | zero =>
      obtain rfl : i = vals.length := by omega
      have d1 : decide ((vals.length : Int) < vals.length) = false := by simp
      have K1 := run_row c0 c1 HT.out.grid HT.out.row HT.out.max
      have hsnd := fun h1 h2 => run_sound (cs := rowsOf R) (given := zs) (vals := vals) hl3 h1 h2
      have hll := (run_lits (rowsOf R) zs).len
      have hlr := fun x hx => (run_lits (rowsOf R) zs).rng x hx
      generalize runM (rowsOf R) zs = res at K1 hsnd hll hlr
      obtain ⟨lits, kk⟩ := res
      simp only at K1 hsnd hll hlr
      have Hsnd := Lib.hid hsnd
      have Hlr := Lib.hid hlr
      clear hsnd hig hlr
      go_wp2_with (go_at_call 12; (with_reducible refine K1.mono ?_); rintro e w1 ⟨B, d, rfl, hr1, hn1, hb1⟩; have HR1 := Lib.hid hr1; have HB1 := Lib.hid hb1; clear hr1 hn1 hb1)
      clear K1
      go_loopw [10] (fun vi wr => ∃ i : Nat, i ≤ R.length ∧ vi = .int .i64 i ∧ Below w1.heap.size w1 wr) (fun vi _ => (R.length - intOf vi).toNat)
      case atStart => exact ⟨0, Nat.zero_le _, rfl, Below.refl _ _⟩
      case round =>
        obtain ⟨i, hi, rfl, hbel⟩ := hrel
        by_cases hlt : i < R.length
        · have d2 : decide ((i : Int) < R.length) = true := by simp; omega
          have HB2 := Lib.hid (below_then HB1.out (Nat.le_refl _) hbel)
          obtain ⟨lb, loff, hA0, hlb, hlc⟩ := (HT.out.grid.below HB2.out).at_.resolve_left (by omega)
          subst hA0
          obtain ⟨z0, hrow, _⟩ := hlc i hlt
          have hr20 := (HT.out.each R[i] (List.getElem_mem hlt)).1
          have Hbel := Lib.hid hbel
          have t1 : (0 : Int) ≤ (i : Int) := by omega
          have t2 : (i : Int) < (R.length : Int) := by omega
          clear hlc hbel
          generalize R[i].1 = ra at *
          generalize R[i].2.1 = rc at *
          generalize R[i].2.2 = rz at *
          have K2 := is15_ok rc hrow (by omega)
          clear hrow hr20
          cases hq : rz == makeM rz with
          | true =>
            rw [hq] at K2
            clear hq
            go_wp2_with (go_at_call 13; (with_reducible refine K2.mono ?_); rintro e w3 ⟨rfl, hb3⟩; have HB3 := Lib.hid (below_then Hbel.out (Nat.le_refl _) hb3); clear hb3)
            go_roundw
            case rel => exact ⟨i + 1, by omega, by go_num, HB3.out⟩
            case measure => simp only [intOf]; omega
          | false =>
            rw [hq] at K2
            clear hq
            go_wp2_with (first
              | (go_at_call 13; (with_reducible refine K2.mono ?_); rintro e w3 ⟨rfl, hb3⟩; have HB3 := Lib.hid (below_then HB2.out (Nat.le_refl _) hb3); clear hb3)
              | (go_at_call 11; refine (wakes_ok _).mono ?_; rintro e w4 ⟨rfl, b4⟩; have HB4 := Lib.hid (below_then HB3.out (Nat.le_refl _) b4); clear b4))
            go_ret
            exact ⟨rfl, HB4.out⟩
        · obtain rfl : i = R.length := by omega
          have d2 : decide ((R.length : Int) < R.length) = false := by simp
          obtain ⟨wo, rfl⟩ : ∃ wo : World, wo = wr := ⟨_, rfl⟩
          have HB2 := Lib.hid (below_then HB1.out (Nat.le_refl _) hbel)
          have HVo := Lib.hid (HV.out.below HB2.out)
          have HGo := Lib.hid (HT.out.grid.below HB2.out)
          have HZo := Lib.hid (HT.out.row.below HB2.out)
          have HRo := Lib.hid (HR1.out.below hbel)
          have hzm := HT.out.max
          have hgm := fun r hr (x : Int) hx => (show x ≤ 9223372036854775807 by have := (HT.out.each r hr).2 x hx; omega)
          have K5 := holds15_ok c0 c2 HGo.out HVo.out hgm
          have Hzm := Lib.hid hzm
          clear hbel hlt hi hzm hgm
          go_wp2
          go_loopg [11] zs.length (fun g v wx => wo = wx ∧ ∃ i : Nat, i + g = zs.length ∧ v = .int .i64 i ∧ ∀ x ∈ zs.take i, 0 ≤ x → valM vals x = 1)
          case atStart => exact ⟨rfl, 0, by omega, rfl, fun x hx => by cases hx⟩
          case round =>
            obtain ⟨rfl, i, hig, rfl, hgs⟩ := hrel
            have Hgs := Lib.hid hgs
            clear hgs
            cases gk with
            | succ n =>
              have hlt : i < zs.length := by omega
              have d3 : decide ((i : Int) < zs.length) = true := by simp; omega
              obtain ⟨b, off, hA, hb, hcell⟩ := HZo.out.at_.resolve_left (by omega)
              subst hA
              have y0 := hcell i hlt
              have Htk := Lib.hid (List.take_succ_eq_append_getElem hlt)
              have hx := Hzm.out zs[i] (List.getElem_mem hlt)
              have t1 : (0 : Int) ≤ (i : Int) := by omega
              have t2 : (i : Int) < (zs.length : Int) := by omega
              clear hcell
              generalize zs[i] = x at *
              have Hst := Lib.hid (fun (h : 0 ≤ x → valM vals x = 1) y (hy : y ∈ zs.take (i + 1)) (h0 : 0 ≤ y) => (show valM vals y = 1 from by
                rw [Htk.out] at hy
                rcases List.mem_append.1 hy with hy | hy
                · exact Hgs.out y hy h0
                · rw [List.mem_singleton.1 hy] at h0 ⊢; exact h h0))
              have Kv := val15_ok c2 HVo.out x hx
              by_cases g1 : 0 ≤ x
              · have d4 : decide ((0 : Int) ≤ x) = true := decide_eq_true g1
                generalize hv : valM vals x = v at Kv Hst
                by_cases g2 : v = 1
                · subst g2
                  have Hst2 := Lib.hid (Hst.out fun _ => rfl)
                  clear g1 hv
                  go_wp2_with (go_at_call 14; (with_reducible refine Kv.mono ?_); rintro e w3 ⟨rfl, rfl⟩)
                  go_roundg n
                  case measure => omega
                  case rel => exact ⟨rfl, i + 1, by omega, by go_num, Hst2.out⟩
                · have b2 : (v != 1) = true := by simpa using g2
                  clear g1 g2 hv
                  go_wp2_with (first
                    | (go_at_call 14; (with_reducible refine Kv.mono ?_); rintro e w3 ⟨rfl, rfl⟩)
                    | (go_at_call 11; refine (wakes_ok _).mono ?_; rintro e w4 ⟨rfl, b4⟩; have HB4 := Lib.hid (below_then HB2.out (Nat.le_refl _) b4); clear b4))
                  go_ret
                  exact ⟨rfl, HB4.out⟩
              · have d4 : decide ((0 : Int) ≤ x) = false := decide_eq_false g1
                have Hst2 := Lib.hid (Hst.out fun h => absurd h g1)
                clear g1
                go_wp2
                go_roundg n
                case measure => omega
                case rel => exact ⟨rfl, i + 1, by omega, by go_num, Hst2.out⟩
            | zero =>
              obtain rfl : i = zs.length := by omega
              have d3 : decide ((zs.length : Int) < zs.length) = false := by simp
              have hgs := Hgs.out
              rw [List.take_length] at hgs
              have hsn := Hsnd.out hgs
              generalize holdsM vals (rowsOf R) = hh at K5 hsn
              clear hgs
              cases hh with
              | false =>
                clear hsn
                go_wp2_with (first
                  | (go_at_call 15; (with_reducible refine K5.mono ?_); rintro e w3 ⟨rfl, rfl⟩)
                  | (go_at_call 11; refine (wakes_ok _).mono ?_; rintro e w4 ⟨rfl, b4⟩; have HB4 := Lib.hid (below_then HB2.out (Nat.le_refl _) b4); clear b4))
                go_ret
                exact ⟨rfl, HB4.out⟩
              | true =>
                obtain ⟨hs1, rfl⟩ := hsn rfl
                have Hs1 := Lib.hid hs1
                clear hsn hs1
                go_wp2_with (go_at_call 15; (with_reducible refine K5.mono ?_); rintro e w3 ⟨rfl, rfl⟩)
                go_loopg [12] lits.length (fun g v wx => wo = wx ∧ ∃ i : Nat, i + g = lits.length ∧ v = .int .i64 i)
                case atStart => exact ⟨rfl, 0, by omega, rfl⟩
                case round =>
                  obtain ⟨rfl, i, hig, rfl⟩ := hrel
                  cases gk with
                  | succ n =>
                    have hlt : i < lits.length := by omega
                    have d5 : decide ((i : Int) < lits.length) = true := by simp; omega
                    obtain ⟨b, off, hA, hb, hcell⟩ := HRo.out.at_.resolve_left (by omega)
                    subst hA
                    have y0 := hcell i hlt
                    have hx := Hlr.out lits[i] (List.getElem_mem hlt)
                    have hv := Hs1.out lits[i] (List.getElem_mem hlt)
                    have t1 : (0 : Int) ≤ (i : Int) := by omega
                    have t2 : (i : Int) < (lits.length : Int) := by omega
                    clear hcell
                    generalize lits[i] = x at *
                    have Kv := val15_ok c2 HVo.out x (by omega)
                    rw [hv] at Kv
                    clear hv hx
                    go_wp2_with (go_at_call 14; (with_reducible refine Kv.mono ?_); rintro e w3 ⟨rfl, rfl⟩)
                    go_roundg n
                    case measure => omega
                    case rel => exact ⟨rfl, i + 1, by omega, by go_num⟩
                  | zero =>
                    obtain rfl : i = lits.length := by omega
                    have d5 : decide ((lits.length : Int) < lits.length) = false := by simp
                    go_wp2_with (go_at_call 11; refine (wakes_ok _).mono ?_; rintro e w4 ⟨rfl, b4⟩; have HB4 := Lib.hid (below_then HB2.out (Nat.le_refl _) b4); clear b4)
                    go_ret
                    exact ⟨rfl, HB4.out⟩
end Go.Proofs.Ytfkjojogkdlcgaa

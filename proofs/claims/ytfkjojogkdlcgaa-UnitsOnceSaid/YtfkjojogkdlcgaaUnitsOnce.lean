/- UnitsOnce's walk. -/
import Derived.Test.YtfkjojogkdlcgaaUnI
import Derived.Deep.RegionHeld3
namespace Go.Proofs.Ytfkjojogkdlcgaa
open Go.RowKit Go.Lib

set_option maxRecDepth 100000 in
set_option maxHeartbeats 4000000 in
theorem unitsOnce_walk (A0 : Option Addr) (l0 c0 : Nat) (A : Nat → Option Addr) (L C : Nat → Nat) (Z : Nat → List Int) (A1 : Option Addr) (l1 c1 : Nat) (z1 : List Int) (w : World) (w0 : IsGrid w A0 l0 c0 A L C Z) (w1 : IsRow .i64 w A1 l1 c1 z1) :
    Calls Try.prog 6 #[.slice A0 l0 c0, .slice A1 l1 c1] w fun e w' => e = .returned (.bool true) ∧ Below w.heap.size w w' := by
  have W0 := Lib.hid w0
  have W1 := Lib.hid w1
  clear w0 w1
  go_enter Try.func6, Try.ntmps6
  go_upto_region 3 with (go_at_call 10; (with_reducible refine (great16_ok W0.out W1.out).mono ?_); rintro e w1 ⟨bb, rfl, rfl, hbb⟩; have HBB := Lib.hid hbb; clear hbb; cases bb)
  rotate_left
  · refine (wakes_ok _).mono ?_
    rintro e w2 ⟨rfl, b2⟩
    go_wp2
    go_ret
    exact ⟨rfl, b2⟩
  obtain ⟨R, zs, rfl, rfl, hT⟩ := tame_of W0.out W1.out (HBB.out (by first | rfl | trivial))
  have K1 := run_row c0 c1 hT.grid hT.row hT.max
  have hfrom := run_from (rowsOf R) zs
  have hok := run_lits (rowsOf R) zs
  generalize runM (rowsOf R) zs = res at K1 hfrom hok
  obtain ⟨lits, kk⟩ := res
  simp only at K1 hfrom hok
  have HT := Lib.hid hT
  have Hfrom := Lib.hid hfrom
  have Hok := Lib.hid hok
  have hll := hok.len
  have hr80 := hT.r80
  clear hT hfrom hok HBB W0 W1
  go_wp2_with (go_at_call 12; (with_reducible refine K1.mono ?_); rintro e w1 ⟨B, d, rfl, hr1, hn1, hb1⟩; have HR1 := Lib.hid hr1; have HB1 := Lib.hid hb1; clear hr1 hn1 hb1)
  clear K1
  go_loopw [7] (fun vi wr => ∃ i : Nat, i ≤ lits.length ∧ vi = .int .i64 i ∧ Below w1.heap.size w1 wr) (fun vi _ => (lits.length - intOf vi).toNat)
  case atStart => exact ⟨0, Nat.zero_le _, rfl, Below.refl _ _⟩
  case round =>
    obtain ⟨i, hi, rfl, hbel⟩ := hrel
    by_cases hlt : i < lits.length
    · have d1 : decide ((i : Int) < lits.length) = true := by simp; omega
      obtain ⟨b, off, hA, hb, hcell⟩ := HR1.out.at_.resolve_left (by omega)
      subst hA
      have hcr : ∀ j (h : j < lits.length) (W : World), Below w1.heap.size w1 W → W.cell? ⟨b, off + j, none⟩ = some (.int .i64 lits[j]) := fun j h W hW => (hW.cell (p := ⟨b, off + j, none⟩) hb).trans (hcell j h)
      have Hcr := Lib.hid hcr
      have y0 := hcr i hlt wr hbel
      have Hcx := Lib.hid (hcr i hlt)
      have hxr := Hok.out.rng lits[i] (List.getElem_mem hlt)
      have hxf := Hfrom.out lits[i] (List.getElem_mem hlt)
      have Hdis := Lib.hid (fun k (hk : k < i) => List.pairwise_iff_getElem.1 Hok.out.dis k i (by omega) hlt hk)
      have Hbel := Lib.hid hbel
      have Hxf := Lib.hid hxf
      have t1 : (0 : Int) ≤ (i : Int) := by omega
      have t2 : (i : Int) < (lits.length : Int) := by omega
      clear hcell hcr hbel hxf
      generalize lits[i] = x at *
      go_wp2
      go_loopw [8] (fun vk wy => ∃ k q : Nat, k ≤ i ∧ vk = .int .i64 k ∧ wy = wr.drewN q) (fun vk _ => (i - intOf vk).toNat)
      case atStart => exact ⟨0, 0, Nat.zero_le _, rfl, rfl⟩
      case round =>
        obtain ⟨k, q, hk, rfl, rfl⟩ := hrel
        by_cases hkl : k < i
        · have d2 : decide ((k : Int) < i) = true := by simp; omega
          have y1 := Hcr.out k (by omega) wr Hbel.out
          have hyr := Hok.out.rng (lits[k]'(by omega)) (List.getElem_mem _)
          have hne := Hdis.out k hkl
          generalize lits[k]'(by omega) = y at *
          have b1 : (x / 2 == y / 2) = false := beq_eq_false_iff_ne.2 fun e => hne e.symm
          have t3 : (0 : Int) ≤ (k : Int) := by omega
          have t4 : (k : Int) < (lits.length : Int) := by omega
          have x0 := hxr.1
          have x1 := hyr.1
          clear hne
          go_wp2
          go_quiet (fail)
          go_wp2
          go_roundw
          case rel => exact ⟨k + 1, _, by omega, by go_num, rfl⟩
          case measure => simp only [intOf]; omega
        · obtain rfl : k = i := by omega
          have d2 : decide ((k : Int) < k) = false := by simp
          have hW : Below w1.heap.size w1 ((wr.drewN q).alloc (.cells #[.int .i64 x] 3)) := (below_drewN Hbel.out q).alloc Hbel.out.size _
          have hone : Row .i64 ((wr.drewN q).alloc (.cells #[.int .i64 x] 3)) (some ⟨wr.heap.size, 0, none⟩) [x] := one_row (wr.drewN q) x
          have Kg := within15_ok 1 c1 hone ((HT.out.row.below HB1.out).below hW)
          rw [show ([x].all fun x => decide (x ∈ zs)) = decide (x ∈ zs) by simp, show ([x] : List Int).length = 1 from rfl] at Kg
          have HW := Lib.hid hW
          have HG := Lib.hid (HT.out.grid.below HB1.out)
          generalize hF0 : decide (x ∈ zs) = f0 at Kg
          have HF0 := Lib.hid hF0
          clear hW hF0 hone
          go_wp2_with (go_at_call 18; (with_reducible refine Kg.mono ?_); rintro e w2 ⟨rfl, rfl⟩)
          clear Kg
          go_loopw [10, 9] (fun vj vf wy => ∃ j : Nat, j ≤ R.length ∧ vj = .int .i64 j ∧ vf = .bool (f0 || ((rowsOf R).take j).any fun c => decide (x ∈ c)) ∧ Below w1.heap.size w1 wy) (fun vj _ _ => (R.length - intOf vj).toNat)
          case atStart => exact ⟨0, Nat.zero_le _, rfl, by simp, HW.out⟩
          case round =>
            obtain ⟨j, hj, rfl, rfl, hby⟩ := hrel
            by_cases hjl : j < R.length
            · have d4 : decide ((j : Int) < R.length) = true := by simp; omega
              obtain ⟨lb, loff, hA0, hlb, hlc⟩ := (HG.out.below hby).at_.resolve_left (by omega)
              subst hA0
              obtain ⟨z0, hrow, _⟩ := hlc j hjl
              have hst : (f0 || ((rowsOf R).take (j + 1)).any fun c => decide (x ∈ c)) = ((f0 || ((rowsOf R).take j).any fun c => decide (x ∈ c)) || decide (x ∈ R[j].2.2)) := by
                have e1 : (rowsOf R).take (j + 1) = (rowsOf R).take j ++ [R[j].2.2] := by
                  have hj2 : j < (rowsOf R).length := by unfold rowsOf; rw [List.length_map]; exact hjl
                  rw [List.take_succ_eq_append_getElem hj2]
                  simp [rowsOf]
                rw [e1, List.any_append]
                simp [Bool.or_assoc]
              have Hst := Lib.hid hst
              have Hrow := Lib.hid hrow
              have x0 := Hcx.out _ hby
              clear hlc hst hrow
              generalize R[j].1 = ra at *
              generalize R[j].2.1 = rc at *
              generalize R[j].2.2 = rz at *
              generalize hF : (f0 || ((rowsOf R).take j).any fun c => decide (x ∈ c)) = f at *
              have Hby := Lib.hid hby
              have t5 : (0 : Int) ≤ (j : Int) := by omega
              have t6 : (j : Int) < (R.length : Int) := by omega
              cases f with
              | true =>
                clear hF hby x0 z0
                go_wp2
                go_quiet (fail)
                go_wp2
                go_roundw
                case rel => exact ⟨j + 1, by omega, by go_num, by rw [Hst.out]; rfl, below_drewN Hby.out _⟩
                case measure => simp only [intOf]; omega
              | false =>
                clear hF hby
                rw [Bool.false_or] at Hst
                have hone : Row .i64 (wr.drew.alloc (.cells #[.int .i64 x] 3)) (some ⟨wr.heap.size, 0, none⟩) [x] := one_row wr.drew x
                have hW : Below wr.heap.size wr (wr.drew.alloc (.cells #[.int .i64 x] 3)) := (show Below wr.heap.size wr wr.drew from below_drewN (Below.refl _ wr) 1).alloc (Nat.le_refl _) _
                have Kg2 := within15_ok 1 rc hone (Hrow.out.below hW)
                rw [show ([x].all fun x => decide (x ∈ rz)) = decide (x ∈ rz) by simp, show ([x] : List Int).length = 1 from rfl] at Kg2
                have HW2 := Lib.hid (Hby.out.trans (hW.mono Hby.out.size))
                generalize hF2 : decide (x ∈ rz) = f2 at Kg2 Hst
                clear hW hone hF2
                go_wp2
                go_region_held3 (fun w' => w'.cell? ⟨b, off + k, none⟩ = some (.int .i64 x) ∧ w'.cell? ⟨lb, loff + j, none⟩ = some (.slice ra rz.length rc)) (go_keep)
                  ((go_at_call 18; refine Kg2.mono ?_; rintro e w2 ⟨rfl, rfl⟩))
                go_wp2
                go_roundw
                case rel => exact ⟨j + 1, by omega, by go_num, by rw [Hst.out], HW2.out⟩
                case measure => simp only [intOf]; omega
            · obtain rfl : j = R.length := by omega
              have d4 : decide ((R.length : Int) < R.length) = false := by simp
              have hft : (f0 || ((rowsOf R).take R.length).any fun c => decide (x ∈ c)) = true := by
                rw [List.take_of_length_le (by unfold rowsOf; rw [List.length_map]; exact Nat.le_refl _), ← HF0.out]
                rcases Hxf.out with h | ⟨c, hc, h⟩
                · simp [h]
                · rw [Bool.or_eq_true]
                  exact .inr (List.any_eq_true.2 ⟨c, hc, by simp [h]⟩)
              have Hft := Lib.hid hft
              have Hby := Lib.hid hby
              have x0 := Hcx.out _ hby
              have d5 : decide (x < (0 : Int)) = false := by simp; exact hxr.1
              rw [hft]
              clear hft hby
              go_wp2
              go_roundw
              case rel => exact ⟨k + 1, by omega, by go_num, Hby.out⟩
              case measure => simp only [intOf]; omega
    · obtain rfl : i = lits.length := by omega
      have d1 : decide ((lits.length : Int) < lits.length) = false := by simp
      have HB2 := Lib.hid (below_then HB1.out (Nat.le_refl _) hbel)
      clear hbel
      go_wp2_with (go_at_call 11; refine (wakes_ok _).mono ?_; rintro e w2 ⟨rfl, b2⟩)
      go_ret
      exact ⟨rfl, below_then HB2.out (Nat.le_refl _) b2⟩
end Go.Proofs.Ytfkjojogkdlcgaa

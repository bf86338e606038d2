/- UnitsRun's walk. -/
import Derived.Test.YtfkjojogkdlcgaaUnZa
import Derived.Test.YtfkjojogkdlcgaaUnY
namespace Go.Proofs.Ytfkjojogkdlcgaa
open Go.RowKit Go.Lib

set_option maxRecDepth 100000 in
set_option maxHeartbeats 4000000 in
theorem unitsRun_walk (A0 : Option Addr) (l0 c0 : Nat) (A : Nat → Option Addr) (L C : Nat → Nat) (Z : Nat → List Int) (A1 : Option Addr) (l1 c1 : Nat) (z1 : List Int) (w : World) (w0 : IsGrid w A0 l0 c0 A L C Z) (w1 : IsRow .i64 w A1 l1 c1 z1) :
    Calls Try.prog 9 #[.slice A0 l0 c0, .slice A1 l1 c1] w fun e w' => e = .returned (.bool true) ∧ Below w.heap.size w w' := by
  have W0 := Lib.hid w0
  have W1 := Lib.hid w1
  clear w0 w1
  go_enter Try.func9, Try.ntmps9
  go_upto_region 3 with (go_at_call 10; (with_reducible refine (great16_ok W0.out W1.out).mono ?_); rintro e w1 ⟨bb, rfl, rfl, hbb⟩; have HBB := Lib.hid hbb; clear hbb; cases bb)
  rotate_left
  · refine (wakes_ok _).mono ?_
    rintro e w2 ⟨rfl, b2⟩
    go_wp2
    go_ret
    exact ⟨rfl, b2⟩
  obtain ⟨R, zs, rfl, rfl, hT⟩ := tame_of W0.out W1.out (HBB.out (by first | rfl | trivial))
  have hr80 := hT.r80
  have hz200 := hT.z200
  have hr1000 : R.length ≤ 1000 := by omega
  obtain ⟨e1, e2⟩ := hT.each2
  have K1 := run_row c0 c1 hT.grid hT.row hT.max
  have K2 := fun W (h : Below w.heap.size w W) => run16_row c0 c1 (hT.grid.below h) hr1000 e1 e2 (hT.row.below h) hT.max
  have hok := run_lits (rowsOf R) zs
  generalize runM (rowsOf R) zs = res at K1 K2 hok
  obtain ⟨lits, kk⟩ := res
  simp only at K1 K2 hok
  have Hok := Lib.hid hok
  have hll := hok.len
  have HT := Lib.hid hT
  clear hT hok e1 e2 HBB W0 W1
  go_upto_region 5 with (first
    | (go_at_call 12; (with_reducible refine K1.mono ?_); rintro e w1 ⟨B1, d1, rfl, hr1, hn1, hb1⟩; have HR1 := Lib.hid hr1; have HB1 := Lib.hid hb1; clear hr1 hn1 hb1)
    | (go_at_call 23; (with_reducible refine (K2 _ HB1.out).mono ?_); rintro e w2 ⟨B2, d2, rfl, hr2, hn2, hb2⟩; have HR2 := Lib.hid hr2; have HB2 := Lib.hid (below_then HB1.out (Nat.le_refl _) hb2); have HR1b := Lib.hid (HR1.out.below hb2); clear hr2 hn2 hb2))
  have K3 := same16_ok d1 d2 HR1b.out HR2.out
  rw [show (lits == lits) = true by simp] at K3
  have hlm : ∀ x ∈ lits, x ≤ 9223372036854775807 := fun x hx => by have := Hok.out.rng x hx; omega
  have K4 := fun W (h : Below w2.heap.size w2 W) => values_ok d2 (HR2.out.below h)
  have K5 := fun W (h : Below w2.heap.size w2 W) => values16_ok d2 (HR2.out.below h) hlm
  have K6 := fun W (h : Below w2.heap.size w2 W) => values_ok c1 ((HT.out.row.below HB2.out).below h)
  have K7 := fun W (h : Below w2.heap.size w2 W) => values16_ok c1 ((HT.out.row.below HB2.out).below h) HT.out.max
  have b0 : (kk != kk) = false := by simp
  have hnl1 := nodes_small (puts_ok lits [] LitsOk.nil)
  have hnl2 := nodes_small (puts_ok zs [] LitsOk.nil)
  have hpz := puts_ok zs [] LitsOk.nil
  generalize hN1 : nodesLen (putsM lits []) = N1 at K4 K5 hnl1
  generalize hN2 : nodesLen (putsM zs []) = N2 at K6 K7 hnl2
  generalize putsM zs [] = P2 at K6 K7 hpz hN2
  generalize putsM lits [] = P1 at K4 K5 hN1
  have b1 : ((N1 : Int) != N1) = false := by simp
  have b2 : ((N2 : Int) != N2) = false := by simp
  have Hpz := Lib.hid hpz
  clear K1 K2 hpz hN1 hN2 hlm
  go_upto_region 7 with (first
    | (go_at_call 17; (with_reducible refine K3.mono ?_); rintro e w3 ⟨rfl, n3, rfl⟩; have HB3 := Lib.hid (show Below w2.heap.size w2 (w2.drewN n3) from below_drewN (Below.refl _ _) n3))
    | (go_at_call 24; (with_reducible refine (K4 _ HB3.out).mono ?_); rintro e w4 ⟨VA, VT, rfl, _, _, _, hb4⟩; have HB4 := Lib.hid (below_then HB3.out (Nat.le_refl _) hb4); clear hb4)
    | (go_at_call 16; (with_reducible refine (K5 _ HB4.out).mono ?_); rintro e w5 ⟨va, AA, rfl, hP⟩; obtain ⟨ad, ac, rfl, _⟩ := hP.av.row (by rw [hP.len]; omega); rw [hP.len]; have HB5 := Lib.hid (below_then HB4.out (Nat.le_refl _) hP.bel); clear hP))
  clear K3 K4 K5
  go_upto_region 10 with (first
    | (go_at_call 24; (with_reducible refine (K6 _ HB5.out).mono ?_); rintro e w6 ⟨VB, T, rfl, hTl, hTr, hTrep, hb6⟩; have HTl := Lib.hid hTl; have HTr := Lib.hid hTr; have HTrep := Lib.hid hTrep; have HB6 := Lib.hid (below_then HB5.out (Nat.le_refl _) hb6); clear hTl hTr hTrep hb6)
    | (go_at_call 16; (with_reducible refine (K7 _ HB6.out).mono ?_); rintro e w7 ⟨vb, AB, rfl, hP⟩; obtain ⟨bd, bc, rfl, hbr⟩ := hP.av.row (by rw [hP.len]; omega); have hTA : AB = T := rep_ext hP.rep HTrep.out (by rw [hP.len, HTl.out]); subst hTA; rw [hP.len]; have HBr := Lib.hid hbr; have HTr7 := Lib.hid (HTr.out.below hP.bel); have HB7 := Lib.hid (below_then HB2.out (Nat.le_refl _) (below_then HB6.out (Nat.le_refl _) hP.bel)); clear hP hbr))
  clear K6 K7
  go_wp2
  go_loopw [11] (fun vi wr => ∃ i q : Nat, i ≤ N2 ∧ vi = .int .i64 i ∧ wr = w7.drewN q) (fun vi _ => (N2 - intOf vi).toNat)
  case atStart => exact ⟨0, 0, Nat.zero_le _, rfl, rfl⟩
  case round =>
    obtain ⟨i, q, hi, rfl, rfl⟩ := hrel
    by_cases hlt : i < N2
    · have d5 : decide ((i : Int) < N2) = true := by simp; omega
      have hlA : i < AB.length := by rw [HTl.out]; exact hlt
      obtain ⟨b, off, hA, hb, hcell⟩ := HTr7.out.at_.resolve_left (by omega)
      obtain ⟨b2', off2, hA2, hb2', hcell2⟩ := HBr.out.at_.resolve_left (by omega)
      subst hA hA2
      have y0 := hcell i hlA
      have y1 := hcell2 i hlA
      have t1 : (0 : Int) ≤ (i : Int) := by omega
      have t2 : (i : Int) < (N2 : Int) := by omega
      clear hcell hcell2
      generalize AB[i] = x at y0 y1
      have b3 : (x != x) = false := by simp
      go_wp2
      go_quiet (fail)
      go_wp2
      go_roundw
      case rel => exact ⟨i + 1, _, by omega, by go_num, rfl⟩
      case measure => simp only [intOf]; omega
    · obtain rfl : i = N2 := by omega
      have d5 : decide ((i : Int) < i) = false := by simp
      have HB8 := Lib.hid (show Below w.heap.size w (w7.drewN q) from below_drewN HB7.out q)
      go_wp2_with (go_at_call 11; refine (wakes_ok _).mono ?_; rintro e w9 ⟨rfl, b9⟩; have HB9 := Lib.hid (below_then HB8.out (Nat.le_refl _) b9); clear b9)
      go_ret
      exact ⟨rfl, HB9.out⟩
end Go.Proofs.Ytfkjojogkdlcgaa

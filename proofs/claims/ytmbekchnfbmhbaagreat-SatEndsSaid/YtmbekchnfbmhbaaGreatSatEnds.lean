/- SatEnds's walk. -/
import Derived.Test.YtmbekchnfbmhbaaGreatSrU
namespace Go.Proofs.YtmbekchnfbmhbaaGreat
open Go.RowKit Go.Lib

set_option maxRecDepth 100000 in
set_option maxHeartbeats 8000000 in
theorem satEnds_walk (a0 : Int) (A1 : Option Addr) (l1 c1 : Nat) (A : Nat → Option Addr) (L C : Nat → Nat) (Z : Nat → List Int) (A2 : Option Addr) (l2 c2 : Nat) (z2 : List Int) (w : World) (w0 : (Lit.int .i64 a0).wf = true) (w1 : IsGrid w A1 l1 c1 A L C Z) (w2 : IsRow .i64 w A2 l2 c2 z2) :
    Calls Tryz.prog 4 #[.int .i64 a0, .slice A1 l1 c1, .slice A2 l2 c2] w fun e w' => e = .returned (.bool true) ∧ Below w.heap.size w w' := by
  have W1 := Lib.hid w1
  have W2 := Lib.hid w2
  have hl2 := w2.lenMax
  clear w1 w2 w0
  go_enter Tryz.func4, Tryz.ntmps4
  go_upto_region 3 with (first
    | (go_at_call 7; (with_reducible refine (great15_ok W1.out).mono ?_); rintro e w1 ⟨bb, rfl, rfl, hbb⟩; have HB0 := Lib.hid hbb; clear hbb; cases bb)
    | (go_at_call 10; obtain ⟨R, rfl, hR⟩ := tameG W1.out (HB0.out rfl); have HR := Lib.hid hR; (with_reducible refine (may21_ok c1 HR.out.grid (fun r hr => by have := (HR.out.each r hr).1; omega)).mono ?_); rintro e w2 ⟨rfl, hb2⟩; have HB2 := Lib.hid hb2; clear hb2 hR; generalize hmm : mayB a0 R 0 = mm; have HMM := Lib.hid hmm; clear hmm; cases mm)
    | (go_at_call 8; (with_reducible refine (wakes_ok _).mono ?_); rintro e w9 ⟨rfl, hb9⟩; (first | have HB9 := Lib.hid (show Below w.heap.size w w9 from hb9) | have HB9 := Lib.hid (below_then HB2.out (Nat.le_refl _) hb9)); clear hb9))
  all_goals try (go_ret; exact ⟨rfl, HB9.out⟩)
  have h5 : a0 ≤ 8 := by assumption
  have h6 : (l2 : Int) ≤ 50 := by assumption
  obtain ⟨q1, q2, q3, q4⟩ := may_range HMM.out
  obtain ⟨n, rfl⟩ := Int.eq_ofNat_of_zero_le q1
  have hn8 : n ≤ 8 := by omega
  obtain ⟨s1, s2, s3, _⟩ := W2.out.row (by omega)
  have hsc : (z2.take l2).length ≤ c2 := by
    rw [s1]
    rcases W2.out with ⟨_, e, _, _⟩ | ⟨_, _, e, _⟩
    · omega
    · exact e
  have hgr := HR.out.grid.below HB2.out
  have hr80 := HR.out.r80
  have K1 := solve_bound (cl := c1) hgr (s2.below HB2.out) s3 hsc hn8 HMM.out (by omega)
  rw [s1] at K1
  have hcl := may_cl (budget := 0) HMM.out
  have HCL := Lib.hid hcl
  have H3 := pow_small (Nat.le_refl n) hn8
  have K2 := bound_any (w := w2) hn8
  clear s1 s2 s3 hsc hgr hr80 hcl q1 q2 q3 q4
  go_upto_region 4 with (first
    | (go_at_call 12; (with_reducible refine K2.mono ?_); rintro e w3 ⟨rfl, rfl⟩)
    | (go_at_call 9; (with_reducible refine K1.mono ?_); rintro e w1 ⟨v, rfl, ht, hp⟩; obtain ⟨k, VA, vm, vc, QA, qc, m, rfl, hmb⟩ := hp.steps; have HP := Lib.hid hp; have HT := Lib.hid ht; clear hp ht))
  have q1 := boxed w1 (.int .i8 k) (.slice VA vm vc) (.slice QA m qc)
  have KR := Lib.hid (fun W (hW : Below w1.heap.size w1 W) => right_ok c1 ((HR.out.grid.below HB2.out).below HP.out.1) HR.out.nil (by omega) HCL.out (by have := HR.out.r80; omega) (by omega) HP.out hW)
  have HB1 := Lib.hid (below_then HB2.out (Nat.le_refl _) HP.out.1)
  have HB3 := Lib.hid (below_then HB1.out (Nat.le_refl _) q1.1)
  have HB4 := Lib.hid q1.1
  have HX := Lib.hid q1.2
  clear q1 K1
  generalize w1.alloc (.cells #[.int .i8 k, .slice VA vm vc, .slice QA m qc] 29) = W1 at *
  have K3 := brute_ok c1 hn8 (HR.out.grid.below HB3.out) HR.out.max
  go_upto_region 5 with (go_at_call 13; (with_reducible refine K3.mono ?_); rintro e w4 ⟨BA, bm, b, rfl, hbr, hb4⟩; have HBR := Lib.hid hbr; have HB5 := Lib.hid hb4; clear hbr hb4)
  have x0 : ∀ W, Below W1.heap.size W1 W → W.cell? ⟨w1.heap.size, 0, none⟩ = some (.int .i8 k) ∧ W.cell? ⟨w1.heap.size, 1, none⟩ = some (.slice VA vm vc) ∧ W.cell? ⟨w1.heap.size, 2, none⟩ = some (.slice QA m qc) := fun W hW => by
    have h := HX.out.below hW HX.out.lt
    exact ⟨h.cell 0, h.cell 1, h.cell 2⟩
  have X0 := Lib.hid x0
  have x1 := x0 _ HB5.out
  have x2 := x1.1
  have x3 := x1.2.1
  have x4 := x1.2.2
  have hkb : (k = 0 ∧ b = true) ∨ (k = 1 ∧ b = false) := by
    rcases HT.out.kind with ⟨e, h⟩ | ⟨e, h⟩
    · exact .inl ⟨e, HBR.out.eq h⟩
    · exact .inr ⟨e, HBR.out.eq h⟩
  clear x0 x1 K3 K2 HT
  rcases hkb with ⟨rfl, rfl⟩ | ⟨rfl, rfl⟩
  · go_wp2_with (first
      | (go_at_call 11; (with_reducible refine (KR.out _ (below_then HB4.out (Nat.le_refl _) HB5.out)).mono ?_); rintro e w3 ⟨rfl, hb3⟩; have HB6 := Lib.hid (below_then HB5.out (Nat.le_refl _) hb3); clear hb3 x2 x3 x4; have x1 := X0.out _ HB6.out; have x2 := x1.1; have x3 := x1.2.1; have x4 := x1.2.2; clear x1)
      | (go_at_call 8; (with_reducible refine (wakes_ok _).mono ?_); rintro e w9 ⟨rfl, hb9⟩; have HB9 := Lib.hid (below_then HB3.out (Nat.le_refl _) (below_then HB6.out (Nat.le_refl _) hb9)); clear hb9))
    go_ret
    exact ⟨rfl, HB9.out⟩
  · go_wp2_with (first
      | (go_at_call 11; (with_reducible refine (KR.out _ (below_then HB4.out (Nat.le_refl _) HB5.out)).mono ?_); rintro e w3 ⟨rfl, hb3⟩; have HB6 := Lib.hid (below_then HB5.out (Nat.le_refl _) hb3); clear hb3 x2 x3 x4; have x1 := X0.out _ HB6.out; have x2 := x1.1; have x3 := x1.2.1; have x4 := x1.2.2; clear x1)
      | (go_at_call 8; (with_reducible refine (wakes_ok _).mono ?_); rintro e w9 ⟨rfl, hb9⟩; have HB9 := Lib.hid (below_then HB3.out (Nat.le_refl _) (below_then HB6.out (Nat.le_refl _) hb9)); clear hb9))
    go_ret
    exact ⟨rfl, HB9.out⟩
end Go.Proofs.YtmbekchnfbmhbaaGreat

/- SatSteps's walk. -/
import Derived.Test.YtmbekchnfbmhbaaGreatSrV
import Derived.Deep.RegionHeld3
namespace Go.Proofs.YtmbekchnfbmhbaaGreat
open Go.RowKit Go.Lib

set_option maxRecDepth 100000 in
set_option maxHeartbeats 8000000 in
theorem satSteps_walk (a0 : Int) (A1 : Option Addr) (l1 c1 : Nat) (A : Nat → Option Addr) (L C : Nat → Nat) (Z : Nat → List Int) (A2 : Option Addr) (l2 c2 : Nat) (A' : Nat → Option Addr) (L' C' : Nat → Nat) (Z' : Nat → List Int) (A3 : Option Addr) (l3 c3 : Nat) (z3 : List Int) (w : World) (w0 : (Lit.int .i64 a0).wf = true) (w1 : IsGrid w A1 l1 c1 A L C Z) (w2 : IsGrid w A2 l2 c2 A' L' C' Z') (w3 : IsRow .i64 w A3 l3 c3 z3) :
    Calls Tryz.prog 5 #[.int .i64 a0, .slice A1 l1 c1, .slice A2 l2 c2, .slice A3 l3 c3] w fun e w' => e = .returned (.bool true) ∧ Below w.heap.size w w' := by
  have W1 := Lib.hid w1
  have W2 := Lib.hid w2
  have W3 := Lib.hid w3
  have hl3 := w3.lenMax
  clear w1 w2 w0 w3
  go_enter Tryz.func5, Tryz.ntmps5
  go_upto_region 3 with (first
    | (go_at_call 7; (with_reducible refine (great15_ok W1.out).mono ?_); rintro e w1 ⟨bb, rfl, rfl, hbb⟩; have HB0 := Lib.hid hbb; clear hbb; cases bb)
    | (go_at_call 7; (with_reducible refine (great15_ok W2.out).mono ?_); rintro e w1 ⟨bb, rfl, rfl, hbb⟩; have HBm := Lib.hid hbb; clear hbb; cases bb; have hq1 := (HB0.out rfl).1; have hq2 := (HBm.out rfl).1)
    | (go_at_call 10; obtain ⟨R, rfl, hR⟩ := tameG W1.out (HB0.out rfl); have HR := Lib.hid hR; (with_reducible refine (may21_ok c1 HR.out.grid (fun r hr => by have := (HR.out.each r hr).1; omega)).mono ?_); rintro e w2 ⟨rfl, hb2⟩; have HB2 := Lib.hid hb2; clear hb2 hR; generalize hmm : mayB a0 R 0 = mm; have HMM := Lib.hid hmm; clear hmm; cases mm)
    | (go_at_call 8; (with_reducible refine (wakes_ok _).mono ?_); rintro e w9 ⟨rfl, hb9⟩; (first | have HB9 := Lib.hid (show Below w.heap.size w w9 from hb9) | have HB9 := Lib.hid (below_then HB2.out (Nat.le_refl _) hb9)); clear hb9))
  all_goals try (go_ret; exact ⟨rfl, HB9.out⟩)
  have h5 : a0 ≤ 8 := by assumption
  have h6 : (l3 : Int) ≤ 50 := by assumption
  obtain ⟨S, rfl, hS⟩ := tameG W2.out (HBm.out rfl)
  have HS := Lib.hid hS
  obtain ⟨q1, q2, q3, q4⟩ := may_range HMM.out
  obtain ⟨n, rfl⟩ := Int.eq_ofNat_of_zero_le q1
  have hn8 : n ≤ 8 := by omega
  obtain ⟨s1, s2, s3, _⟩ := W3.out.row (by omega)
  have hsc : (z3.take l3).length ≤ c3 := by
    rw [s1]
    rcases W3.out with ⟨_, e, _, _⟩ | ⟨_, _, e, _⟩
    · omega
    · exact e
  have hgr := HR.out.grid.below HB2.out
  have K1 := solve_bound (cl := c1) hgr (s2.below HB2.out) s3 hsc hn8 HMM.out (by omega)
  rw [s1] at K1
  have HCL := Lib.hid (may_cl (budget := 0) HMM.out)
  have K2 := bound_any (w := w2) hn8
  clear s1 s2 s3 hsc hgr q1 q2 q3 q4 hS
  go_upto_region 4 with (first
    | (go_at_call 12; (with_reducible refine K2.mono ?_); rintro e w3 ⟨rfl, rfl⟩)
    | (go_at_call 9; (with_reducible refine K1.mono ?_); rintro e w1 ⟨v, rfl, ht, hp⟩; have HP := Lib.hid hp.1; clear hp; rcases ht with ⟨hbr, g, vals, rfl, pp⟩ | ⟨hbr, QA, qc, st, rfl, pp⟩ <;> (have PP := Lib.hid pp; clear pp hbr)))
  · have q1 := boxed w1 (.int .i8 0) (.slice (some ⟨g, 0, none⟩) n n) (.slice none 0 0)
    have HB3 := Lib.hid (below_then (below_then HB2.out (Nat.le_refl _) HP.out) (Nat.le_refl _) q1.1)
    have HX := Lib.hid q1.2
    obtain ⟨p1, p2, p3, p4⟩ := PP.out
    have HV := Lib.hid (p1.below q1.1 p1.lt)
    clear q1 K1 K2
    generalize w1.alloc (.cells #[.int .i8 0, .slice (some ⟨g, 0, none⟩) n n, .slice none 0 0] 29) = W1 at *
    have x2 := HX.out.cell 0
    have x3 := HX.out.cell 1
    simp only [List.getElem?_toArray, List.getElem?_cons_zero, List.getElem?_cons_succ] at x2 x3
    obtain ⟨kh, hk0, hk1⟩ : ∃ kh : Nat, (R.length : Int) / 2 = (kh : Int) ∧ kh ≤ R.length := ⟨R.length / 2, by omega, by omega⟩
    have hkl : (R.take kh).length = kh := by rw [List.length_take]; omega
    have hdr : Below W1.heap.size W1 W1.drew := below_drewN (Below.refl _ W1) 1
    have K3 := holds15_ok c1 n (((HR.out.grid.below HB3.out).below hdr).take kh) ((blk8_row HV.out (by omega)).below hdr) (fun r hr => HR.out.max r (List.mem_of_mem_take hr))
    rw [rows_take2 R _ p4, hkl, p2] at K3
    have HDR := Lib.hid hdr
    clear hdr
    clear hkl p1 p2 p3 p4
    go_upto_region 8 with fail
    have t1 : (0 : Int) ≤ (kh : Int) := by omega
    have t2 : (kh : Int) ≤ (c1 : Int) := by have := HR.out.cap; omega
    have t3 : IntKind.i64.wrap (kh : Int) = kh := by rw [IntKind.wrap_i64]; omega
    have HX2 := Lib.hid x2
    have HX3 := Lib.hid x3
    go_region_held3 (fun w' => w'.cell? ⟨w1.heap.size, 0, none⟩ = some (.int .i8 0) ∧ w'.cell? ⟨w1.heap.size, 1, none⟩ = some (.slice (some ⟨g, 0, none⟩) n n)) (go_keep)
      (first
      | (go_at_call 15; (with_reducible refine K3.mono ?_); rintro e w3 ⟨rfl, rfl⟩)
      | (go_at_call 8; (with_reducible refine (wakes_ok _).mono ?_); rintro e w9 ⟨rfl, hb9⟩; have hb8 := below_then HDR.out (Nat.le_refl _) hb9; have y2 := (hb8.cell (p := ⟨w1.heap.size, 0, none⟩) HX.out.lt).trans HX2.out; have y3 := (hb8.cell (p := ⟨w1.heap.size, 1, none⟩) HX.out.lt).trans HX3.out; have HB9 := Lib.hid (below_then HB3.out (Nat.le_refl _) hb8); clear hb8; clear hb9))
    go_wp2
    go_ret
    exact ⟨rfl, HB9.out⟩
  · have q1 := boxed w1 (.int .i8 1) (.slice none 0 0) (.slice QA st.length qc)
    have HB3 := Lib.hid (below_then (below_then HB2.out (Nat.le_refl _) HP.out) (Nat.le_refl _) q1.1)
    have HX := Lib.hid q1.2
    obtain ⟨p1, p2, p3, p4, p5, p6⟩ := PP.out
    have HST := Lib.hid (p1.below q1.1)
    clear q1 K1 K2
    generalize w1.alloc (.cells #[.int .i8 1, .slice none 0 0, .slice QA st.length qc] 29) = W1 at *
    have x2 := HX.out.cell 0
    have x3 := HX.out.cell 2
    simp only [List.getElem?_toArray, List.getElem?_cons_zero, List.getElem?_cons_succ] at x2 x3
    have HX3 := Lib.hid x3
    have hBd : Below W1.heap.size W1 (W1.drew.alloc (.cells #[] 23)) := (below_drewN (Below.refl _ W1) 1 : Below W1.heap.size W1 W1.drew).alloc (by exact Nat.le_refl _) _
    have HBd := Lib.hid hBd
    have HGS := Lib.hid ((HS.out.grid.below HB3.out).below hBd)
    have HE := Lib.hid (own_emptyR W1.drew)
    have HNR := Lib.hid HR.out.nil
    have HNS := Lib.hid HS.out.nil
    have X1 := Lib.hid (show ([] : List (Option Addr × Nat × List Int)).length + S.length ≤ 1000000 by simp; omega)
    have X2 := Lib.hid (show S.length + R.length ≤ 1000000 by omega)
    have hK5 : ∀ W v, Below W1.heap.size W1 W → W.ownsRow W1.heap.size 23 1 v (S ++ R).length ((S ++ R).map encR) → ∃ GA gc, v = .slice GA (S ++ R).length gc ∧ Calls Tryz.prog 14 #[.slice GA (S ++ R).length gc, .slice QA st.length qc] W fun e w' => e = .returned (.bool true) ∧ Below W.heap.size W w' := by
      intro W v hb ho
      have hbw := below_then HB3.out (Nat.le_refl _) hb
      have hll : (S ++ R).length ≤ 160 := by rw [List.length_append]; omega
      obtain ⟨GA, gc, rfl, hgr⟩ := own_grid2 ho (by omega) (fun r hr => by
        rcases List.mem_append.1 hr with h5 | h5
        · exact (HS.out.grid.below hbw).each r h5
        · exact (HR.out.grid.below hbw).each r h5)
      have K := refutes17_ok gc qc p3 hgr (HST.out.below hb) (by omega) (own_cap ho).1 p2 (fun r hr => by
        rcases List.mem_append.1 hr with h5 | h5
        · rcases List.mem_append.1 h5 with h5 | h5
          · have := (HS.out.each r h5).1; omega
          · have := (HR.out.each r h5).1; omega
        · exact (cl_fits (by omega) p6 r h5).1) (fun r hr => by
        rcases List.mem_append.1 hr with h5 | h5
        · rcases List.mem_append.1 h5 with h5 | h5
          · exact HS.out.max r h5
          · exact HR.out.max r h5
        · exact (cl_fits (by omega) p6 r h5).2)
      rw [refutes_more (l := rowsOf R) (fun d hd => by rw [show rowsOf (S ++ R) = rowsOf S ++ rowsOf R from List.map_append]; exact List.mem_append_right _ hd) p4] at K
      exact ⟨GA, gc, rfl, K⟩
    obtain ⟨T, hT⟩ : ∃ T, S ++ R = T := ⟨_, rfl⟩
    rw [hT] at hK5
    have HT := Lib.hid hT
    have HK5 := Lib.hid hK5
    clear hBd hT hK5 p1 p2 p3 p4 p5 p6 PP
    go_upto_region 7 with fail
    go_region_held3 (fun w' => w'.cell? ⟨w1.heap.size, 2, none⟩ = some (.slice QA st.length qc)) (go_keep)
      (first
      | (refine step_append_rows (W1.drew.alloc (.cells #[] 23)) rfl (.tmp 55) (.tmp 56) rfl W1.heap.size (.slice (some ⟨W1.heap.size, 0, none⟩) 0 0) [] (by rfl) HE.out A2 c2 S (by rfl) HGS.out HNS.out X1.out (by simp) ?_; intro v1 wa ho1 hb1; rw [List.nil_append] at ho1; have HO1 := Lib.hid ho1; have HB4 := Lib.hid (HBd.out.trans hb1); have HGR1 := Lib.hid ((HR.out.grid.below HB3.out).below HB4.out); have y1 := (HB4.out.cell (p := ⟨w1.heap.size, 2, none⟩) HX.out.lt).trans HX3.out; clear ho1 hb1)
      | (refine step_append_rows wa rfl (.tmp 57) (.tmp 58) rfl W1.heap.size v1 S (by rfl) HO1.out A1 c1 R (by rfl) HGR1.out HNR.out X2.out HB4.out.size ?_; intro v2 wb ho2 hb2; rw [HT.out] at ho2; have HB5 := Lib.hid (HB4.out.trans hb2); obtain ⟨GA, gc, rfl, hK6⟩ := HK5.out wb v2 HB5.out ho2; have HK6 := Lib.hid hK6; have y3 := (HB5.out.cell (p := ⟨w1.heap.size, 2, none⟩) HX.out.lt).trans HX3.out; clear ho2 hb2 hK6)
      | (go_at_call 14; (with_reducible refine HK6.out.mono ?_); rintro e w5 ⟨rfl, hb5⟩; have HB6 := Lib.hid (below_then HB5.out (Nat.le_refl _) hb5); have y4 := (HB6.out.cell (p := ⟨w1.heap.size, 2, none⟩) HX.out.lt).trans HX3.out; clear hb5)
      | (go_at_call 8; (with_reducible refine (wakes_ok _).mono ?_); rintro e w9 ⟨rfl, hb9⟩; have HB7 := Lib.hid (below_then HB6.out (Nat.le_refl _) hb9); have y5 := (HB7.out.cell (p := ⟨w1.heap.size, 2, none⟩) HX.out.lt).trans HX3.out; have HB9 := Lib.hid (below_then HB3.out (Nat.le_refl _) HB7.out); clear hb9))
    go_wp2
    go_ret
    exact ⟨rfl, HB9.out⟩
end Go.Proofs.YtmbekchnfbmhbaaGreat

/- RupTells's walk. -/
import Derived.Test.YthnakfdiikidaaaRupS
namespace Go.Proofs.Ythnakfdiikidaaa
open Go.RowKit Go.Lib

set_option maxRecDepth 100000 in
set_option maxHeartbeats 4000000 in
theorem rupTells_walk (A0 : Option Addr) (l0 c0 : Nat) (A : Nat → Option Addr) (L C : Nat → Nat) (Z : Nat → List Int) (A1 : Option Addr) (l1 c1 : Nat) (A' : Nat → Option Addr) (L' C' : Nat → Nat) (Z' : Nat → List Int) (A2 : Option Addr) (l2 c2 : Nat) (z2 : List Int) (w : World) (w0 : IsGrid w A0 l0 c0 A L C Z) (w1 : IsGrid w A1 l1 c1 A' L' C' Z') (w2 : IsRow .i64 w A2 l2 c2 z2) :
    Calls Try.prog 5 #[.slice A0 l0 c0, .slice A1 l1 c1, .slice A2 l2 c2] w fun e w' => e = .returned (.bool true) ∧ Below w.heap.size w w' := by
  have W0 := Lib.hid w0
  have W1 := Lib.hid w1
  have W2 := Lib.hid w2
  have W3 := Lib.hid (isGrid_one w2)
  have hbd : Below w.heap.size w (w.alloc (.cells #[.slice A2 l2 c2] 28)) := (Below.refl _ w).alloc (Nat.le_refl _) _
  have Hbd := Lib.hid hbd
  have hwk := Lib.hid (fun W => wakes_ok W)
  clear w0 w1 w2 hbd
  go_enter Try.func5, Try.ntmps5
  go_upto_region 3 with (first
    | (go_at_call 7; (with_reducible refine (great15_ok W0.out).mono ?_); rintro e w1 ⟨bb, rfl, rfl, hbb⟩; have HB0 := Lib.hid hbb; clear hbb; cases bb)
    | (go_at_call 7; (with_reducible refine (great15_ok W1.out).mono ?_); rintro e w1 ⟨bb, rfl, rfl, hbb⟩; have HB1 := Lib.hid hbb; clear hbb; cases bb)
    | (go_at_call 7; (with_reducible refine (great15_ok W3.out).mono ?_); rintro e w1 ⟨bb, rfl, hww, hbb⟩; subst hww; have HB2 := Lib.hid hbb; clear hbb; cases bb)
    | (go_at_call 8; refine (hwk.out _).mono ?_; rintro e w9 ⟨rfl, hb9⟩; have HB9 : Hid (Below w.heap.size w w9) := Lib.hid (by first | exact hb9 | exact below_then Hbd.out (Nat.le_refl _) hb9); clear hb9))
  rotate_left
  · go_ret
    exact ⟨rfl, HB9.out⟩
  · go_ret
    exact ⟨rfl, HB9.out⟩
  · go_ret
    exact ⟨rfl, HB9.out⟩
  obtain ⟨R, rfl, hR⟩ := tameG W0.out (HB0.out rfl)
  obtain ⟨S, rfl, hS⟩ := tameG W1.out (HB1.out rfl)
  obtain ⟨cs, rfl, hC⟩ := tameC W2.out (HB2.out rfl)
  clear W0 W1 W2 W3 HB0 HB1 HB2
  have hR80 := hR.r80
  have hS80 := hS.r80
  have hRx : R.length ≤ 1000 := by omega
  have hSx : S.length ≤ 1000 := by omega
  have hRS : R.length + S.length ≤ 1000 := by omega
  have hes : ∀ r ∈ R ++ S, r.2.2.length ≤ 1000 := fun r hr => by
    rcases List.mem_append.1 hr with h | h
    · exact hR.short r h
    · exact hS.short r h
  have hms : ∀ r ∈ R ++ S, ∀ x ∈ r.2.2, x ≤ 9223372036854775807 := fun r hr => by
    rcases List.mem_append.1 hr with h | h
    · exact hR.max r h
    · exact hS.max r h
  obtain ⟨wa, hwa⟩ : ∃ wa, w.alloc (.cells #[.slice A2 cs.length c2] 28) = wa := ⟨_, rfl⟩
  rw [hwa] at Hbd ⊢
  clear hwa
  have gR := fun W (h : Below wa.heap.size wa W) => (hR.grid.below Hbd.out).below h
  have gS := fun W (h : Below wa.heap.size wa W) => (hS.grid.below Hbd.out).below h
  have gC := fun W (h : Below wa.heap.size wa W) => (hC.row.below Hbd.out).below h
  have K1 := fun W h => follows_ok c0 c2 (gR W h) (gC W h) hC.big
  have K2 := fun W h => follows17_ok c0 c2 (gR W h) hRx hR.short hR.max (gC W h) hC.big
  have K3 := fun W h => row_ok c0 c1 (gR W h) (gS W h) hRx hSx hS.max
  have K4 := fun W h => row17_ok c0 c1 hS.cap (gR W h) (gS W h) hRS hR.nil hS.nil hes hms
  have K5 := fun W h => refutes_ok c0 c1 (gR W h) (gS W h) hRx hSx hS.max
  have K6 := fun W h => refutes17_ok c0 c1 hS.cap (gR W h) (gS W h) hRS hR.nil hS.nil hes hms
  have K7 := fun W h => core_ok c0 c2 (gR W h) hRx (gC W h) hC.big
  have K8 := fun W h => core17_ok c0 c2 (gR W h) hRx hR.short hR.max (gC W h) hC.big
  have hpl := core_len (rowsOf R) cs
  rw [show (rowsOf R).length = R.length from List.length_map _] at hpl
  generalize followsM (rowsOf R) cs = q1 at *
  generalize rowM (rowsOf R) (rowsOf S) 0 = q2 at *
  generalize refutesM (rowsOf R) (rowsOf S) = q3 at *
  generalize coreM (rowsOf R) cs = ps at *
  have K9 := fun W VA d VB e (h : Row .i64 W VA (ps.map fun i : Nat => (i : Int))) (k : Row .i64 W VB (ps.map fun i : Nat => (i : Int))) => ints_ok d e h k
  simp only [List.length_map, show ((ps.map fun i : Nat => (i : Int)) == (ps.map fun i : Nat => (i : Int))) = true by simp] at K9
  have b1 : (q1 == q1) = true := by simp
  have b2 : (q2 == q2) = true := by simp
  have b3 : (q3 == q3) = true := by simp
  have hrf := Lib.hid (Below.refl wa.heap.size wa)
  clear hR hS hC hes hms gR gS gC
  go_wp2_with (first
    | (go_at_call 13; (with_reducible refine (K1 _ hrf.out).mono ?_); rintro e v1 ⟨rfl, hb⟩; have hrf := Lib.hid (below_then hrf.out (Nat.le_refl _) hb); clear hb)
    | (go_at_call 14; (with_reducible refine (K2 _ hrf.out).mono ?_); rintro e v1 ⟨rfl, hb⟩; have hrf := Lib.hid (below_then hrf.out (Nat.le_refl _) hb); clear hb)
    | (go_at_call 10; (with_reducible refine (K3 _ hrf.out).mono ?_); rintro e v1 ⟨rfl, hb⟩; have hrf := Lib.hid (below_then hrf.out (Nat.le_refl _) hb); clear hb)
    | (go_at_call 15; (with_reducible refine (K4 _ hrf.out).mono ?_); rintro e v1 ⟨rfl, hb⟩; have hrf := Lib.hid (below_then hrf.out (Nat.le_refl _) hb); clear hb)
    | (go_at_call 12; (with_reducible refine (K5 _ hrf.out).mono ?_); rintro e v1 ⟨rfl, hb⟩; have hrf := Lib.hid (below_then hrf.out (Nat.le_refl _) hb); clear hb)
    | (go_at_call 16; (with_reducible refine (K6 _ hrf.out).mono ?_); rintro e v1 ⟨rfl, hb⟩; have hrf := Lib.hid (below_then hrf.out (Nat.le_refl _) hb); clear hb)
    | (go_at_call 18; (with_reducible refine (K7 _ hrf.out).mono ?_); rintro e v1 ⟨VA, da, rfl, hra, hb⟩; have HRA := Lib.hid hra; have hrf := Lib.hid (below_then hrf.out (Nat.le_refl _) hb); clear hb hra)
    | (go_at_call 19; (with_reducible refine (K8 _ hrf.out).mono ?_); rintro e v2 ⟨VB, db, rfl, hrb, hb⟩; have HRB := Lib.hid hrb; have HRA := Lib.hid (HRA.out.below hb); have hrf := Lib.hid (below_then hrf.out (Nat.le_refl _) hb); clear hb hrb)
    | (go_at_call 17; (with_reducible refine (K9 _ VA da VB db HRA.out HRB.out).mono ?_); rintro e v3 ⟨rfl, nq, rfl⟩; have hrf := Lib.hid (below_drewN hrf.out nq))
    | (go_at_call 8; refine (hwk.out _).mono ?_; rintro e w9 ⟨rfl, hb9⟩; have HB9 := Lib.hid (below_then Hbd.out (Nat.le_refl _) (below_then hrf.out (Nat.le_refl _) hb9)); clear hb9))
  go_ret
  exact ⟨rfl, HB9.out⟩
end Go.Proofs.Ythnakfdiikidaaa

/- RupParts's walk. -/
import Derived.Test.YthnakfdiikidaaaRupQ
import Derived.Deep.RegionHeldLaw
namespace Go.Proofs.Ythnakfdiikidaaa
open Go.RowKit Go.Lib

set_option maxRecDepth 100000 in
set_option maxHeartbeats 4000000 in
theorem rupParts_walk (A0 : Option Addr) (l0 c0 : Nat) (A : Nat → Option Addr) (L C : Nat → Nat) (Z : Nat → List Int) (A1 : Option Addr) (l1 c1 : Nat) (A' : Nat → Option Addr) (L' C' : Nat → Nat) (Z' : Nat → List Int) (n : Int) (w : World) (w0 : IsGrid w A0 l0 c0 A L C Z) (w1 : IsGrid w A1 l1 c1 A' L' C' Z') (_w2 : (Lit.int .i64 n).wf = true) :
    Calls Try.prog 4 #[.slice A0 l0 c0, .slice A1 l1 c1, .int .i64 n] w fun e w' => e = .returned (.bool true) ∧ Below w.heap.size w w' := by
  have W0 := Lib.hid w0
  have W1 := Lib.hid w1
  have hwk := Lib.hid (wakes_ok w)
  clear w0 w1
  go_enter Try.func4, Try.ntmps4
  go_upto_region 3 with (first
    | (go_at_call 7; (with_reducible refine (great15_ok W0.out).mono ?_); rintro e w1 ⟨bb, rfl, rfl, hbb⟩; have HB0 := Lib.hid hbb; clear hbb; cases bb)
    | (go_at_call 7; (with_reducible refine (great15_ok W1.out).mono ?_); rintro e w1 ⟨bb, rfl, rfl, hbb⟩; have HB1 := Lib.hid hbb; clear hbb; cases bb)
    | (go_at_call 8; (with_reducible refine hwk.out.mono ?_); rintro e w9 ⟨rfl, hb9⟩; have HB9 := Lib.hid hb9; clear hb9))
  rotate_left
  · go_ret
    exact ⟨rfl, HB9.out⟩
  · go_ret
    exact ⟨rfl, HB9.out⟩
  obtain ⟨R, rfl, hR⟩ := tameG W0.out (HB0.out rfl)
  obtain ⟨S, rfl, hS⟩ := tameG W1.out (HB1.out rfl)
  clear W0 W1 HB0 HB1 hwk
  obtain ⟨q, k, hq, hq1, hq2, hk, hkl⟩ := tmod_mod n (S.length + 1) (by omega)
  have hq : n.tmod ((S.length : Int) + 1) = q := hq
  have hk : (q + ((S.length : Int) + 1)).tmod ((S.length : Int) + 1) = k := hk
  have hq1 : -((S.length : Int) + 1) < q := hq1
  have hq2 : q < (S.length : Int) + 1 := hq2
  have hR80 := hR.r80
  have hS80 := hS.r80
  have hcapS := hS.cap
  have hsp := row_split (rowsOf R) (rowsOf S) k (by rw [show (rowsOf S).length = S.length from List.length_map _]; omega)
  rw [show (rowsOf S).length = S.length from List.length_map _, ← rows_take, ← rows_drop, ← rows_append] at hsp
  have hkt : (S.take k).length = k := by rw [List.length_take]; omega
  have hkd : (S.drop k).length = S.length - k := by rw [List.length_drop]
  have K1 := row_ok c0 c1 hR.grid hS.grid (by omega) (by omega) hS.max
  have K2 := fun W (h : Below w.heap.size w W) => row_ok c0 c1 (hR.grid.below h) ((hS.grid.below h).take k) (by omega) (by rw [hkt]; omega) (fun r hr => hS.max r (List.mem_of_mem_take hr))
  rw [hkt] at K2
  have t1 : (0 : Int) ≤ (k : Int) := by omega
  have t2 : (k : Int) ≤ (c1 : Int) := by omega
  have t3 : (k : Int) ≤ (S.length : Int) := by omega
  have t4 : ((S.length : Int) + 1 == 0) = false := by rw [beq_eq_false_iff_ne]; omega
  have HR := Lib.hid hR
  have HS := Lib.hid hS
  have Hkt := Lib.hid hkt
  have Hkd := Lib.hid hkd
  clear hR hS hkt hkd
  rcases hsp with ⟨h1, h2, h3⟩ | ⟨h1, h2, h3⟩ | ⟨h1, h2, h3, h4⟩
  · rw [h3] at K2
    generalize rowM (rowsOf R) (rowsOf S) 0 = at_ at *
    clear h3
    have d1 : decide ((0 : Int) ≤ at_) = true := decide_eq_true h1
    have d2 : decide (at_ < (k : Int)) = true := decide_eq_true h2
    go_wp2_with (first
      | (go_at_call 10; (with_reducible refine K1.mono ?_); rintro e w3 ⟨rfl, hb3⟩; have HB3 := Lib.hid hb3; clear hb3)
      | (go_at_call 10; (with_reducible refine (K2 _ HB3.out).mono ?_); rintro e w4 ⟨rfl, hb4⟩; have HB4 := Lib.hid (below_then HB3.out (Nat.le_refl _) hb4); clear hb4)
      | (go_at_call 8; refine (wakes_ok _).mono ?_; rintro e w9 ⟨rfl, hb9⟩; have HB9 := Lib.hid (below_then HB4.out (Nat.le_refl _) hb9); clear hb9))
    go_ret
    exact ⟨rfl, HB9.out⟩
  · rw [h2] at K2
    rw [h1] at K1
    go_upto_region 9 with (first
      | (go_at_call 10; (with_reducible refine K1.mono ?_); rintro e w3 ⟨rfl, hb3⟩; have HB3 := Lib.hid hb3; clear hb3)
      | (go_at_call 10; (with_reducible refine (K2 _ HB3.out).mono ?_); rintro e w4 ⟨rfl, hb4⟩; have HB4 := Lib.hid (below_then HB3.out (Nat.le_refl _) hb4); clear hb4))
    have hBd : Below w.heap.size w (w4.drew.alloc (.cells #[] 28)) := (show Below w.heap.size w w4.drew from below_drewN HB4.out 1).alloc HB4.out.size _
    have HGR := Lib.hid (HR.out.grid.below hBd)
    have HE := Lib.hid (own_emptyR w4.drew)
    have HNR := Lib.hid HR.out.nil
    have HNS := Lib.hid HS.out.nil
    have X1 := Lib.hid (show ([] : List (Option Addr × Nat × List Int)).length + R.length ≤ 1000000 by simp; omega)
    have X2 := Lib.hid (show R.length + (S.take k).length ≤ 1000000 by rw [Hkt.out]; omega)
    have HBd := Lib.hid hBd
    obtain ⟨SB, hsl, hsb⟩ := slice_drop (A := A1) (S := S) (c := c1) (k := k) (by omega) hcapS
    have hK5 : ∀ W v, Below w.heap.size w W → W.ownsRow w4.heap.size 28 1 v (R ++ S.take k).length ((R ++ S.take k).map encR) → ∃ GA gc, v = .slice GA (R ++ S.take k).length gc ∧ Calls Try.prog 10 #[.slice GA (R ++ S.take k).length gc, .slice SB (S.length - k) (c1 - k)] W fun e w' => e = .returned (.int .i64 (-1)) ∧ Below W.heap.size W w' := by
      intro W v hb ho
      obtain ⟨GA, gc, rfl, hgr⟩ := Gath.grid (.inl ho) (by rw [List.length_append, Hkt.out]; omega) (fun r hr => by
        rcases List.mem_append.1 hr with h5 | h5
        · exact (HR.out.grid.below hb).each r h5
        · exact (HS.out.grid.below hb).each r (List.mem_of_mem_take h5))
      have K := row_ok gc (c1 - k) hgr (hsb W (HS.out.grid.below hb)) (by rw [List.length_append, Hkt.out]; omega) (by rw [Hkd.out]; omega) (fun r hr => HS.out.max r (List.mem_of_mem_drop hr))
      rw [Hkd.out, h3] at K
      exact ⟨GA, gc, rfl, K⟩
    obtain ⟨T, hT⟩ : ∃ T, R ++ S.take k = T := ⟨_, rfl⟩
    rw [hT] at hK5
    have HT := Lib.hid hT
    have HK5 := Lib.hid hK5
    clear hBd hT K1 K2 hsb hK5
    go_region_held_law (fun _ => True) (trivial) ((first
      | (refine step_append_rows (w4.drew.alloc (.cells #[] 28)) rfl (.tmp 49) (.tmp 50) rfl w4.heap.size (.slice (some ⟨w4.heap.size, 0, none⟩) 0 0) [] (by rfl) HE.out A0 c0 R (by rfl) HGR.out HNR.out X1.out (by simp) ?_; intro v1 wa ho1 hb1; rw [List.nil_append] at ho1; have HO1 := Lib.hid ho1; have HB1 := Lib.hid hb1; have HBW1 := Lib.hid (HBd.out.trans (hb1.mono HB4.out.size)); have HGS1 := Lib.hid ((HS.out.grid.below HBW1.out).take k); clear ho1 hb1)
      | (refine step_append_rows wa rfl (.tmp 51) (.tmp 54) rfl w4.heap.size v1 R (by rfl) HO1.out A1 c1 (S.take k) (by rw [Hkt.out]; rfl) HGS1.out HNS.out X2.out (Nat.le_trans (by simp) HB1.out.size) ?_; intro v2 wb ho2 hb2; rw [HT.out] at ho2; have HB2 := Lib.hid (HBW1.out.trans (hb2.mono HB4.out.size)); obtain ⟨GA, gc, rfl, hK6⟩ := HK5.out wb v2 HB2.out ho2; clear ho2 hb2)
      | (go_at_call 10; (with_reducible refine hK6.mono ?_); rintro e w5 ⟨rfl, hb5⟩; have HB5 := Lib.hid (below_then HB2.out (Nat.le_refl _) hb5); clear hb5)))
    clear hK6 hsl
    go_wp2_with (go_at_call 8; refine (wakes_ok _).mono ?_; rintro e w9 ⟨rfl, hb9⟩; have HB9 := Lib.hid (below_then HB5.out (Nat.le_refl _) hb9); clear hb9)
    go_ret
    exact ⟨rfl, HB9.out⟩
  · rw [h3] at K2
    generalize rowM (rowsOf R) (rowsOf S) 0 = at_ at *
    have d1 : decide ((0 : Int) ≤ at_) = true := decide_eq_true (by omega)
    have d2 : decide (at_ < (k : Int)) = false := decide_eq_false (by omega)
    have d3 : decide (at_ < (0 : Int)) = false := decide_eq_false (by omega)
    go_upto_region 9 with (first
      | (go_at_call 10; (with_reducible refine K1.mono ?_); rintro e w3 ⟨rfl, hb3⟩; have HB3 := Lib.hid hb3; clear hb3)
      | (go_at_call 10; (with_reducible refine (K2 _ HB3.out).mono ?_); rintro e w4 ⟨rfl, hb4⟩; have HB4 := Lib.hid (below_then HB3.out (Nat.le_refl _) hb4); clear hb4))
    have hBd : Below w.heap.size w (w4.drew.alloc (.cells #[] 28)) := (show Below w.heap.size w w4.drew from below_drewN HB4.out 1).alloc HB4.out.size _
    have HGR := Lib.hid (HR.out.grid.below hBd)
    have HE := Lib.hid (own_emptyR w4.drew)
    have HNR := Lib.hid HR.out.nil
    have HNS := Lib.hid HS.out.nil
    have X1 := Lib.hid (show ([] : List (Option Addr × Nat × List Int)).length + R.length ≤ 1000000 by simp; omega)
    have X2 := Lib.hid (show R.length + (S.take k).length ≤ 1000000 by rw [Hkt.out]; omega)
    have HBd := Lib.hid hBd
    obtain ⟨SB, hsl, hsb⟩ := slice_drop (A := A1) (S := S) (c := c1) (k := k) (by omega) hcapS
    have hK5 : ∀ W v, Below w.heap.size w W → W.ownsRow w4.heap.size 28 1 v (R ++ S.take k).length ((R ++ S.take k).map encR) → ∃ GA gc, v = .slice GA (R ++ S.take k).length gc ∧ Calls Try.prog 10 #[.slice GA (R ++ S.take k).length gc, .slice SB (S.length - k) (c1 - k)] W fun e w' => e = .returned (.int .i64 (at_ - k)) ∧ Below W.heap.size W w' := by
      intro W v hb ho
      obtain ⟨GA, gc, rfl, hgr⟩ := Gath.grid (.inl ho) (by rw [List.length_append, Hkt.out]; omega) (fun r hr => by
        rcases List.mem_append.1 hr with h5 | h5
        · exact (HR.out.grid.below hb).each r h5
        · exact (HS.out.grid.below hb).each r (List.mem_of_mem_take h5))
      have K := row_ok gc (c1 - k) hgr (hsb W (HS.out.grid.below hb)) (by rw [List.length_append, Hkt.out]; omega) (by rw [Hkd.out]; omega) (fun r hr => HS.out.max r (List.mem_of_mem_drop hr))
      rw [Hkd.out, h4] at K
      exact ⟨GA, gc, rfl, K⟩
    obtain ⟨T, hT⟩ : ∃ T, R ++ S.take k = T := ⟨_, rfl⟩
    rw [hT] at hK5
    have HT := Lib.hid hT
    have HK5 := Lib.hid hK5
    clear hBd hT K1 K2 hsb hK5
    go_region_held_law (fun _ => True) (trivial) ((first
      | (refine step_append_rows (w4.drew.alloc (.cells #[] 28)) rfl (.tmp 49) (.tmp 50) rfl w4.heap.size (.slice (some ⟨w4.heap.size, 0, none⟩) 0 0) [] (by rfl) HE.out A0 c0 R (by rfl) HGR.out HNR.out X1.out (by simp) ?_; intro v1 wa ho1 hb1; rw [List.nil_append] at ho1; have HO1 := Lib.hid ho1; have HB1 := Lib.hid hb1; have HBW1 := Lib.hid (HBd.out.trans (hb1.mono HB4.out.size)); have HGS1 := Lib.hid ((HS.out.grid.below HBW1.out).take k); clear ho1 hb1)
      | (refine step_append_rows wa rfl (.tmp 51) (.tmp 54) rfl w4.heap.size v1 R (by rfl) HO1.out A1 c1 (S.take k) (by rw [Hkt.out]; rfl) HGS1.out HNS.out X2.out (Nat.le_trans (by simp) HB1.out.size) ?_; intro v2 wb ho2 hb2; rw [HT.out] at ho2; have HB2 := Lib.hid (HBW1.out.trans (hb2.mono HB4.out.size)); obtain ⟨GA, gc, rfl, hK6⟩ := HK5.out wb v2 HB2.out ho2; clear ho2 hb2)
      | (go_at_call 10; (with_reducible refine hK6.mono ?_); rintro e w5 ⟨rfl, hb5⟩; have HB5 := Lib.hid (below_then HB2.out (Nat.le_refl _) hb5); clear hb5)))
    clear hK6 hsl
    go_wp2_with (go_at_call 8; refine (wakes_ok _).mono ?_; rintro e w9 ⟨rfl, hb9⟩; have HB9 := Lib.hid (below_then HB5.out (Nat.le_refl _) hb9); clear hb9)
    go_ret
    exact ⟨rfl, HB9.out⟩
end Go.Proofs.Ythnakfdiikidaaa

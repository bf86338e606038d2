/- SexprBack: an expression's text is read as it, to its end; what is read is written so that it is read again; two of them, too; for arguments of bulk at most 1048576 in all. -/
import Derived.Test.YtephhendkmhggaaBackE
import Derived.Test.YtephhendkmhggaaBackL
import Derived.Test.YtephhendkmhggaaBackO
namespace Go.Proofs.Ytephhendkmhggaa
open Go.RowKit

set_option maxHeartbeats 4000000 in
set_option maxRecDepth 100000 in
theorem back_great (x y : Sx) (s : ByteArray) (hx : x.mass ≤ 2000000) (hy : y.mass ≤ 2000000) (hg : x.great = true ∨ x.great = false ∧ (y.great = true ∨ y.great = false ∧ 1000 < s.size)) (w : World) (a b : C3) (hlx : Lies (fun _ => True) w a.val x) (hly : Lies (fun _ => True) w b.val y) :
    Calls Try.prog 6 #[a.val, b.val, .string s] w fun e w' => e = .returned (.bool true) ∧ Below w.heap.size w w' := by
  obtain ⟨w0, h0⟩ := two_mk w a b x y hlx hly
  have e0 := h0.eq
  have HT := Lib.hid h0
  have HGX := Lib.hid (fun w1 h1 => great3_ok x hx a.val w1 (h0.fst w1 h1))
  have HGY := Lib.hid (fun w1 h1 => great3_ok y hy b.val w1 (h0.snd w1 h1))
  clear h0 hlx hly
  obtain ⟨j1, j2, j3, j4, j5, j6⟩ := HT.out.at_ w0 (Below.refl _ _)
  unfold C3.val at HGX HGY ⊢
  rcases hg with hg | ⟨hg, hg' | ⟨hg', hs⟩⟩
  · rw [hg] at HGX
    go_enter Try.func6, Try.ntmps6
    go_wp2_with (first
      | (go_at_call 14; refine (HGX.out _ (Below.refl _ _)).mono ?_; rintro e w1 ⟨rfl, hb1⟩)
      | (go_at_call 8; refine (wakes_ok _).mono ?_; rintro e w2 ⟨rfl, hb2⟩))
    go_ret
    exact ⟨rfl, below_then (HT.out.below.trans (hb1.mono HT.out.below.size)) (Nat.le_refl _) hb2⟩
  · rw [hg] at HGX
    rw [hg'] at HGY
    go_enter Try.func6, Try.ntmps6
    go_wp2_with (first
      | (go_at_call 14; (with_reducible refine (HGX.out _ (Below.refl _ _)).mono ?_); rintro e w1 ⟨rfl, hb1⟩; obtain ⟨k1, k2, k3, k4, k5, k6⟩ := HT.out.at_ w1 hb1)
      | (go_at_call 14; (with_reducible refine (HGY.out _ hb1).mono ?_); rintro e w2 ⟨rfl, hb2⟩)
      | (go_at_call 8; refine (wakes_ok _).mono ?_; rintro e w3 ⟨rfl, hb3⟩))
    go_ret
    exact ⟨rfl, below_then (below_then (HT.out.below.trans (hb1.mono HT.out.below.size)) (Nat.le_refl _) hb2) (Nat.le_refl _) hb3⟩
  · rw [hg] at HGX
    rw [hg'] at HGY
    have d1 : decide ((s.size : Int) > 1000) = true := decide_eq_true (by omega)
    have d1' : decide ((1000 : Int) < s.size) = true := d1
    go_enter Try.func6, Try.ntmps6
    go_wp2_with (first
      | (go_at_call 14; (with_reducible refine (HGX.out _ (Below.refl _ _)).mono ?_); rintro e w1 ⟨rfl, hb1⟩; obtain ⟨k1, k2, k3, k4, k5, k6⟩ := HT.out.at_ w1 hb1)
      | (go_at_call 14; (with_reducible refine (HGY.out _ hb1).mono ?_); rintro e w2 ⟨rfl, hb2⟩)
      | (go_at_call 8; refine (wakes_ok _).mono ?_; rintro e w3 ⟨rfl, hb3⟩))
    go_ret
    exact ⟨rfl, below_then (below_then (HT.out.below.trans (hb1.mono HT.out.below.size)) (Nat.le_refl _) hb2) (Nat.le_refl _) hb3⟩

theorem sexprBack_walk (x : Sx) (a : C3) (y : Sx) (b : C3) (s : ByteArray) (w : World) (hlx : Lies (fun _ => True) w a.val x) (hx : x.mass ≤ 2000000) (hly : Lies (fun _ => True) w b.val y) (hy : y.mass ≤ 2000000) (_ : s.size ≤ maxLen) :
    Calls Try.prog 6 #[a.val, b.val, .string s] w fun e w' => e = .returned (.bool true) ∧ Below w.heap.size w w' := by
  cases hg : x.great with
  | true => exact back_great x y s hx hy (.inl hg) w a b hlx hly
  | false =>
    cases hg' : y.great with
    | true => exact back_great x y s hx hy (.inr ⟨hg, .inl hg'⟩) w a b hlx hly
    | false =>
      by_cases hs : 1000 < s.size
      · exact back_great x y s hx hy (.inr ⟨hg, .inr ⟨hg', hs⟩⟩) w a b hlx hly
      have hs : s.size ≤ 1000 := by omega
      cases hr : topP (byts s) 0 with
      | err m ec =>
        by_cases h1 : (textL x).2 = 0
        · by_cases h2 : (textL y).2 = 0
          · exact back_C_err x y s hg hg' hx hy hs h1 h2 m ec hr w a b hlx hly
          · exact back_B_err x y s hg hg' hx hy hs h1 h2 m ec hr w a b hlx hly
        · exact back_A_err x y s hg hg' hx hy hs h1 m ec hr w a b hlx hly
      | ok z m =>
        by_cases hl : 8192 < z.print.length
        · by_cases h1 : (textL x).2 = 0
          · by_cases h2 : (textL y).2 = 0
            · exact back_C_long x y s hg hg' hx hy hs h1 h2 z m hr hl w a b hlx hly
            · exact back_B_long x y s hg hg' hx hy hs h1 h2 z m hr hl w a b hlx hly
          · exact back_A_long x y s hg hg' hx hy hs h1 z m hr hl w a b hlx hly
        · by_cases h1 : (textL x).2 = 0
          · by_cases h2 : (textL y).2 = 0
            · exact back_C_ok x y s hg hg' hx hy hs h1 h2 z m hr hl w a b hlx hly
            · exact back_B_ok x y s hg hg' hx hy hs h1 h2 z m hr hl w a b hlx hly
          · exact back_A_ok x y s hg hg' hx hy hs h1 z m hr hl w a b hlx hly
end Go.Proofs.Ytephhendkmhggaa

/- TrailPlays' walk. -/
import Derived.Test.YtfdfblokbojcfaaAlike
import Derived.Test.YtfdfblokbojcfaaActs
import Derived.Deep.RegionHeld3
namespace Go.Proofs.Ytfdfblokbojcfaa
open Go.RowKit

theorem ogone_len {B : Nat} {w : World} {v : Value} {m : Option Tr} (h : TP w B v m) (x : Int) : (ogone m x).length ≤ 9223372036854775807 := by
  cases m with
  | none => simp [ogone]
  | some M =>
    obtain ⟨b1, b2, rfl, ht⟩ := h
    have h1 := ht.ok.len
    have h2 := ht.ok.n
    simp only [ogone, backGone]
    split
    · simp
    · simp
      omega
def onew (n : Int) : Option Tr := if n < 0 then none else some ⟨n.toNat, [], 0⟩
theorem new_P (n : Int) (hn : n ≤ 60) (w : World) (B : Nat) (hB : B ≤ w.heap.size) :
    Calls Try.prog 8 #[.int .i64 n] w fun e w' => ∃ p, e = .returned (.pointer p) ∧ p.isNone = decide (n < 0) ∧ TP w' B (.pointer p) (onew n) ∧ Below w.heap.size w w' := by
  unfold onew
  by_cases h0 : n < 0
  · rw [if_pos h0]
    refine (new_nil n (.inl h0) w).mono ?_
    rintro e w' ⟨rfl, rfl⟩
    exact ⟨none, rfl, by simp [h0], rfl, Below.refl _ _⟩
  · rw [if_neg h0]
    obtain ⟨k, rfl⟩ := Int.eq_ofNat_of_zero_le (show 0 ≤ n by omega)
    refine (new_ok k (by omega) w B hB).mono ?_
    rintro e w' ⟨bt, ba, rfl, t, _, _, b⟩
    exact ⟨_, rfl, by simp, ⟨bt, ba, rfl, _, t⟩, b⟩
theorem unew_P (n : Int) (hn : n ≤ 60) (w : World) (B : Nat) (hB : B ≤ w.heap.size) :
    Calls Try.prog 18 #[.int .i64 n] w fun e w' => ∃ p, e = .returned (.pointer p) ∧ p.isNone = decide (n < 0) ∧ UP w' B (.pointer p) (onew n) ∧ Below w.heap.size w w' := by
  unfold onew
  by_cases h0 : n < 0
  · rw [if_pos h0]
    refine (unew_nil n (.inl h0) w).mono ?_
    rintro e w' ⟨rfl, rfl⟩
    exact ⟨none, rfl, by simp [h0], rfl, Below.refl _ _⟩
  · rw [if_neg h0]
    obtain ⟨k, rfl⟩ := Int.eq_ofNat_of_zero_le (show 0 ≤ n by omega)
    refine (unew_ok k (by omega) w B hB).mono ?_
    rintro e w' ⟨bu, rfl, t, b⟩
    exact ⟨_, rfl, by simp, ⟨bu, _, rfl, t⟩, b⟩

set_option maxHeartbeats 1000000 in
theorem trailPlays_walk (n : Int) (A1 : Option Addr) (l1 c1 : Nat) (f : Nat → Int × Int × Int) (w : World) (_w0 : (Lit.int .i64 n).wf = true) (w1 : IsActs w A1 l1 c1 f) :
    Calls Try.prog 4 #[.int .i64 n, .slice A1 l1 c1] w fun e w' => e = .returned (.bool true) ∧ Below w.heap.size w w' := by
  have hl0 : l1 ≤ maxLen := by
    rcases w1 with ⟨_, rfl⟩ | ⟨_, _, h1, h2, _⟩
    · omega
    · omega
  unfold maxLen at hl0
  by_cases h100 : 100 < l1
  · have d1 : decide ((100 : Int) < (l1 : Int)) = true := by simp; omega
    clear w1
    go_enter Try.func4, Try.ntmps4
    go_wp2_with (go_at_call 7; refine (wakes_ok _).mono ?_; rintro e w2 ⟨rfl, b2⟩)
    go_ret
    exact ⟨rfl, b2⟩
  have d1 : decide ((100 : Int) < (l1 : Int)) = false := by simp; omega
  by_cases h60 : 60 < n
  · have d2 : decide (60 < n) = true := by simp; omega
    clear w1
    go_enter Try.func4, Try.ntmps4
    go_wp2_with (go_at_call 7; refine (wakes_ok _).mono ?_; rintro e w2 ⟨rfl, b2⟩)
    go_ret
    exact ⟨rfl, b2⟩
  have d2 : decide (60 < n) = false := by simp; omega
  have hN : n ≤ 60 := by omega
  go_enter Try.func4, Try.ntmps4
  go_wp2_with fail
  refine (new_P n hN _ w.heap.size (Nat.le_refl _)).mono ?_
  rintro e w2 ⟨pv, rfl, hv, ht, b2⟩
  go_wp2_with fail
  refine (unew_P n hN _ w.heap.size b2.size).mono ?_
  rintro e w3 ⟨pu, rfl, hu, hut, b3⟩
  have hP : PP w3 w.heap.size (.pointer pv) (.pointer pu) (onew n) (onew n) := ⟨ht.below b3, hut⟩
  have hB := below_then b2 (Nat.le_refl _) b3
  clear ht hut b2 b3
  have hpp : (pv.isNone == pu.isNone) = true := by rw [hv, hu]; simp
  have W1 := Lib.hid w1
  generalize onew n = m0 at *
  clear w1 hv hu
  go_wp2_with fail
  go_loopw [32] (fun i wr => ∃ (k : Nat) (m : Option Tr), k ≤ l1 ∧ i = .int .i64 k ∧ PP wr w.heap.size (.pointer pv) (.pointer pu) m m ∧ Below w.heap.size w wr) (fun i _ => l1 - (intOf i).toNat)
  case atStart => exact ⟨0, _, Nat.zero_le _, rfl, hP, hB⟩
  case round =>
    obtain ⟨k, m, hk, rfl, hP, hB⟩ := hrel
    by_cases hlt : k < l1
    · obtain ⟨x0, rfl, hz⟩ : ∃ x, A1 = some x ∧ w.cell? (x.add (k * 3)) = some (.int .i64 (f k).1) ∧ w.cell? ((x.add (k * 3)).add 1) = some (.int .i64 (f k).2.1) ∧ w.cell? ((x.add (k * 3)).add 2) = some (.int .i64 (f k).2.2) := by
        rcases W1.out with ⟨_, h⟩ | ⟨x, hx, h1, _, h4⟩
        · omega
        · exact ⟨x, hx, h4 k (by omega)⟩
      obtain ⟨e0, e1, e2⟩ := hz
      have f0 := (hB.cell (World.block_lt_of_cell? _ _ e0)).trans e0
      have f1 : wr.cell? ⟨(x0.add (k * 3)).block, (x0.add (k * 3)).off + 1, none⟩ = _ := (hB.cell (World.block_lt_of_cell? _ _ e1)).trans e1
      have f2 : wr.cell? ⟨(x0.add (k * 3)).block, (x0.add (k * 3)).off + 2, none⟩ = _ := (hB.cell (World.block_lt_of_cell? _ _ e2)).trans e2
      clear e0 e1 e2
      generalize (f k).1 = d at *
      generalize (f k).2.1 = a at *
      generalize (f k).2.2 = b at *
      have hsz := hB.size
      have hB2 := hB.alloc hsz (.cells #[.int .i64 d, .int .i64 a, .int .i64 b] 45)
      have hP2 : PP (wr.alloc (.cells #[.int .i64 d, .int .i64 a, .int .i64 b] 45)) w.heap.size (.pointer pv) (.pointer pu) m m := hP.below ((Below.refl _ _).alloc (Nat.le_refl _) _)
      have hX : Blk (wr.alloc (.cells #[.int .i64 d, .int .i64 a, .int .i64 b] 45)) wr.heap.size 45 #[.int .i64 d, .int .i64 a, .int .i64 b] := Blk.new _ _ _
      have l0 := hX.lt
      by_cases hd0 : d = 0
      · subst hd0
        go_wp2_with fail
        generalize wr.alloc (.cells #[.int .i64 0, .int .i64 a, .int .i64 b] 45) = wb at *
        have x1 := hX.cell 1
        have x2 := hX.cell 2
        simp only [List.getElem?_toArray, List.getElem?_cons_zero, List.getElem?_cons_succ] at x1 x2
        have hP3 : PP wb.drew w.heap.size (.pointer pv) (.pointer pu) m m := hP2.below ⟨rfl, rfl, rfl, Nat.le_refl _, fun _ _ => rfl⟩
        go_region_held3 (fun w' => w'.cell? ⟨wr.heap.size, 1, none⟩ = some (.int .i64 a) ∧ w'.cell? ⟨wr.heap.size, 2, none⟩ = some (.int .i64 b)) (go_keep)
          (first
            | (go_at_call 10; refine (put_P hP3 _ _).mono ?_; rintro e w4 ⟨rfl, hP4, hb4, hf4⟩; have hX4 := hf4 _ _ _ hX (by decide) (by decide) (by decide); have x14 := hX4.cell 1; have x24 := hX4.cell 2; simp only [List.getElem?_toArray, List.getElem?_cons_zero, List.getElem?_cons_succ] at x14 x24)
            | (go_at_call 19; refine (uput_P hP4 _ _).mono ?_; rintro e w5 ⟨rfl, hP5, hb5, hf5⟩; have hX5 := hf5 _ _ _ hX4 (by decide) (by decide); have x15 := hX5.cell 1; have x25 := hX5.cell 2; simp only [List.getElem?_toArray, List.getElem?_cons_zero, List.getElem?_cons_succ] at x15 x25))
        have hB3 : Below w.heap.size w wb.drew := below_drewN hB2 1
        have hBZ := (hB3.trans hb4).trans hb5
        go_wp2_with fail
        refine (alike_P hP5 _ _).mono ?_
        rintro e w6 ⟨rfl, b6⟩
        have hP6 := hP5.below b6
        have hB6 := below_then hBZ (Nat.le_refl _) b6
        go_wp2_with fail
        exact ⟨⟨k + 1, _, by omega, by go_num, hP6, hB6⟩, by simp [intOf]; omega⟩
      by_cases hd1 : d = 1
      · subst hd1
        clear hd0
        go_wp2_with fail
        generalize wr.alloc (.cells #[.int .i64 1, .int .i64 a, .int .i64 b] 45) = wb at *
        refine (begin_P hP2).mono ?_
        rintro e w4 ⟨rfl, hP4, hb4, hf4⟩
        have hX4 := hf4 _ _ _ hX (by decide) (by decide) (by decide)
        go_wp2_with fail
        refine (ubegin_P hP4).mono ?_
        rintro e w5 ⟨rfl, hP5, hb5, hf5⟩
        have hX5 := hf5 _ _ _ hX4 (by decide) (by decide)
        have x15 := hX5.cell 1
        have x25 := hX5.cell 2
        have l5 := hX5.lt
        simp only [List.getElem?_toArray, List.getElem?_cons_zero, List.getElem?_cons_succ] at x15 x25
        have hBZ := (hB2.trans hb4).trans hb5
        go_wp2_with fail
        refine (alike_P hP5 _ _).mono ?_
        rintro e w6 ⟨rfl, b6⟩
        have hP6 := hP5.below b6
        have hB6 := below_then hBZ (Nat.le_refl _) b6
        go_wp2_with fail
        exact ⟨⟨k + 1, _, by omega, by go_num, hP6, hB6⟩, by simp [intOf]; omega⟩
      by_cases hd2 : d = 2
      · subst hd2
        clear hd0 hd1
        go_wp2_with fail
        generalize wr.alloc (.cells #[.int .i64 2, .int .i64 a, .int .i64 b] 45) = wb at *
        refine (back_P hP2 (Nat.le_trans hsz (Nat.le_of_lt l0)) _).mono ?_
        rintro e w4 ⟨g1, rfl, o1, hP4, hb4, hf4⟩
        have hX4 := hf4 _ _ _ hX (by decide) (by decide) (by decide)
        have x14 := hX4.cell 1
        have x24 := hX4.cell 2
        have l4 := hX4.lt
        simp only [List.getElem?_toArray, List.getElem?_cons_zero, List.getElem?_cons_succ] at x14 x24
        go_wp2_with fail
        refine (uback_P hP4 _).mono ?_
        rintro e w5 ⟨g2, rfl, o2, hP5, hb5, hf5⟩
        have hX5 := hf5 _ _ _ hX4 (by decide) (by decide)
        have o1' := o1.farU hf5
        obtain ⟨A1, k1, rfl, i1⟩ := o1'.form
        obtain ⟨A2, k2, rfl, i2⟩ := o2.form
        have hlen := ogone_len hP2.t a
        clear o1 o1' o2
        have x15 := hX5.cell 1
        have x25 := hX5.cell 2
        have l5 := hX5.lt
        simp only [List.getElem?_toArray, List.getElem?_cons_zero, List.getElem?_cons_succ] at x15 x25
        have hBq := (hB2.trans hb4).trans hb5
        go_wp2_with fail
        refine (ints_same i1 i2 hlen).mono ?_
        rintro e w7 ⟨rfl, n7, rfl⟩
        have hP7 := hP5.drewN n7
        have hX7 : Blk (w5.drewN n7) _ _ _ := hX5
        clear hX5 hP5 hX4 hP4 hf4 hf5 i1 i2
        have x17 := hX7.cell 1
        have x27 := hX7.cell 2
        have l7 := hX7.lt
        simp only [List.getElem?_toArray, List.getElem?_cons_zero, List.getElem?_cons_succ] at x17 x27
        have hBZ := below_drewN hBq n7
        go_wp2_with fail
        refine (alike_P hP7 _ _).mono ?_
        rintro e w6 ⟨rfl, b6⟩
        have hP6 := hP7.below b6
        have hB6 := below_then hBZ (Nat.le_refl _) b6
        go_wp2_with fail
        exact ⟨⟨k + 1, _, by omega, by go_num, hP6, hB6⟩, by simp [intOf]; omega⟩
      have e0 : (d == 0) = false := by simpa using hd0
      have e1 : (d == 1) = false := by simpa using hd1
      have e2 : (d == 2) = false := by simpa using hd2
      clear hd0 hd1 hd2
      go_wp2_with fail
      generalize wr.alloc (.cells #[.int .i64 d, .int .i64 a, .int .i64 b] 45) = wb at *
      have x15 := hX.cell 1
      have x25 := hX.cell 2
      have l5 := hX.lt
      simp only [List.getElem?_toArray, List.getElem?_cons_zero, List.getElem?_cons_succ] at x15 x25
      have hBZ := hB2
      go_wp2_with fail
      refine (alike_P hP2 _ _).mono ?_
      rintro e w6 ⟨rfl, b6⟩
      have hP6 := hP2.below b6
      have hB6 := below_then hBZ (Nat.le_refl _) b6
      go_wp2_with fail
      exact ⟨⟨k + 1, _, by omega, by go_num, hP6, hB6⟩, by simp [intOf]; omega⟩
    · obtain rfl : k = l1 := by omega
      go_wp2_with fail
      refine (wakes_ok _).mono ?_
      rintro e w7 ⟨rfl, b7⟩
      have hb7 := below_then hB (Nat.le_refl _) b7
      go_wp2_with fail
      go_ret
      exact ⟨rfl, hb7⟩
end Go.Proofs.Ytfdfblokbojcfaa

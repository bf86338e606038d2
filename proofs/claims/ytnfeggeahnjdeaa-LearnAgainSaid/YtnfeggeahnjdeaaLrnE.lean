/- latest and its iterator. -/
import Derived.Test.YtnfeggeahnjdeaaLrnD
import Derived.Test.YtnfeggeahnjdeaaRange
namespace Go.Proofs.Ytnfeggeahnjdeaa
open Go.RowKit Go.Lib

theorem latest_fn {w : World} (A : Option Addr) (n c : Nat) :
    Calls Try.prog 31 #[.slice A n c] w fun e w' => e = .returned (.func (.func 38) #[] #[.pointer (some ⟨w.heap.size, 0, none⟩)]) ∧ w' = w.alloc (.cells #[.slice A n c] 23) := by
  go_enter Try.func31, Try.ntmps31
  go_wp2
  go_ret
  exact ⟨rfl, rfl⟩

set_option maxHeartbeats 2000000 in
theorem latest_iter (l b1 : Nat) (lits : List Int) (LA : Option Addr) (cl : Nat) (X : Nat → World → Prop) (Z : World → Prop) (hl : lits.length ≤ 1000000)
    (hXg : ∀ j W, X j W → Row .i64 W LA lits ∧ Blk W b1 23 #[.slice LA lits.length cl])
    (hY : ∀ (i : Nat) (W : World) (hi : i < lits.length), X (i + 1) W →
      ∃ fn tmps assign body, (Instr.yield l #[.int .i64 i, .int .i64 lits[i]]).run Try.prog W = .ok (.round l fn tmps assign body) W ∧
        RoundIn Fence.wide 0 Try.prog l fn tmps assign body W fun e W' => (e = .returned (.bool true) ∧ X i W') ∨ (e = .returned (.bool false) ∧ Z W'))
    (w : World) (hx0 : X lits.length w) :
    Calls Try.prog 38 #[.func (.yield l) #[] #[], .pointer (some ⟨b1, 0, none⟩)] w fun e W' => e = .returned (.tuple #[]) ∧ (X 0 W' ∨ Z W') := by
  have hg0 := hXg _ _ hx0
  have c0 := hg0.2.cell 0
  simp only [List.getElem?_toArray, List.getElem?_cons_zero] at c0
  have HXg := Lib.hid hXg
  have HY := Lib.hid hY
  have Hx0 := Lib.hid hx0
  clear hXg hY hx0 hg0
  go_enter Try.func38, Try.ntmps38
  go_wp2
  go_loopw [3] (fun vi wr => ∃ j : Nat, j ≤ lits.length ∧ vi = .int .i64 ((j : Int) - 1) ∧ X j wr) (fun vi _ => (intOf vi + 1).toNat)
  case atStart => exact ⟨lits.length, Nat.le_refl _, by go_num, Hx0.out⟩
  case round =>
    obtain ⟨j, hj, rfl, hx⟩ := hrel
    cases j with
    | zero =>
      have d1 : decide ((0 : Int) ≤ ((0 : Nat) : Int) - 1) = false := by decide
      have Hx := Lib.hid hx
      clear hx
      go_wp2
      go_end0
      exact ⟨rfl, .inl Hx.out⟩
    | succ i =>
      rw [show (((i + 1 : Nat) : Int) - 1) = i by omega]
      have d1 : decide ((0 : Int) ≤ (i : Int)) = true := by simp
      obtain ⟨hrow, hbk⟩ := HXg.out _ _ hx
      obtain ⟨b, off, hA, hb, hcell⟩ := hrow.at_.resolve_left (by omega)
      subst hA
      have y0 := hcell i (by omega)
      have c1 := hbk.cell 0
      simp only [List.getElem?_toArray, List.getElem?_cons_zero] at c1
      have t1 : (0 : Int) ≤ (i : Int) := by omega
      have t2 : (i : Int) < (lits.length : Int) := by omega
      obtain ⟨fn, tmps, assign, body, hyield, hround⟩ := HY.out i _ (by omega) hx
      clear hx hrow hbk hcell
      generalize lits[i]'(by omega) = x at *
      go_upto_region 3 with (fail)
      refine (wpIn_wide (n := 1)).1 ?_
      gi_wp2
      refine hround.mono ?_
      rintro e W5 (⟨rfl, hx5⟩ | ⟨rfl, hz5⟩)
      · have Hx5 := Lib.hid hx5
        clear hx5
        gi_wp2
        go_wp2
        exact ⟨⟨i, by omega, by go_num, Hx5.out⟩, by simp only [intOf]; omega⟩
      · have Hz5 := Lib.hid hz5
        clear hz5
        gi_wp2
        go_wp2
        refine bodyPost_ret (v := .tuple #[]) (by simp [results, Try.results38, go_sem]) rfl ?_
        exact ⟨rfl, .inr Hz5.out⟩
end Go.Proofs.Ytnfeggeahnjdeaa

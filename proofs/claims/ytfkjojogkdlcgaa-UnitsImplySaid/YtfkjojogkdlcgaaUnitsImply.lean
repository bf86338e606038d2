/- UnitsImply's walk. -/
import Derived.Test.YtfkjojogkdlcgaaUnY
namespace Go.Proofs.Ytfkjojogkdlcgaa
open Go.RowKit Go.Lib

set_option maxRecDepth 100000 in
set_option maxHeartbeats 4000000 in
theorem unitsImply_walk (A0 : Option Addr) (l0 c0 : Nat) (A : Nat → Option Addr) (L C : Nat → Nat) (Z : Nat → List Int) (A1 : Option Addr) (l1 c1 : Nat) (z1 : List Int) (lit : Int) (w : World) (w0 : IsGrid w A0 l0 c0 A L C Z) (w1 : IsRow .i64 w A1 l1 c1 z1) (s1 : c1 * 8 ≤ 140737488351232) (_w2 : (Lit.int .i64 lit).wf = true) :
    Calls Try.prog 7 #[.slice A0 l0 c0, .slice A1 l1 c1, .int .i64 lit] w fun e w' => e = .returned (.bool true) ∧ Below w.heap.size w w' := by
  have hlc : l1 ≤ c1 ∧ (z1.take l1).length = l1 := by
    rcases w1 with ⟨_, rfl, rfl, rfl⟩ | ⟨_, _, h1, _, h3, _⟩
    · exact ⟨Nat.le_refl _, rfl⟩
    · exact ⟨h1, by rw [List.length_take]; omega⟩
  have hb1 : Below w.heap.size w (w.alloc (.cells #[.int .i64 lit] 3)) := (Below.refl _ w).alloc (Nat.le_refl _) _
  have X1 := Lib.hid (show (1 + l1) * 8 ≤ 140737488355328 by have := hlc.1; omega)
  have X2 := Lib.hid (show 1 + l1 = ([lit] ++ z1.take l1).length by rw [List.length_append, hlc.2]; rfl)
  have X3 := Lib.hid (show 1 + l1 ≤ 9223372036854775807 by have := hlc.1; omega)
  have W0 := Lib.hid w0
  have W1 := Lib.hid w1
  have W1a := Lib.hid (w1.alloc (.cells #[.int .i64 lit] 3))
  have Hb1 := Lib.hid hb1
  clear w0 w1 hlc hb1 s1
  go_enter Try.func7, Try.ntmps7
  go_upto_region 3 with (first
    | (at_builtin; refine list_append_any _ rfl (.tmp 9) (.tmp 10) rfl w.heap.size _ 1 [lit] rfl (own_one w lit) A1 l1 c1 z1 rfl W1a.out X1.out (by simp) ?_; intro v1 wa ho1 hg1; obtain ⟨GA, gc, rfl, hga⟩ := own_given ho1 X2.out; have HGA := Lib.hid hga; have HB1 := Lib.hid (below_grow Hb1.out hg1 (by simp) (Nat.le_refl _)); clear ho1 hg1 hga)
    | (go_at_call 10; (with_reducible refine (great16g_ok (W0.out.below HB1.out) HGA.out X3.out).mono ?_); rintro e w1 ⟨bb, rfl, rfl, hbb⟩; have HBB := Lib.hid hbb; clear hbb; cases bb))
  rotate_left
  · refine (wakes_ok _).mono ?_
    rintro e w2 ⟨rfl, b2⟩
    go_wp2
    go_ret
    exact ⟨rfl, below_then HB1.out (Nat.le_refl _) b2⟩
  have hS := HBB.out (by first | rfl | trivial)
  have hs2 : Small l0 L Z l1 z1 := ⟨hS.l80, by have := hS.g200; omega, hS.rows, fun i hi => by
    have h1 := hS.given (i + 1) (by omega)
    have h2 : i < (z1.take l1).length := by
      have := X2.out
      rw [List.length_append] at this
      simp at this
      rw [List.length_take]
      omega
    rw [List.getD_eq_getElem?_getD] at h1 ⊢
    rw [List.singleton_append, List.getElem?_cons_succ, List.getElem?_eq_getElem h2, List.getElem_take] at h1
    rw [List.length_take] at h2
    rw [List.getElem?_eq_getElem (by omega)]
    exact h1⟩
  obtain ⟨R, zs, rfl, rfl, hT⟩ := tame_of W0.out W1.out hs2
  have hr80 := hT.r80
  have hz200 := hT.z200
  have hr1000 : R.length ≤ 1000 := by omega
  have hgrid := hT.grid.below HB1.out
  have hrow := hT.row.below HB1.out
  obtain ⟨e1, e2⟩ := hT.each2
  have K1 := closes_ok c0 c1 hgrid hrow hT.max
  have K2 := fun W (h : Below wa.heap.size wa W) => closes16_ok c0 c1 (hgrid.below h) hr1000 e1 e2 (hrow.below h) hT.max
  have K3 := fun W (h : Below wa.heap.size wa W) => implies_ok c0 c1 (hgrid.below h) (hrow.below h) hT.max lit
  have K4 := fun W (h : Below wa.heap.size wa W) => implies16_ok c0 c1 (hgrid.below h) hr1000 e1 e2 (hrow.below h) hT.max lit
  generalize ((runM (rowsOf R) zs).2 != -1) = q1 at K1 K2
  generalize implM (rowsOf R) zs lit = q2 at K3 K4
  have b1 : (q1 == q1) = true := by simp
  have b2 : (q2 == q2) = true := by simp
  clear hS hs2 hT hgrid hrow HGA HBB W0 W1 W1a X1 X2 X3 e1 e2
  go_wp2_with (first
    | (go_at_call 19; (with_reducible refine K1.mono ?_); rintro e w3 ⟨rfl, hb3⟩; have HB3 := Lib.hid hb3; clear hb3)
    | (go_at_call 20; (with_reducible refine (K2 _ HB3.out).mono ?_); rintro e w4 ⟨rfl, hb4⟩; have HB4 := Lib.hid (below_then HB3.out (Nat.le_refl _) hb4); clear hb4)
    | (go_at_call 21; (with_reducible refine (K3 _ HB4.out).mono ?_); rintro e w5 ⟨rfl, hb5⟩; have HB5 := Lib.hid (below_then HB4.out (Nat.le_refl _) hb5); clear hb5)
    | (go_at_call 22; (with_reducible refine (K4 _ HB5.out).mono ?_); rintro e w6 ⟨rfl, hb6⟩; have HB6 := Lib.hid (below_then HB1.out (Nat.le_refl _) (below_then HB5.out (Nat.le_refl _) hb6)); clear hb6)
    | (go_at_call 11; refine (wakes_ok _).mono ?_; rintro e w7 ⟨rfl, b7⟩; have HB7 := Lib.hid (below_then HB6.out (Nat.le_refl _) b7); clear b7))
  go_ret
  exact ⟨rfl, HB7.out⟩
end Go.Proofs.Ytfkjojogkdlcgaa

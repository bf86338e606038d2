/- UnitsTurn's walk. -/
import Derived.Test.YtfkjojogkdlcgaaUnT
namespace Go.Proofs.Ytfkjojogkdlcgaa
open Go.RowKit Go.Lib

theorem turn_law {cs : List (List Int)} {given : List Int} {lit : Int} (h0 : 0 ≤ lit) (hl : lit ≤ 4000) (h : implM cs given lit = true) : (runM cs (given ++ [negM lit])).2 ≠ -1 := by
  intro hk
  obtain ⟨h1, h2⟩ := run_sub (cs := cs) (cs' := cs) (given := given ++ [negM lit]) (given' := given) (fun c hc => hc) (fun x hx => List.mem_append_left _ hx) hk
  have hn : negM lit ∈ (runM cs (given ++ [negM lit])).1 := (run_none hk).1 _ (by simp) ((wide_iff _).2 (by unfold negM; split <;> omega))
  unfold implM at h
  rw [h1] at h
  have hm : lit ∈ (runM cs given).1 := by simpa using h
  exact (run_lits cs (given ++ [negM lit])).not_both (h2 _ hm) hn
theorem implM_no {cs : List (List Int)} {given : List Int} {lit : Int} (h : implM cs given lit = false) : ((runM cs given).2 != -1) = false := by
  unfold implM at h
  rw [Bool.or_eq_false_iff] at h
  exact h.1

set_option maxRecDepth 100000 in
set_option maxHeartbeats 4000000 in
theorem unitsTurn_walk (A0 : Option Addr) (l0 c0 : Nat) (A : Nat → Option Addr) (L C : Nat → Nat) (Z : Nat → List Int) (A1 : Option Addr) (l1 c1 : Nat) (z1 : List Int) (lit : Int) (w : World) (w0 : IsGrid w A0 l0 c0 A L C Z) (w1 : IsRow .i64 w A1 l1 c1 z1) (s1 : c1 * 8 ≤ 140737488351232) (w2 : (Lit.int .i64 lit).wf = true) :
    Calls Try.prog 8 #[.slice A0 l0 c0, .slice A1 l1 c1, .int .i64 lit] w fun e w' => e = .returned (.bool true) ∧ Below w.heap.size w w' := by
  have hlit := wf_le w2
  have hlc : l1 ≤ c1 ∧ (z1.take l1).length = l1 := by
    rcases w1 with ⟨_, rfl, rfl, rfl⟩ | ⟨_, _, h1, _, h3, _⟩
    · exact ⟨Nat.le_refl _, rfl⟩
    · exact ⟨h1, by rw [List.length_take]; omega⟩
  have hb1 : Below w.heap.size w (w.alloc (.cells #[.int .i64 lit] 3)) := (Below.refl _ w).alloc (Nat.le_refl _) _
  have X1 := Lib.hid (show (1 + l1) * 8 ≤ 140737488355328 by have := hlc.1; omega)
  have X2 := Lib.hid (show 1 + l1 = ([lit] ++ z1.take l1).length by rw [List.length_append, hlc.2]; rfl)
  have X3 := Lib.hid (show 1 + l1 ≤ 9223372036854775807 by have := hlc.1; omega)
  have W0 := Lib.hid w0
  have W1 := Lib.hid w1
  have W1a := Lib.hid (w1.alloc (.cells #[.int .i64 lit] 3))
  have Hb1 := Lib.hid hb1
  clear w0 w1 w2 hlc hb1 s1
  go_enter Try.func8, Try.ntmps8
  by_cases h0 : lit < 0
  · have d0 : decide (lit < (0 : Int)) = true := decide_eq_true h0
    clear h0
    go_wp2_with (first
      | (at_builtin; refine list_append_any _ rfl (.tmp 10) (.tmp 11) rfl w.heap.size _ 1 [lit] rfl (own_one w lit) A1 l1 c1 z1 rfl W1a.out X1.out (by simp) ?_; intro v1 wa ho1 hg1; obtain ⟨GA, gc, rfl, hga⟩ := own_given ho1 X2.out; have HGA := Lib.hid hga; have HB1 := Lib.hid (below_grow Hb1.out hg1 (by simp) (Nat.le_refl _)); clear ho1 hg1 hga)
      | (go_at_call 10; (with_reducible refine (great16g_ok (W0.out.below HB1.out) HGA.out X3.out).mono ?_); rintro e w1 ⟨bb, rfl, rfl, hbb⟩; have HBB := Lib.hid hbb; clear hbb; cases bb)
      | (go_at_call 11; refine (wakes_ok _).mono ?_; rintro e w2 ⟨rfl, b2⟩))
    all_goals
      go_ret
      exact ⟨rfl, below_then HB1.out (Nat.le_refl _) b2⟩
  have d0 : decide (lit < (0 : Int)) = false := decide_eq_false h0
  have H0 := Lib.hid (show 0 ≤ lit by omega)
  clear h0
  go_upto_region 3 with (first
    | (at_builtin; refine list_append_any _ rfl (.tmp 10) (.tmp 11) rfl w.heap.size _ 1 [lit] rfl (own_one w lit) A1 l1 c1 z1 rfl W1a.out X1.out (by simp) ?_; intro v1 wa ho1 hg1; obtain ⟨GA, gc, rfl, hga⟩ := own_given ho1 X2.out; have HGA := Lib.hid hga; have HB1 := Lib.hid (below_grow Hb1.out hg1 (by simp) (Nat.le_refl _)); clear ho1 hg1 hga)
    | (go_at_call 10; (with_reducible refine (great16g_ok (W0.out.below HB1.out) HGA.out X3.out).mono ?_); rintro e w1 ⟨bb, rfl, rfl, hbb⟩; have HBB := Lib.hid hbb; clear hbb; cases bb))
  rotate_left
  · refine (wakes_ok _).mono ?_
    rintro e w2 ⟨rfl, b2⟩
    go_wp2
    go_ret
    exact ⟨rfl, below_then HB1.out (Nat.le_refl _) b2⟩
  have hS := HBB.out (by first | rfl | trivial)
  have hl4 : lit ≤ 4000 := hS.given 0 (by have := X2.out; omega)
  have hs2 : Small l0 L Z l1 z1 := ⟨hS.l80, by have := hS.g200; omega, hS.rows, fun i hi => by
    have h1 := hS.given (i + 1) (by omega)
    have h2 : i < (z1.take l1).length := by
      have := X2.out
      rw [List.length_append] at this
      simp at this
      rw [List.length_take]
      omega
    rw [List.getD_eq_getElem?_getD] at h1 ⊢
    rw [List.singleton_append, List.getElem?_cons_succ, List.getElem?_eq_getElem h2, List.getElem_take] at h1
    rw [List.length_take] at h2
    rw [List.getElem?_eq_getElem (by omega)]
    exact h1⟩
  obtain ⟨R, zs, rfl, rfl, hT⟩ := tame_of W0.out W1.out hs2
  have hr80 := hT.r80
  have hz200 := hT.z200
  have hgrid := hT.grid.below HB1.out
  have hrow := hT.row.below HB1.out
  have K1 := implies_ok c0 c1 hgrid hrow hT.max lit
  have HT := Lib.hid hT
  have Hgrid := Lib.hid hgrid
  have Hrow := Lib.hid hrow
  clear hS hs2 hT hgrid hrow HGA HBB W0 W1 W1a X1 X2 X3
  cases him : implM (rowsOf R) zs lit with
  | false =>
    rw [him] at K1
    have K2 := fun W (h : Below wa.heap.size wa W) => closes_ok c0 c1 (Hgrid.out.below h) (Hrow.out.below h) HT.out.max
    rw [implM_no him] at K2
    clear him
    go_wp2_with (first
      | (go_at_call 21; (with_reducible refine K1.mono ?_); rintro e w3 ⟨rfl, hb3⟩; have HB3 := Lib.hid hb3; clear hb3)
      | (go_at_call 19; (with_reducible refine (K2 _ HB3.out).mono ?_); rintro e w4 ⟨rfl, hb4⟩; have HB4 := Lib.hid (below_then HB1.out (Nat.le_refl _) (below_then HB3.out (Nat.le_refl _) hb4)); clear hb4)
      | (go_at_call 11; refine (wakes_ok _).mono ?_; rintro e w5 ⟨rfl, b5⟩; have HB5 := Lib.hid (below_then HB4.out (Nat.le_refl _) b5); clear b5))
    go_ret
    exact ⟨rfl, HB5.out⟩
  | true =>
    rw [him] at K1
    have hne := turn_law H0.out hl4 him
    have hand : bits .and .i64 lit 1 = lit % 2 := i64_and_one lit H0.out (by omega)
    have Hne := Lib.hid hne
    clear hne him
    go_upto_region 5 with (go_at_call 21; (with_reducible refine K1.mono ?_); rintro e w3 ⟨rfl, hb3⟩; have HB3 := Lib.hid hb3; have HB4 := Lib.hid (below_then HB1.out (Nat.le_refl _) hb3); clear hb3)
    have hneg : negM lit = lit + 1 - 2 * (lit % 2) := by unfold negM; split <;> omega
    have Hneg := Lib.hid hneg
    have h0 := H0.out
    clear hneg
    go_upto_region 6 with (fail)
    generalize hnl : lit + 1 - 2 * (lit % 2) = nl
    have hnn : nl = negM lit := by rw [Hneg.out, hnl]
    have hn4 : nl ≤ 4001 := by omega
    have hne := Hne.out
    rw [← hnn] at hne
    obtain ⟨L2, hL⟩ : ∃ L2, [] ++ zs ++ [nl] = L2 := ⟨_, rfl⟩
    rw [show zs ++ [nl] = L2 from hL] at hne
    have hL2l : L2.length = 0 + zs.length + 1 := by rw [← hL]; simp
    have hL2m : ∀ x ∈ L2, x ≤ 9223372036854775807 := by
      intro x hx
      rw [← hL, List.nil_append, List.mem_append, List.mem_singleton] at hx
      rcases hx with hx | hx
      · exact HT.out.max x hx
      · omega
    have hbne : ((runM (rowsOf R) L2).2 != -1) = true := by simpa using hne
    have HL2 := Lib.hid hL
    have HL2l := Lib.hid hL2l
    have HL2m := Lib.hid hL2m
    have Hbne := Lib.hid hbne
    have hba : Below w3.heap.size w3 (w3.alloc (.cells #[] 3)) := (Below.refl _ w3).alloc (Nat.le_refl _) _
    have Hba := Lib.hid hba
    have Hr3 := Lib.hid ((Hrow.out.below HB3.out).below hba)
    have Hg3 := Lib.hid (Hgrid.out.below HB3.out)
    clear hnl hnn hne hL hL2l hL2m hbne hba
    go_wp2_with (first
      | (at_builtin; refine list_append_row _ rfl (.tmp 38) (.tmp 39) rfl w3.heap.size _ 0 [] rfl (own_empty w3) A1 c1 zs rfl Hr3.out HT.out.nil (by omega) (by simp) ?_; intro v1 wc ho1 hg1; have HO1 := Lib.hid ho1; have HG1 := Lib.hid (below_grow Hba.out hg1 (by simp) (Nat.le_refl _)); clear ho1 hg1)
      | (at_builtin; refine list_append_row _ rfl (.tmp 40) (.tmp 42) rfl w3.heap.size v1 (0 + zs.length) ([] ++ zs) rfl (World.ownsRow.alloc HO1.out _) (some ⟨wc.heap.size, 0, none⟩) 1 [nl] rfl (one_row wc nl) (by intro h; cases h) (by simp; omega) (Nat.le_trans HG1.out.size (by simp)) ?_; intro v2 wd ho2 hg2; rw [HL2.out] at ho2; obtain ⟨D, d, rfl, hr2, _⟩ := own_row ho2 (by rw [HL2l.out]; rfl) (by rw [HL2l.out]; omega); have HR2 := Lib.hid hr2; have HG2 := Lib.hid (Below.grown (HG1.out.alloc HG1.out.size _) hg2 (Nat.le_trans HG1.out.size (by simp)) (fun j hj => (HO1.out.lt j hj).1)); clear ho2 hg2 hr2)
      | (go_at_call 19; (refine (closes_ok c0 d (Hg3.out.below HG2.out) HR2.out HL2m.out).mono ?_); rintro e w4 ⟨rfl, hb4⟩; rw [Hbne.out]; have HB5 := Lib.hid (below_then HB4.out (Nat.le_refl _) (below_then HG2.out (Nat.le_refl _) hb4)); clear hb4)
      | (go_at_call 11; refine (wakes_ok _).mono ?_; rintro e w5 ⟨rfl, b5⟩; have HB6 := Lib.hid (below_then HB5.out (Nat.le_refl _) b5); clear b5))
    go_ret
    exact ⟨rfl, HB6.out⟩
end Go.Proofs.Ytfkjojogkdlcgaa

/- LearnAgain's walk. -/
import Derived.Test.YtnfeggeahnjdeaaLrnR
import Derived.Test.YtnfeggeahnjdeaaSame20
namespace Go.Proofs.Ytnfeggeahnjdeaa
open Go.RowKit Go.Lib

set_option maxRecDepth 100000 in
set_option maxHeartbeats 2000000 in
theorem learnAgain_walk (n : Int) (A1 : Option Addr) (l1 c1 : Nat) (f : Nat → Int × Int × Int) (A2 : Option Addr) (l2 c2 : Nat) (A : Nat → Option Addr) (L C : Nat → Nat) (Z : Nat → List Int) (A3 : Option Addr) (l3 c3 : Nat) (z3 : List Int) (w : World)
    (_w0 : (Lit.int .i64 n).wf = true) (w1 : IsActs w A1 l1 c1 f) (w2 : IsGrid w A2 l2 c2 A L C Z) (w3 : IsRow .i64 w A3 l3 c3 z3) :
    Calls Try.prog 4 #[.int .i64 n, .slice A1 l1 c1, .slice A2 l2 c2, .slice A3 l3 c3] w fun e w' => e = .returned (.bool true) ∧ Below w.heap.size w w' := by
  have K0 := great20_ok n A1 l1 c1 A3 l3 c3 w2
  have W1 := Lib.hid w1
  have W2 := Lib.hid w2
  have W3 := Lib.hid w3
  clear w1 w2 w3
  go_enter Try.func4, Try.ntmps4
  go_upto_region 3 with (first
    | (go_at_call 11; (with_reducible refine K0.mono ?_); rintro e w1 ⟨bb, rfl, rfl, hbb⟩; have HBB := Lib.hid hbb; clear hbb; cases bb)
    | (go_at_call 6; refine (wakes_ok _).mono ?_; rintro e w9 ⟨rfl, hb9⟩; have HB9 := Lib.hid hb9; clear hb9))
  all_goals first
    | (go_ret; exact ⟨rfl, HB9.out⟩)
    | skip
  obtain ⟨h0, h60, h150, hng, h100⟩ := HBB.out (by simp)
  obtain ⟨k, rfl⟩ := Int.eq_ofNat_of_zero_le h0
  obtain ⟨R, rfl, hR⟩ := tameG W2.out (hng rfl)
  obtain ⟨hcl, hc, hcn, _⟩ := W3.out.row (by omega)
  generalize z3.take l3 = cs at *
  subst hcl
  have K1 := both_ok k (by omega) A1 l1 c1 f w W1.out h150
  have HR := Lib.hid hR
  have HC := Lib.hid hc
  have HCN := Lib.hid hcn
  have hr80 := hR.r80
  clear K0 W1 W2 W3 HBB hng hR hc hcn h0 h60 h150
  go_upto_region 6 with (go_at_call 12; go_loud (refine K1.mono ?_; rintro e w2 ⟨bt, ba, M, pu, rfl, hT, hS, hb2⟩); have HT := Lib.hid hT; have HS := Lib.hid hS; have HB2 := Lib.hid hb2; clear hT hS hb2)
  clear K1
  have hes : ∀ r ∈ R, r.2.2.length ≤ 1000 := HR.out.short
  have hmx : ∀ r ∈ R, ∀ x ∈ r.2.2, x ≤ 1000000 := fun r hr x hx => by have := (HR.out.each r hr).2 x hx; omega
  have K2 := learn_of (run_fn (cl := c2) (cap := c3) HT.out (HR.out.grid.below HB2.out) (HC.out.below HB2.out) HCN.out (by omega) hes hmx)
  have HES := Lib.hid hes
  have HMX := Lib.hid hmx
  have hagain := fun p b ch h => learn_again (c := cs) (p := p) (b := b) (ch := ch) (rows := rowsOf R) HT.out.ok HS.out h
  have HAG := Lib.hid hagain
  clear hes hmx hagain
  cases ho : learnM M (rowsOf R) cs with
  | none =>
    rw [ho] at K2
    clear ho HAG
    go_wp2_with (first
      | (go_at_call 8; refine K2.mono ?_; rintro e w3 ⟨CA, cc, rfl, _, _, hb3⟩; have HB3 := Lib.hid (below_then HB2.out (Nat.le_refl _) hb3); clear hb3)
      | (go_at_call 6; refine (wakes_ok _).mono ?_; rintro e w9 ⟨rfl, hb9⟩; have HB9 := Lib.hid (below_then HB3.out (Nat.le_refl _) hb9); clear hb9))
    go_ret
    exact ⟨rfl, HB9.out⟩
  | some o =>
    obtain ⟨p, b, ch⟩ := o
    have h2 := HAG.out p b ch ho
    rw [ho] at K2
    change Calls _ _ _ _ (LearnGot w2 p b 0) at K2
    have H2 := Lib.hid h2
    clear ho HAG h2
    go_upto_region 9 with (go_at_call 8; go_loud (refine K2.mono ?_; rintro e w3 ⟨CA, cc, rfl, hrow, hn, hb3⟩); have HRW := Lib.hid hrow; have HN := Lib.hid hn; have HL3 := Lib.hid hb3; have HB3 := Lib.hid (below_then HB2.out (Nat.le_refl _) hb3); clear hb3 hrow hn)
    clear K2
    have hrun : ∀ W, Below w3.heap.size w3 W → Calls Try.prog 21 #[.pointer (some ⟨bt, 0, none⟩), .slice A2 R.length c2, .slice CA p.length cc] W (RunPost W p b [] 0) := by
      intro W hb
      have hb' : Below w2.heap.size w2 W := below_then HL3.out (Nat.le_refl _) hb
      have := run_fn (cl := c2) (cap := cc) (HT.out.below hb') (HR.out.grid.below (below_then HB3.out (Nat.le_refl _) hb)) (HRW.out.below hb) HN.out (by omega) HES.out HMX.out
      rw [H2.out] at this
      exact this
    have K4 := learn_of (hrun w3 (Below.refl _ _))
    have K5 := fun W hb => chain_of (hrun W hb)
    clear hrun
    go_wp2_with (first
      | (go_at_call 8; refine K4.mono ?_; rintro e w4 ⟨CB, cd, rfl, hrow4, _, hb4⟩; have HRW4 := Lib.hid hrow4; have HL4 := Lib.hid hb4; have HB4 := Lib.hid (below_then HB3.out (Nat.le_refl _) hb4); clear hb4 hrow4)
      | (go_at_call 9; refine (K5 _ HL4.out).mono ?_; rintro e w5 ⟨CD, ce, rfl, hb5⟩; have HRW5 := Lib.hid (HRW4.out.below hb5); have HRP5 := Lib.hid (HRW.out.below (below_then HL4.out (Nat.le_refl _) hb5)); have HB5 := Lib.hid (below_then HB4.out (Nat.le_refl _) hb5); clear hb5)
      | (go_at_call 13; refine (same20_ok cc cd HRP5.out HRW5.out).mono ?_; rintro e w6 ⟨rfl, q6, rfl⟩; rw [show (p == p) = true by simp])
      | (go_at_call 6; refine (wakes_ok _).mono ?_; rintro e w9 ⟨rfl, hb9⟩; have HB9 := Lib.hid (below_then (below_drewN HB5.out _) (Nat.le_refl _) hb9); clear hb9))
    go_ret
    exact ⟨rfl, HB9.out⟩
end Go.Proofs.Ytnfeggeahnjdeaa

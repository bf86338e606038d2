/- decide. -/
import Derived.Test.YtmbekchnfbmhbaaGreatSrF
import Derived.StillTailTactics
import Derived.Test.YtmbekchnfbmhbaaGreatStillQ
namespace Go.Proofs.YtmbekchnfbmhbaaGreat
open Go.RowKit Go.Lib

theorem HH.node {w : World} {B bh n : Nat} {S : Nat → Prop} {lr : List Nat} (h : HH w B bh n S lr) {x : Nat} (hx : x ∈ lr) : x < n := by
  obtain ⟨va, vr, vt, la, lp, hp, ho, _, _⟩ := h
  exact ho.node x hx
theorem or_zero (x : Nat) (h : x ≤ 65536) : bits .or .i64 ((x : Int) * 2) 0 = (x : Int) * 2 := by
  have := i64_or_nat (x * 2) 0 (by omega) (by omega)
  rw [Nat.or_zero] at this
  rw [show ((x : Int) * 2) = ((x * 2 : Nat) : Int) by omega]
  exact this
theorem or_one (x : Nat) (h : x ≤ 65536) : bits .or .i64 ((x : Int) * 2) 1 = (x : Int) * 2 + 1 := by
  have := i64_or_nat (x * 2) 1 (by omega) (by omega)
  have h2 : x * 2 ||| 1 = x * 2 + 1 := by
    have := Nat.two_pow_add_eq_or_of_lt (i := 1) (b := 1) (by decide) x
    rw [show 2 ^ 1 * x = x * 2 by omega] at this
    exact this.symm
  rw [h2] at this
  rw [show ((x : Int) * 2) = ((x * 2 : Nat) : Int) by omega]
  rw [show ((x * 2 : Nat) : Int) + 1 = ((x * 2 + 1 : Nat) : Int) by omega]
  exact this

def decT (M : Tr) (lit : Int) : Tr := ⟨M.n, M.L ++ [⟨lit, ((M.lv + 1 : Nat) : Int), -1⟩], M.lv + 1⟩
theorem PI.decide {n : Nat} {M : Tr} {R : List RowT} {lr lr' : List Nat} (h : PI n M R lr) (hs : Shut21 (rowsOf R) (fun x => x ∈ litsM M)) {x : Nat} {lit : Int} (hx : x < n) (hl : lit / 2 = x) (hf : find M.L x = none) (hh : ∀ v : Nat, v < n → find M.L v = none → v ∈ lr' ∨ v = x) :
    beginE M = 0 ∧ putE (beginM M) lit (-1) = 0 ∧ putM (beginM M) lit (-1) = decT M lit ∧ PI n (decT M lit) R lr' := by
  have hlv := h.inv.lv_le
  have hlen := h.inv.len
  have hnn := h.nn
  have hmn := h.inv.mn
  have hb : beginM M = ⟨M.n, M.L, M.lv + 1⟩ := by unfold beginM; rw [if_neg (by omega)]
  have he : beginE M = 0 := by unfold beginE; rw [if_neg (by omega)]
  have hbad : putBad ⟨M.n, M.L, M.lv + 1⟩ lit (-1) = false := by
    unfold putBad
    rw [decide_eq_false (by omega), decide_eq_false (by show ¬ (M.n : Int) ≤ lit / 2; omega), decide_eq_false (by omega)]
    rfl
  have hf2 : find M.L (lit / 2) = none := by rw [hl]; exact hf
  rw [hb]
  refine ⟨he, ?_, ?_, ⟨h.inv.decide hs (by omega) (by omega) hf2 (by omega), h.cl, fun v hv hn => ?_, h.small, h.nn⟩⟩
  · unfold putE
    rw [if_neg (by rw [hbad]; simp)]
    show (match find M.L (lit / 2) with | some _ => (32 : Int) | none => 0) = 0
    rw [hf2]
  · unfold putM
    rw [if_neg (by rw [hbad]; simp)]
    show (match find M.L (lit / 2) with | some _ => (⟨M.n, M.L, M.lv + 1⟩ : Tr) | none => _) = _
    rw [hf2]
    rfl
  · have hn' : find (M.L ++ [⟨lit, ((M.lv + 1 : Nat) : Int), -1⟩]) v = none := hn
    rw [find_append] at hn'
    split at hn'
    · cases hn'
    · rename_i hfv
      rcases hh v hv hfv with h1 | h1
      · exact h1
      · subst h1
        rw [if_pos hl] at hn'
        cases hn'

section
variable {w : World} {b : Bl} {n : Nat} {S : Nat → Prop} {vl vp vs : Value} {k : Int} {M M' : Tr} {R st : List RowT} {lr lr' : List Nat} {ph : List Int}
def DecOut (w : World) (b : Bl) (n : Nat) (vl vp vs : Value) (k : Int) (M : Tr) (R st : List RowT) (ph : List Int) (e : Ending) (w' : World) : Prop :=
  Below b.H0 w w' ∧ ∃ S2 lr2, (e = .returned (.bool false) ∧ SS w' b n S2 vl vp vs k M R st lr2 ph ∧ ∀ v : Nat, v < n → find M.L v ≠ none) ∨ ∃ lit, e = .returned (.bool true) ∧ SS w' b n S2 vl vp vs k (decT M lit) R st lr2 ph ∧ PI n (decT M lit) R lr2
def DecAt (w : World) (b : Bl) (n : Nat) (vl vp vs : Value) (k : Int) (M : Tr) (R st : List RowT) (ph : List Int) (g : Nat) (v3 v4 : Value) (wr : World) : Prop :=
  ∃ S2 lr2, SS wr b n S2 vl vp vs k M R st lr2 ph ∧ Below b.H0 w wr ∧ ((∃ x : Nat, v3 = .int .i64 (x : Int) ∧ v4 = .bool true ∧ x < n ∧ lr2.length + 1 = g ∧ ∀ v : Nat, v < n → find M.L v = none → v ∈ lr2 ∨ v = x) ∨ (v3 = .int .i64 0 ∧ v4 = .bool false ∧ g = 0 ∧ ∀ v : Nat, v < n → find M.L v ≠ none))
theorem SS.pop {w' : World} {S' : Nat → Prop} {lr2 : List Nat} (h : SS w b n S vl vp vs k M R st lr ph) (hh : HH w' b.H0 b.bh n S' lr2) (hk : Kept S w w') (hS : ∀ g, S' g → S g ∨ w.heap.size ≤ g) : SS w' b n S' vl vp vs k M R st lr2 ph ∧ Below b.H0 w w' :=
  ⟨h.heap hk hh hS, hk.below (Nat.le_of_lt h.lt) fun i hi => (h.h.low hi).1⟩
def PopD (w : World) (b : Bl) (n : Nat) (vl vp vs : Value) (k : Int) (M : Tr) (R st : List RowT) (lr : List Nat) (ph : List Int) (e : Ending) (w' : World) : Prop := ∃ v3 v4 g, e = .returned (.tuple #[v3, v4]) ∧ g ≤ lr.length ∧ DecAt w b n vl vp vs k M R st ph g v3 v4 w'
theorem popD {wr : World} (h : SS wr b n S vl vp vs k M R st lr ph) (hb : Below b.H0 w wr) (ha : ∀ v : Nat, v < n → find M.L v = none → v ∈ lr) :
    Calls Tryz.prog 53 #[.pointer (some ⟨b.bh, 0, none⟩)] wr (PopD w b n vl vp vs k M R st lr ph) := by
  by_cases h0 : lr = []
  · subst h0
    refine (pop_none h.h).mono ?_
    rintro e w' ⟨rfl, rfl⟩
    exact ⟨_, _, 0, rfl, Nat.le_refl _, S, [], h, hb, .inr ⟨rfl, rfl, rfl, fun v hv hn => by have := ha v hv hn; cases this⟩⟩
  · refine (pop_some h.h h0).mono ?_
    rintro e w' ⟨S2, lr2, x, rfl, hx, hh, hm, hk, hS, hlt⟩
    obtain ⟨h1, h2⟩ := h.pop hh hk hS
    exact ⟨_, _, lr2.length + 1, rfl, by omega, S2, lr2, h1, hb.trans h2, .inl ⟨x, rfl, rfl, h.h.node hx, rfl, fun v hv hn => by
      by_cases e : v = x
      · exact .inr e
      · exact .inl ((hm v).2 ⟨ha v hv hn, e⟩)⟩⟩

set_option maxRecDepth 100000 in
set_option maxHeartbeats 4000000 in
theorem decide_ok (h : SS w b n S vl vp vs k M R st lr ph) (hp : PI n M R lr) (hs : Shut21 (rowsOf R) (fun x => x ∈ litsM M)) :
    Calls Tryz.prog 36 #[.pointer (some ⟨b.bs, 0, none⟩)] w (DecOut w b n vl vp vs k M R st ph) := by
  have K1 := popD (w := w) h (Below.refl _ _) hp.heap
  have c4 := h.blk.cell 4
  simp only [List.getElem?_toArray, List.getElem?_cons_zero, List.getElem?_cons_succ] at c4
  have HP := Lib.hid hp
  have HS := Lib.hid hs
  have hn16 : n ≤ 400 := hp.nn
  clear h hp hs
  go_enter Tryz.func36, Tryz.ntmps36
  go_wp2_with fail
  refine K1.mono ?_
  rintro e w1 ⟨v3, v4, g, rfl, _, hat⟩
  have HAT := Lib.hid hat
  clear K1 c4 hat
  go_wp2
  go_loopg [3, 4] g (DecAt w b n vl vp vs k M R st ph)
  case atStart => exact HAT.out
  case round =>
    obtain ⟨S2, lr2, hss, hbel, hcase⟩ := hrel
    clear HAT
    have c4 := hss.blk.cell 4
    have c3 := hss.blk.cell 3
    simp only [List.getElem?_toArray, List.getElem?_cons_zero, List.getElem?_cons_succ] at c4 c3
    rcases hcase with ⟨x, rfl, rfl, hxn, hg, hop⟩ | ⟨rfl, rfl, hg, hop⟩
    · have KV := val_T hss.t ((x : Int) * 2)
      have hx16 : x ≤ 4096 := by omega
      by_cases hv : valOf M.L ((x : Int) * 2) = 0
      · have hf := valOf_zero hv
        rw [show (x : Int) * 2 / 2 = x by omega] at hf
        rw [hv] at KV
        obtain ⟨gp, cp, hvp, hgp, _, _⟩ := own_form hss.p (by omega)
        have c5 := hss.blk.cell 5
        simp only [List.getElem?_toArray, List.getElem?_cons_zero, List.getElem?_cons_succ] at c5
        have hpl := hss.hp
        have y5 : wr.cell? ⟨gp, x, none⟩ = some (.int .i8 (ph[x]'(by omega))) := by
          have ho := hss.p
          rw [hvp] at ho
          exact (ho.cellAt x (by omega)).trans (by rw [List.getElem?_map, List.getElem?_eq_getElem (by omega)]; rfl)
        have hpv := hss.pval _ (List.getElem_mem (show x < ph.length by omega))
        obtain ⟨p, hpx⟩ : ∃ p, ph[x]? = some p := ⟨_, List.getElem?_eq_getElem (by omega)⟩
        have hpe : ph[x]'(by omega) = p := by
          rw [List.getElem?_eq_getElem (by omega)] at hpx
          injection hpx
        rw [hpe] at y5 hpv
        have HPX := Lib.hid hpx
        clear hpe hpx
        obtain ⟨p0, p2⟩ := hpv
        have HSS := Lib.hid hss
        have HBE := Lib.hid hbel
        have HOP := Lib.hid hop
        have HF := Lib.hid hf
        clear hss hbel hop hf hv hpl
        go_wp2_with fail
        refine KV.mono ?_
        rintro e w2 ⟨rfl, hb2⟩
        clear KV c3 c4 c5 y5
        have HS2 := Lib.hid (HSS.out.below hb2)
        have HB2 := Lib.hid (HBE.out.trans (hb2.mono (Nat.le_of_lt HSS.out.lt)))
        have c32 := HS2.out.blk.cell 3
        have c42 := HS2.out.blk.cell 4
        simp only [List.getElem?_toArray, List.getElem?_cons_zero, List.getElem?_cons_succ] at c32 c42
        clear HSS HBE hb2
        have t1 : (0 : Int) ≤ (x : Int) := by omega
        have t2 : (x : Int) < (n : Int) := by omega
        obtain rfl | rfl | rfl : p = 0 ∨ p = 1 ∨ p = 2 := by omega
        · have hor : bits .or .i64 ((x : Int) * 2) 0 = ((x : Int) * 2) := or_zero x (by omega)
          obtain ⟨q1, q2, q3, q4⟩ := HP.out.decide (x := x) (lit := ((x : Int) * 2)) HS.out hxn (by omega) HF.out HOP.out
          have K3 := begin_T HS2.out.t
          rw [q1] at K3
          have HQ2 := Lib.hid q2
          have HQ3 := Lib.hid q3
          have HQ4 := Lib.hid q4
          clear q1 q2 q3 q4
          go_wp2_with (go_at_call 55; (with_reducible refine K3.mono ?_); rintro e w3 ⟨rfl, ht3, hs3⟩; have HSS3 := Lib.hid (HS2.out.trail hs3 ht3); have HB3 := Lib.hid (HB2.out.trans hs3.below); clear ht3 hs3)
          have c33 := HSS3.out.blk.cell 3
          have c53 := HSS3.out.blk.cell 5
          simp only [List.getElem?_toArray, List.getElem?_cons_zero, List.getElem?_cons_succ] at c33 c53
          rw [hvp] at c53
          have y53 : w3.cell? ⟨gp, x, none⟩ = some (.int .i8 0) := by
            have ho := HSS3.out.p
            rw [hvp] at ho
            exact (ho.cellAt x (by omega)).trans (by rw [List.getElem?_map, HPX.out]; rfl)
          have K4 := put_T (w := w3.drew) (HSS3.out.t.drewN 1) ((x : Int) * 2) (-1)
          rw [HQ2.out, HQ3.out] at K4
          clear c32 c42
          refine wp_region_still_tail 16 (by kernel_rfl) (by kernel_rfl) ?_
          simp only [List.take_succ_cons, List.take_zero, List.drop_succ_cons, List.drop_zero]
          change wpStill Tryz.prog _ w3.drew (fun a' => wpList _ _ _ _ a' w3.drew) _ _
          iterate 16 still_step
          refine wpStill_nil ?_
          go_wp2_with fail
          rw [hor]
          refine K4.mono ?_
          rintro e w4 ⟨rfl, ht4, hs4⟩
          have HSS4 := Lib.hid ((HSS3.out.drewN 1).trail hs4 ht4)
          have HB4 := Lib.hid ((below_drewN HB3.out 1).trans hs4.below)
          clear ht4 hs4 hor K4
          go_wp2
          go_ret
          exact ⟨HB4.out, S2, lr2, .inr ⟨_, rfl, HSS4.out, HQ4.out⟩⟩
        · have hor : bits .or .i64 ((x : Int) * 2) 0 = ((x : Int) * 2) := or_zero x (by omega)
          obtain ⟨q1, q2, q3, q4⟩ := HP.out.decide (x := x) (lit := ((x : Int) * 2)) HS.out hxn (by omega) HF.out HOP.out
          have K3 := begin_T HS2.out.t
          rw [q1] at K3
          have HQ2 := Lib.hid q2
          have HQ3 := Lib.hid q3
          have HQ4 := Lib.hid q4
          clear q1 q2 q3 q4
          go_wp2_with (go_at_call 55; (with_reducible refine K3.mono ?_); rintro e w3 ⟨rfl, ht3, hs3⟩; have HSS3 := Lib.hid (HS2.out.trail hs3 ht3); have HB3 := Lib.hid (HB2.out.trans hs3.below); clear ht3 hs3)
          have c33 := HSS3.out.blk.cell 3
          have c53 := HSS3.out.blk.cell 5
          simp only [List.getElem?_toArray, List.getElem?_cons_zero, List.getElem?_cons_succ] at c33 c53
          rw [hvp] at c53
          have y53 : w3.cell? ⟨gp, x, none⟩ = some (.int .i8 1) := by
            have ho := HSS3.out.p
            rw [hvp] at ho
            exact (ho.cellAt x (by omega)).trans (by rw [List.getElem?_map, HPX.out]; rfl)
          have K4 := put_T (w := w3.drew) (HSS3.out.t.drewN 1) ((x : Int) * 2) (-1)
          rw [HQ2.out, HQ3.out] at K4
          clear c32 c42
          refine wp_region_still_tail 16 (by kernel_rfl) (by kernel_rfl) ?_
          simp only [List.take_succ_cons, List.take_zero, List.drop_succ_cons, List.drop_zero]
          change wpStill Tryz.prog _ w3.drew (fun a' => wpList _ _ _ _ a' w3.drew) _ _
          iterate 16 still_step
          refine wpStill_nil ?_
          go_wp2_with fail
          rw [hor]
          refine K4.mono ?_
          rintro e w4 ⟨rfl, ht4, hs4⟩
          have HSS4 := Lib.hid ((HSS3.out.drewN 1).trail hs4 ht4)
          have HB4 := Lib.hid ((below_drewN HB3.out 1).trans hs4.below)
          clear ht4 hs4 hor K4
          go_wp2
          go_ret
          exact ⟨HB4.out, S2, lr2, .inr ⟨_, rfl, HSS4.out, HQ4.out⟩⟩
        · have hor : bits .or .i64 ((x : Int) * 2) 1 = ((x : Int) * 2 + 1) := or_one x (by omega)
          obtain ⟨q1, q2, q3, q4⟩ := HP.out.decide (x := x) (lit := ((x : Int) * 2 + 1)) HS.out hxn (by omega) HF.out HOP.out
          have K3 := begin_T HS2.out.t
          rw [q1] at K3
          have HQ2 := Lib.hid q2
          have HQ3 := Lib.hid q3
          have HQ4 := Lib.hid q4
          clear q1 q2 q3 q4
          go_wp2_with (go_at_call 55; (with_reducible refine K3.mono ?_); rintro e w3 ⟨rfl, ht3, hs3⟩; have HSS3 := Lib.hid (HS2.out.trail hs3 ht3); have HB3 := Lib.hid (HB2.out.trans hs3.below); clear ht3 hs3)
          have c33 := HSS3.out.blk.cell 3
          have c53 := HSS3.out.blk.cell 5
          simp only [List.getElem?_toArray, List.getElem?_cons_zero, List.getElem?_cons_succ] at c33 c53
          rw [hvp] at c53
          have y53 : w3.cell? ⟨gp, x, none⟩ = some (.int .i8 2) := by
            have ho := HSS3.out.p
            rw [hvp] at ho
            exact (ho.cellAt x (by omega)).trans (by rw [List.getElem?_map, HPX.out]; rfl)
          have K4 := put_T (w := w3.drew) (HSS3.out.t.drewN 1) ((x : Int) * 2 + 1) (-1)
          rw [HQ2.out, HQ3.out] at K4
          clear c32 c42
          refine wp_region_still_tail 16 (by kernel_rfl) (by kernel_rfl) ?_
          simp only [List.take_succ_cons, List.take_zero, List.drop_succ_cons, List.drop_zero]
          change wpStill Tryz.prog _ w3.drew (fun a' => wpList _ _ _ _ a' w3.drew) _ _
          iterate 16 still_step
          refine wpStill_nil ?_
          go_wp2_with fail
          rw [hor]
          refine K4.mono ?_
          rintro e w4 ⟨rfl, ht4, hs4⟩
          have HSS4 := Lib.hid ((HSS3.out.drewN 1).trail hs4 ht4)
          have HB4 := Lib.hid ((below_drewN HB3.out 1).trans hs4.below)
          clear ht4 hs4 hor K4
          go_wp2
          go_ret
          exact ⟨HB4.out, S2, lr2, .inr ⟨_, rfl, HSS4.out, HQ4.out⟩⟩
      · have d1 : (valOf M.L ((x : Int) * 2) != 0) = true := by simpa using hv
        have hne : find M.L x ≠ none := fun hn => hv (by
          unfold valOf
          rw [show (x : Int) * 2 / 2 = x by omega, hn])
        have HNE := Lib.hid hne
        have HSS := Lib.hid hss
        have HBE := Lib.hid hbel
        have HOP := Lib.hid hop
        clear hv hne hss hbel hop
        go_wp2_with (go_at_call 54; (with_reducible refine KV.mono ?_); rintro e w2 ⟨rfl, hb2⟩; have HS2 := Lib.hid (HSS.out.below hb2); have HB2 := Lib.hid (HBE.out.trans (hb2.mono (Nat.le_of_lt HSS.out.lt))); have c42 := HS2.out.blk.cell 4; simp only [List.getElem?_toArray, List.getElem?_cons_zero, List.getElem?_cons_succ] at c42; clear hb2)
        have K5 := popD (w := w) HS2.out HB2.out (fun v hv hn => (HOP.out v hv hn).resolve_right (fun e => HNE.out (e ▸ hn)))
        go_wp2_with fail
        refine K5.mono ?_
        rintro e w5 ⟨v3, v4, g5, rfl, hg5, hat⟩
        have HAT := Lib.hid hat
        clear K5 hat
        go_wp2
        go_roundg g5
        case measure => omega
        case rel => exact HAT.out
    · have HF := Lib.hid (show DecOut w b n vl vp vs k M R st ph (.returned (.bool false)) wr from ⟨hbel, S2, lr2, .inl ⟨rfl, hss, hop⟩⟩)
      clear hss hbel hop hg
      go_wp2
      go_ret
      exact HF.out
end
end Go.Proofs.YtmbekchnfbmhbaaGreat

/- above, learns. -/
namespace Go.Proofs.YtmbekchnfbmhbaaGreat
open Go.RowKit Go.Lib

theorem isC_len {n : Nat} {c : List Int} (hc : isC c = true) (h : ∀ x ∈ c, 0 ≤ x ∧ x / 2 < n) : c.length ≤ 2 * n := by
  have := nodup_bound (2 * n) (c.map Int.toNat) (by
    rw [List.nodup_iff_pairwise_ne, List.pairwise_map]
    refine List.Pairwise.imp_of_mem ?_ (isC_ord hc)
    intro a b ha hb hab
    have := h a ha
    have := h b hb
    omega) (by
    intro x hx
    obtain ⟨y, hy, rfl⟩ := List.mem_map.1 hx
    have := h y hy
    omega)
  simpa using this

section
variable {w : World} {b : Bl} {n : Nat} {S : Nat → Prop} {vl vp vs : Value} {k : Int} {M M' : Tr} {R st : List RowT} {lr lr' : List Nat} {ph : List Int}
def SameS (w : World) (b : Bl) (n : Nat) (S : Nat → Prop) (vl vp vs : Value) (k : Int) (M : Tr) (R st : List RowT) (lr : List Nat) (ph : List Int) (v : Value) (e : Ending) (w' : World) : Prop :=
  e = .returned v ∧ SS w' b n S vl vp vs k M R st lr ph ∧ Below b.H0 w w'
set_option maxRecDepth 100000 in
set_option maxHeartbeats 4000000 in
theorem above_fn (h : SS w b n S vl vp vs k M R st lr ph) (hR : R.length ≤ 20000) {r : Nat} (hr : r < R.length) {lv : Int} (hl : levelM M R[r].2.2 = some lv) :
    Calls Tryz.prog 38 #[.pointer (some ⟨b.bs, 0, none⟩), .int .i64 r] w (SameS w b n S vl vp vs k M R st lr ph (.bool (decide (0 < lv)))) := by
  obtain ⟨MA, mc, hvl, hgrid⟩ := h.grid (by omega)
  obtain ⟨gb, off, hMA, hgb, hcell⟩ := hgrid.at_.resolve_left (by omega)
  subst hMA
  have y1 := (hcell r hr).1
  have hrow := (hcell r hr).2.1
  have hnil := (hcell r hr).2.2
  have c2 := h.blk.cell 2
  have c3 := h.blk.cell 3
  simp only [List.getElem?_toArray, List.getElem?_cons_zero, List.getElem?_cons_succ] at c2 c3
  rw [h.vb_none (fun e => by subst e; simp at hr)] at c2
  simp only [Option.getD_none] at c2
  rw [hvl] at c2
  have K := level_fn (w := w.drew) R[r].2.1 (h.t.drewN 1) (hrow.below (below_drewN (Below.refl _ w) 1)) hnil
  rw [hl] at K
  have H0 := Lib.hid h
  have t1 : (0 : Int) ≤ (r : Int) := by omega
  have t2 : (r : Int) < (R.length : Int) := by omega
  have K2 : Calls Tryz.prog 56 #[.pointer (some ⟨b.bt, 0, none⟩), .slice R[r].1 R[r].2.2.length R[r].2.1] w.drew fun e w' => e = .returned (.tuple #[.int .i64 lv, .int .i64 0]) ∧ Below w.drew.heap.size w.drew w' := K
  clear h hcell hrow hnil hgrid hvl hl K
  go_enter Tryz.func38, Tryz.ntmps38
  go_wp2
  refine wp_region_still_call 11 (by kernel_rfl) (by kernel_rfl) ?_
  simp only [List.take_succ_cons, List.take_zero, List.drop_succ_cons, List.drop_zero]
  change wpStill Tryz.prog _ w.drew (fun a' => wpOp _ _ _ _ _ a' w.drew) _ _
  iterate 11 still_step
  refine wpStill_nil ?_
  refine wpOp_of rfl rfl ?_
  go_simp
  refine K2.mono ?_
  rintro e w2 ⟨rfl, hb2⟩
  have HS := Lib.hid ((H0.out.drewN 1).below hb2)
  have HB := Lib.hid ((below_drewN (Below.refl b.H0 w) 1).trans (hb2.mono (Nat.le_of_lt H0.out.lt)))
  clear hb2
  refine wpStill_of_quiet _ _ ?_
  repeat (go_big_quiet_step (fail))
  refine wpQuiet_nil ?_
  go_wp2
  go_ret
  exact ⟨rfl, HS.out, HB.out⟩
end
end Go.Proofs.YtmbekchnfbmhbaaGreat

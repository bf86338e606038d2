/- Pop. -/
import Derived.Test.YtmbekchnfbmhbaaGreatHeapF
namespace Go.Proofs.YtmbekchnfbmhbaaGreat
open Go.RowKit Go.Lib

theorem HP.pop {w : World} {B bh gr cr gt ct m x n : Nat} {va vt : Value} {la : List Int} {lr : List Nat} {lp : List Int} (h : HP w B bh va (.slice (some ⟨gr, 0, none⟩) lr.length cr) vt la lr lp) (ho : HOk n lr lp) (hl : lr.length = m + 1) (hx : lr[m]? = some x)
    (hvt : vt = .slice (some ⟨gt, 0, none⟩) lp.length ct) :
    HP (w.setCell ⟨bh, 1, none⟩ (.slice (some ⟨gr, 0, none⟩) m cr)) B bh va (.slice (some ⟨gr, 0, none⟩) m cr) vt la (lr.take m) lp ∧
    HP ((w.setCell ⟨bh, 1, none⟩ (.slice (some ⟨gr, 0, none⟩) m cr)).setCell ⟨gt, x, none⟩ (.int .i64 (-1))) B bh va (.slice (some ⟨gr, 0, none⟩) m cr) vt la (lr.take m) (lp.set x (-1)) ∧ HOk n (lr.take m) (lp.set x (-1)) ∧ ∀ y, y ∈ lr.take m ↔ y ∈ lr ∧ y ≠ x := by
  have hbr : bh ≠ gr := fun e => h.rows_ne h.rows.own (by rw [e]; rfl)
  have hm : lr[m]'(by omega) = x := by
    rw [List.getElem?_eq_getElem (by omega)] at hx
    injection hx
  have hp1 : HP (w.setCell ⟨bh, 1, none⟩ (.slice (some ⟨gr, 0, none⟩) m cr)) B bh va (.slice (some ⟨gr, 0, none⟩) m cr) vt la (lr.take m) lp := by
    have hne : ∀ {v : Value} {xs : List Int}, IRowAt w B v xs → IRowAt (w.setCell ⟨bh, 1, none⟩ (.slice (some ⟨gr, 0, none⟩) m cr)) B v xs := fun hr => hr.far bh 1 _ (h.rows_ne hr.own)
    refine ⟨?_, hne h.act, ?_, hne h.at_, h.ar, h.at2, h.rt, h.hb⟩
    · have := h.blk.set_ 1 (.slice (some ⟨gr, 0, none⟩) m cr)
      simpa using this
    · have h2 : IRowAt w B (.slice (some ⟨gr, 0, none⟩) m cr) (nats (lr.take m)) := by
        have ho := h.rows.own
        rw [nats_len] at ho
        have h3 := own_take ho (show m ≤ lr.length by omega)
        have hlen : (nats (lr.take m)).length = m := by rw [nats_len, List.length_take]; omega
        refine ⟨?_, by rw [hlen]; have := h.rows.len; rw [nats_len] at this; omega⟩
        rw [hlen]
        rw [show (nats (lr.take m)).map (Value.int .i64) = ((nats lr).map (Value.int .i64)).take m by simp [nats, List.map_take]]
        rw [Nat.mul_one] at h3
        exact h3
      exact hne h2
  have hmem : ∀ y, y ∈ lr.take m ↔ y ∈ lr ∧ y ≠ x := by
    intro y
    constructor
    · intro hy
      obtain ⟨i, hi, e⟩ := List.mem_iff_getElem.1 hy
      rw [List.length_take] at hi
      rw [List.getElem_take] at e
      refine ⟨List.mem_of_mem_take hy, fun e2 => ?_⟩
      have := ho.inj (i := i) (k := m) (by omega) (by omega) (by rw [e, e2, hm])
      omega
    · rintro ⟨hy, hne⟩
      obtain ⟨i, hi, e⟩ := List.mem_iff_getElem.1 hy
      have him : i ≠ m := fun e2 => hne (by subst e2; rw [← e, hm])
      rw [List.mem_take_iff_getElem]
      exact ⟨i, by omega, e⟩
  refine ⟨hp1, hp1.setT hvt x (-1), ⟨by rw [List.length_set]; exact ho.at_, fun y hy => ho.node y ((hmem y).1 hy).1, fun i hi => ?_, fun v hv hn => ?_⟩, hmem⟩
  · have hi2 := hi
    rw [List.length_take] at hi2
    rw [List.getElem_take, List.getElem?_set, if_neg (show ¬ x = lr[i] from fun e => by
      have := ho.inj (i := i) (k := m) (by omega) (by omega) (by rw [← e, hm])
      omega)]
    exact ho.place i (by omega)
  · rw [List.getElem?_set]
    by_cases e : x = v
    · rw [if_pos e, if_pos (by have := ho.at_; omega)]
    · rw [if_neg e]
      exact ho.out v hv (fun hv2 => hn ((hmem v).2 ⟨hv2, fun e2 => e e2.symm⟩))

theorem pop_none {w : World} {B bh n : Nat} {S : Nat → Prop} (h : HH w B bh n S []) :
    Calls Tryz.prog 53 #[.pointer (some ⟨bh, 0, none⟩)] w fun e w' => e = .returned (.tuple #[.int .i64 0, .bool false]) ∧ w = w' := by
  obtain ⟨va, vr, vt, la, lp, hp, ho, hA, hS⟩ := h
  obtain ⟨R, cr, rfl, b1⟩ := hp.head
  simp only [List.length_nil] at b1
  clear hp ho hA hS
  go_enter Tryz.func53, Tryz.ntmps53
  go_wp2
  go_ret2
  exact ⟨rfl, rfl⟩

/-- What Pop leaves. -/
def PGave (w : World) (B bh n : Nat) (S : Nat → Prop) (lr : List Nat) (e : Ending) (w' : World) : Prop := ∃ S' lr' x, e = .returned (.tuple #[.int .i64 (x : Nat), .bool true]) ∧ x ∈ lr ∧ HH w' B bh n S' lr' ∧ (∀ y, y ∈ lr' ↔ y ∈ lr ∧ y ≠ x) ∧ Kept S w w' ∧ (∀ k, S' k → S k ∨ w.heap.size ≤ k) ∧ lr'.length < lr.length

set_option maxRecDepth 100000 in
set_option maxHeartbeats 2000000 in
theorem pop_some {w : World} {B bh n : Nat} {S : Nat → Prop} {lr : List Nat} (h : HH w B bh n S lr) (h0 : lr ≠ []) :
    Calls Tryz.prog 53 #[.pointer (some ⟨bh, 0, none⟩)] w (PGave w B bh n S lr) := by
  obtain ⟨va, vr, vt, la, lp, hp, ho, hA, hS⟩ := h
  obtain ⟨m, hm⟩ : ∃ m, lr.length = m + 1 := ⟨lr.length - 1, by have := List.length_pos_iff.2 h0; omega⟩
  obtain ⟨gr, cr, rfl, hl16, b1, cr1⟩ := hp.cells (by omega)
  obtain ⟨x, hxx⟩ : ∃ x, lr[0]? = some x := ⟨_, List.getElem?_eq_getElem (by omega)⟩
  have hxe : lr[0]'(by omega) = x := by
    rw [List.getElem?_eq_getElem (by omega)] at hxx
    injection hxx
  have c0 := cr1 0 (by omega)
  rw [hxe] at c0
  have hx := ho.node _ (List.getElem_mem (show 0 < lr.length by omega))
  rw [hxe] at hx
  have hlp := ho.at_
  obtain ⟨gt, ct, hvt, _, _, _, ct1, ft1⟩ := hp.at_.form (by omega)
  have K1 := fun q => swap_ok (hp.drewN q) ho (i := 0) (k := m) (by omega) (by omega)
  have HXX := Lib.hid hxx
  have HM := Lib.hid hm
  have HP0 := Lib.hid hp
  have HO0 := Lib.hid ho
  have HA0 := Lib.hid hA
  have HS0 := Lib.hid hS
  have HVT := Lib.hid hvt
  rw [hm] at b1
  have t1 : (m : Int) ≤ 65536 := by omega
  clear hp ho hA hS hvt hxx hxe hm ct1 ft1 cr1 h0 hlp hl16
  go_enter Tryz.func53, Tryz.ntmps53
  go_wp2
  go_quiet (fail)
  go_wp2_with (fail)
  refine (K1 _).mono ?_
  rintro e w1 ⟨rfl, hp1, kp1⟩
  clear K1
  have hx1 : (swapL lr 0 m)[m]? = some x := by
    have hm1 := HM.out
    have h0l : 0 < lr.length := by omega
    have h1 : m < (swapL lr 0 m).length := by rw [swapL_len]; omega
    rw [List.getElem?_eq_getElem h1, swapL_get h0l (by omega) h1, if_pos rfl, ← List.getElem?_eq_getElem h0l]
    exact HXX.out
  have hl1 : (swapL lr 0 m).length = m + 1 := by rw [swapL_len]; exact HM.out
  have ho1 := HO0.out.swap (i := 0) (k := m) (by rw [HM.out]; omega) (by rw [HM.out]; omega)
  rw [show lr.length = (swapL lr 0 m).length from (swapL_len _ _ _).symm] at hp1
  generalize hL : swapL lr 0 m = L1 at *
  generalize hP : swapP lr lp 0 m = P1 at *
  have hmem1 : ∀ y, y ∈ L1 ↔ y ∈ lr := fun y => by rw [← hL]; exact swapL_mem
  obtain ⟨gt2, ct2, hvt2, _, _, _, ct1, ft1⟩ := hp1.at_.form (by rw [ho1.at_]; omega)
  obtain ⟨q1, q2, q3, q4⟩ := hp1.pop ho1 hl1 hx1 hvt2
  have y1 := hp1.blk.cell 1
  have f1 := hp1.blk.frozen 1
  have hcr : m ≤ cr := by
    obtain ⟨_, h2⟩ := hp1.rows.own
    rcases h2 with ⟨h2, _⟩ | ⟨g', cap', cur, hv, _, _, hnc, _⟩
    · cases h2
    · injection hv with h3 h4 h5
      rw [nats_len] at hnc
      omega
  simp only [List.getElem?_toArray, List.getElem?_cons_zero, List.getElem?_cons_succ] at y1
  rw [hl1] at y1
  have y2 := q1.blk.cell 2
  simp only [List.getElem?_toArray, List.getElem?_cons_zero, List.getElem?_cons_succ] at y2
  rw [hvt2, ho1.at_] at y2
  have hob : bh ≠ gt2 := fun e => hp1.rows_ne hp1.at_.own (by rw [hvt2, e]; rfl)
  have y3 : (w1.setCell ⟨bh, 1, none⟩ (.slice (some ⟨gr, 0, none⟩) m cr)).cell? ⟨gt2, x, none⟩ = some (.int .i64 (P1[x]'(by rw [ho1.at_]; exact hx))) := by
    rw [World.cell?_of_block (w := w1) (Below.heap_setCell _ ⟨bh, 1, none⟩ _ gt2 (Ne.symm hob))]
    exact ct1 x _
  have f3 : (w1.setCell ⟨bh, 1, none⟩ (.slice (some ⟨gr, 0, none⟩) m cr)).frozen? ⟨gt2, x, none⟩ = false := by
    rw [World.frozen?_of_block (w := w1) (Below.heap_setCell _ ⟨bh, 1, none⟩ _ gt2 (Ne.symm hob))]
    exact ft1 x
  generalize P1[x]'(by rw [ho1.at_]; exact hx) = px at *
  have k1 : Kept (HSet bh va (.slice (some ⟨gr, 0, none⟩) m cr) vt) w1 ((w1.setCell ⟨bh, 1, none⟩ (.slice (some ⟨gr, 0, none⟩) m cr)).setCell ⟨gt2, x, none⟩ (.int .i64 (-1))) :=
    ((Kept.refl _ w1).setCell (p := ⟨bh, 1, none⟩) (.inl (.inl rfl)) _).setCell (p := ⟨gt2, x, none⟩) (.inl (.inr (.inr (.inr (by rw [hvt2]; rfl))))) _
  have K2 := sink_ok q2 q3 HA0.out.1 (by have := hp1.rows.len; rw [nats_len] at this; rw [List.length_take]; omega) (k := 0) (.inl rfl)
  have HQ4 := Lib.hid q4
  have HME := Lib.hid hmem1
  have HK0 := Lib.hid kp1
  have HK1 := Lib.hid k1
  have t5 : (0 : Int) ≤ (x : Int) := by omega
  have t6 : (x : Int) < (n : Int) := by omega
  clear q1 q2 q3 q4 kp1 k1 hmem1 hp1 ho1 hL hP hvt2 ct1 ft1 hob hl1 hx1
  go_wp2_with (go_at_call 64; go_loud (refine K2.mono ?_; rintro e w3 ⟨lr3, lp3, rfl, hm3⟩); have HM3 := Lib.hid hm3; clear hm3)
  go_ret2
  have hm := HM3.out
  have hSS : ∀ k, HSet bh va (.slice (some ⟨gr, 0, none⟩) m cr) vt k → S k := fun k hk => (HS0.out k).2 hk
  refine ⟨HSet bh va (.slice (some ⟨gr, 0, none⟩) m cr) vt, lr3, x, rfl, ?_, ⟨_, _, _, _, _, hm.hp, hm.ok, HA0.out, fun _ => Iff.rfl⟩, fun y => (hm.mem y).trans ((HQ4.out y).trans (and_congr (HME.out y) Iff.rfl)), ?_, fun k hk => .inl (hSS k hk), by have := hm.len; have := HM.out; rw [List.length_take] at *; omega⟩
  · exact List.mem_of_getElem? HXX.out
  · have a1 : Kept S w w1 := (((Kept.refl S w).drewN _).then_ HK0.out (fun i _ hs => (HS0.out i).2 hs))
    exact (a1.then_ HK1.out (fun i _ hs => hSS i hs)).then_ hm.kept (fun i _ hs => hSS i hs)
end Go.Proofs.YtmbekchnfbmhbaaGreat

/- Bump, New. -/
namespace Go.Proofs.YtmbekchnfbmhbaaGreat
open Go.RowKit Go.Lib

theorem HP.mv {w : World} {B bh n : Nat} {S : Nat → Prop} {va vr vt : Value} {la : List Int} {lr : List Nat} {lp : List Int} {w' : World} {v : Value} {P : Nat → Prop} (hp : HP w' B bh va vr vt la lr lp) (ho : HOk n lr lp) (hA : ActOk n la) (hS : ∀ k, S k ↔ HSet bh va vr vt k) (hk : Kept (HSet bh va vr vt) w w') (hP : ∀ y, y ∈ lr ↔ P y) :
    HGave w B bh n S P v (.returned v) w' :=
  ⟨S, lr, rfl, ⟨_, _, _, _, _, hp, ho, hA, hS⟩, hP, hk.mono (fun i _ hs => (hS i).2 hs), fun k hk => .inl hk⟩

set_option maxRecDepth 100000 in
set_option maxHeartbeats 2000000 in
theorem bump_H {w : World} {B bh n : Nat} {S : Nat → Prop} {lr : List Nat} (h : HH w B bh n S lr) {x : Nat} (hx : x < n) :
    Calls Tryz.prog 58 #[.pointer (some ⟨bh, 0, none⟩), .int .i64 x, .int .i64 1] w (HGave w B bh n S (fun y => y ∈ lr) (.int .i64 0)) := by
  obtain ⟨va, vr, vt, la, lp, hp, ho, hA, hS⟩ := h
  have hn := hA.1
  have hla := hp.act.len
  have hlp := ho.at_
  obtain ⟨ga, ca, hva, _, _, _, ca1, fa1⟩ := hp.act.form (by omega)
  obtain ⟨gt, ct, hvt, _, _, _, ct1, _⟩ := hp.at_.form (by omega)
  have hoa : va.ownBlock = some ga := by rw [hva]; rfl
  have c0 := ca1 x (by omega)
  have f0 := fa1 x
  have hb := hp.blk
  have hx2 : x < la.length := by omega
  have hax := hA.2 x hx2
  generalize hav : la[x] = a at *
  have KI := is_yes (n := la.length) (by rw [hva] at hb; exact hb) hla hx2
  have b0 := hb.cell 0
  simp only [List.getElem?_toArray, List.getElem?_cons_zero, List.getElem?_cons_succ] at b0
  rw [hva, hn] at b0
  have t1 : (0 : Int) ≤ (x : Int) := by omega
  have t2 : (x : Int) < (n : Int) := by omega
  have HP0 := Lib.hid hp
  have HO0 := Lib.hid ho
  have HA0 := Lib.hid hA
  have HS0 := Lib.hid hS
  have HVA := Lib.hid hva
  have HVT := Lib.hid hvt
  have HLA := Lib.hid hn
  have HLP := Lib.hid hlp
  have HCT := Lib.hid ct1
  have HOA := Lib.hid hoa
  clear hp ho hA hS hva hvt hn hla hlp ca1 fa1 ct1 hb hav hx2 hoa
  obtain ⟨ha0, ha1⟩ := hax
  by_cases hc : a = 1099511627776
  · subst hc
    go_enter Tryz.func58, Tryz.ntmps58
    go_wp2_with (go_at_call 32; (with_reducible refine KI.mono ?_); rintro e w' ⟨rfl, rfl⟩)
    go_region
    have hp1 := HP0.out.setA (ca := ca) (by rw [HVA.out]) x 1099511627776
    have kp1 : Kept (HSet bh va vr vt) w (w.setCell ⟨ga, x, none⟩ (.int .i64 1099511627776)) := (Kept.refl _ w).setCell (p := ⟨ga, x, none⟩) (.inl (.inr (.inl HOA.out))) _
    generalize w.setCell ⟨ga, x, none⟩ (.int .i64 1099511627776) = w1 at *
    have hA1 : ActOk n (la.set x 1099511627776) := ⟨by rw [List.length_set]; exact HA0.out.1, fun i hi => by
      rw [List.getElem_set]
      split
      · omega
      · exact HA0.out.2 i (by rw [List.length_set] at hi; exact hi)⟩
    obtain ⟨gt2, ct2, hvt2, _, _, _, ct1, _⟩ := hp1.at_.form (by rw [HLP.out]; omega)
    have y1 := ct1 x (by rw [HLP.out]; exact hx)
    have hb1 := hp1.blk
    have z2 := hb1.cell 2
    simp only [List.getElem?_toArray, List.getElem?_cons_zero, List.getElem?_cons_succ] at z2
    rw [hvt2, HLP.out] at z2
    have KH := has_raw (w := w1.drew) (n := n) (p := lp[x]'(by rw [HLP.out]; exact hx)) (by have := hb1.drewN 1; rw [hvt2, HLP.out] at this; exact this) hx y1
    have HP1 := Lib.hid hp1
    have HK1 := Lib.hid kp1
    have HA1 := Lib.hid hA1
    by_cases hin : x ∈ lr
    · obtain ⟨i, hi, e⟩ := List.mem_iff_getElem.1 hin
      have hpl := HO0.out.place i hi
      rw [e, List.getElem?_eq_getElem (by rw [HLP.out]; exact hx)] at hpl
      injection hpl with hpl
      rw [hpl, decide_eq_true (by omega : (0 : Int) ≤ (i : Int))] at KH
      rw [hpl] at y1
      have K2 := fun q => rise_ok (HP1.out.drewN q) HO0.out HA1.out.1 hi
      clear hp1 kp1 hA1 hvt2 ct1 hb1 hpl e hin c0 f0 b0
      go_wp2_with (go_at_call 33; (with_reducible refine KH.mono ?_); rintro e w' ⟨rfl, rfl⟩)
      have K3 := K2 2
      refine wp_region_still_tail 11 (by kernel_rfl) (by kernel_rfl) ?_
      simp only [List.take_succ_cons, List.take_zero, List.drop_succ_cons, List.drop_zero]
      change wpStill Tryz.prog _ w1.drew.drew (fun a' => wpList _ _ _ _ a' w1.drew.drew) _ _
      iterate 11 still_step
      refine wpStill_nil ?_
      go_wp2_with (go_at_call 34; go_loud (refine K3.mono ?_; rintro e w5 ⟨lr5, lp5, rfl, hm5⟩); have HM5 := Lib.hid hm5; clear hm5)
      go_ret
      have hm := HM5.out
      exact hm.hp.mv hm.ok HA1.out HS0.out ((HK1.out.drewN 2).trans hm.kept) hm.mem
    · have hpx := HO0.out.out x hx hin
      rw [List.getElem?_eq_getElem (by rw [HLP.out]; exact hx)] at hpx
      injection hpx with hpx
      rw [hpx, show decide ((0 : Int) ≤ -1) = false from by decide] at KH
      clear hp1 kp1 hA1 hvt2 ct1 hb1 hpx hin c0 f0 b0 y1
      go_wp2_with (go_at_call 33; (with_reducible refine KH.mono ?_); rintro e w' ⟨rfl, rfl⟩)
      go_ret
      exact (HP1.out.drewN 1).mv HO0.out HA1.out HS0.out (HK1.out.drewN 1) (fun _ => Iff.rfl)
  · have hle : a + 1 ≤ 1099511627776 := by omega
    go_enter Tryz.func58, Tryz.ntmps58
    go_wp2_with (go_at_call 32; (with_reducible refine KI.mono ?_); rintro e w' ⟨rfl, rfl⟩)
    go_region
    have hp1 := HP0.out.setA (ca := ca) (by rw [HVA.out]) x (a + 1)
    have kp1 : Kept (HSet bh va vr vt) w (w.setCell ⟨ga, x, none⟩ (.int .i64 (a + 1))) := (Kept.refl _ w).setCell (p := ⟨ga, x, none⟩) (.inl (.inr (.inl HOA.out))) _
    generalize w.setCell ⟨ga, x, none⟩ (.int .i64 (a + 1)) = w1 at *
    have hA1 : ActOk n (la.set x (a + 1)) := ⟨by rw [List.length_set]; exact HA0.out.1, fun i hi => by
      rw [List.getElem_set]
      split
      · omega
      · exact HA0.out.2 i (by rw [List.length_set] at hi; exact hi)⟩
    obtain ⟨gt2, ct2, hvt2, _, _, _, ct1, _⟩ := hp1.at_.form (by rw [HLP.out]; omega)
    have y1 := ct1 x (by rw [HLP.out]; exact hx)
    have hb1 := hp1.blk
    have z2 := hb1.cell 2
    simp only [List.getElem?_toArray, List.getElem?_cons_zero, List.getElem?_cons_succ] at z2
    rw [hvt2, HLP.out] at z2
    have KH := has_raw (w := w1.drew) (n := n) (p := lp[x]'(by rw [HLP.out]; exact hx)) (by have := hb1.drewN 1; rw [hvt2, HLP.out] at this; exact this) hx y1
    have HP1 := Lib.hid hp1
    have HK1 := Lib.hid kp1
    have HA1 := Lib.hid hA1
    by_cases hin : x ∈ lr
    · obtain ⟨i, hi, e⟩ := List.mem_iff_getElem.1 hin
      have hpl := HO0.out.place i hi
      rw [e, List.getElem?_eq_getElem (by rw [HLP.out]; exact hx)] at hpl
      injection hpl with hpl
      rw [hpl, decide_eq_true (by omega : (0 : Int) ≤ (i : Int))] at KH
      rw [hpl] at y1
      have K2 := fun q => rise_ok (HP1.out.drewN q) HO0.out HA1.out.1 hi
      clear hp1 kp1 hA1 hvt2 ct1 hb1 hpl e hin c0 f0 b0
      go_wp2_with (go_at_call 33; (with_reducible refine KH.mono ?_); rintro e w' ⟨rfl, rfl⟩)
      have K3 := K2 2
      refine wp_region_still_tail 11 (by kernel_rfl) (by kernel_rfl) ?_
      simp only [List.take_succ_cons, List.take_zero, List.drop_succ_cons, List.drop_zero]
      change wpStill Tryz.prog _ w1.drew.drew (fun a' => wpList _ _ _ _ a' w1.drew.drew) _ _
      iterate 11 still_step
      refine wpStill_nil ?_
      go_wp2_with (go_at_call 34; go_loud (refine K3.mono ?_; rintro e w5 ⟨lr5, lp5, rfl, hm5⟩); have HM5 := Lib.hid hm5; clear hm5)
      go_ret
      have hm := HM5.out
      exact hm.hp.mv hm.ok HA1.out HS0.out ((HK1.out.drewN 2).trans hm.kept) hm.mem
    · have hpx := HO0.out.out x hx hin
      rw [List.getElem?_eq_getElem (by rw [HLP.out]; exact hx)] at hpx
      injection hpx with hpx
      rw [hpx, show decide ((0 : Int) ≤ -1) = false from by decide] at KH
      clear hp1 kp1 hA1 hvt2 ct1 hb1 hpx hin c0 f0 b0 y1
      go_wp2_with (go_at_call 33; (with_reducible refine KH.mono ?_); rintro e w' ⟨rfl, rfl⟩)
      go_ret
      exact (HP1.out.drewN 1).mv HO0.out HA1.out HS0.out (HK1.out.drewN 1) (fun _ => Iff.rfl)
end Go.Proofs.YtmbekchnfbmhbaaGreat

/- New. -/
namespace Go.Proofs.YtmbekchnfbmhbaaGreat
open Go.RowKit Go.Lib

/-- The places while they are laid. -/
def newP (n k : Nat) : List Int := List.replicate k (-1) ++ List.replicate (n - k) 0
def zerosC (n : Nat) : Array Value := ((List.replicate n (0 : Int)).map (Value.int .i64)).toArray
theorem newP_len {n k : Nat} (h : k ≤ n) : (newP n k).length = n := by simp [newP]; omega
theorem newP_set {n k : Nat} (h : k < n) : (newP n k).set k (-1) = newP n (k + 1) := by
  apply List.ext_getElem?
  intro i
  rw [List.getElem?_set]
  unfold newP
  simp only [List.getElem?_append, List.getElem?_replicate, List.length_replicate, List.length_append]
  repeat' split
  all_goals first | rfl | (exfalso; omega)
theorem irow_blk {w : World} {B g : Nat} {xs : List Int} (h : Blk w g 3 (xs.map (Value.int .i64)).toArray) (hB : B ≤ g) (hl : xs.length ≤ 65536) : IRowAt w B (.slice (some ⟨g, 0, none⟩) xs.length xs.length) xs :=
  ⟨⟨by simp, .inr ⟨g, xs.length, _, rfl, hB, h, Nat.le_refl _, by unfold maxLen; omega, by simp, by simp [List.take_of_length_le]⟩⟩, hl⟩
theorem new_start {w w' : World} {bh ga gt n : Nat} (hn : n ≤ 65536) (h1 : Blk w' bh 68 #[.slice (some ⟨ga, 0, none⟩) n n, .slice none 0 0, .slice (some ⟨gt, 0, none⟩) n n]) (h2 : Blk w' ga 3 (zerosC n)) (h3 : Blk w' gt 3 (zerosC n)) (hne : ga ≠ gt)
    (hb : Below w.heap.size w w') (b1 : w.heap.size ≤ bh) (b2 : w.heap.size ≤ ga) (b3 : w.heap.size ≤ gt) :
    HP w' w.heap.size bh (.slice (some ⟨ga, 0, none⟩) n n) (.slice none 0 0) (.slice (some ⟨gt, 0, none⟩) n n) (List.replicate n 0) [] (newP n 0) := by
  have hz : ∀ {g : Nat}, Blk w' g 3 (zerosC n) → w.heap.size ≤ g → IRowAt w' w.heap.size (.slice (some ⟨g, 0, none⟩) n n) (List.replicate n 0) := fun h hg => by
    have := irow_blk (xs := List.replicate n 0) h hg (by simpa using hn)
    simpa using this
  refine ⟨h1, hz h2 b2, ⟨World.ownsRow_nil _ _ _ _, by simp [nats]⟩, ?_, (fun g _ e => by cases e), fun g h e => ?_, (fun g h => by cases h), b1⟩
  · have := hz h3 b3
    simpa [newP] using this
  · have h : ga = g := Option.some.inj h
    have e : gt = g := Option.some.inj e
    omega
/-- New's state behind k places. -/
def NewAt (w : World) (bh ga gt n : Nat) (v19 : Value) (wr : World) : Prop := ∃ k : Nat, k ≤ n ∧ v19 = .int .i64 (k : Nat) ∧ HP wr w.heap.size bh (.slice (some ⟨ga, 0, none⟩) n n) (.slice none 0 0) (.slice (some ⟨gt, 0, none⟩) n n) (List.replicate n 0) [] (newP n k) ∧ Below w.heap.size w wr
def NGave (w : World) (n : Nat) (e : Ending) (w' : World) : Prop := ∃ bh S, e = .returned (.pointer (some ⟨bh, 0, none⟩)) ∧ HH w' w.heap.size bh n S [] ∧ Below w.heap.size w w' ∧ ∀ k, S k → w.heap.size ≤ k
theorem new_end {w w' : World} {bh ga gt n : Nat} (h : HP w' w.heap.size bh (.slice (some ⟨ga, 0, none⟩) n n) (.slice none 0 0) (.slice (some ⟨gt, 0, none⟩) n n) (List.replicate n 0) [] (newP n n)) (hb : Below w.heap.size w w') : NGave w n (.returned (.pointer (some ⟨bh, 0, none⟩))) w' := by
  have h2 : newP n n = List.replicate n (-1) := by simp [newP]
  refine ⟨bh, _, rfl, ⟨_, _, _, _, _, h, ⟨by rw [newP_len (Nat.le_refl _)], (fun x hx => by cases hx), (fun i hi => by simp at hi), fun v hv _ => ?_⟩, ⟨by simp, (fun i hi => by simp)⟩, fun _ => Iff.rfl⟩, hb, ?_⟩
  · rw [h2, List.getElem?_replicate, if_pos hv]
  · rintro k (hk | hk | hk | hk)
    · rw [hk]; exact h.hb
    · exact (h.act.own.lt k hk).1
    · cases hk
    · exact (h.at_.own.lt k hk).1

set_option maxRecDepth 100000 in
set_option maxHeartbeats 2000000 in
theorem new_H (n : Nat) (hn : n ≤ 65536) (w : World) : Calls Tryz.prog 19 #[.int .i64 n] w (NGave w n) := by
  obtain ⟨i0, hi, hz0, hz1, hz2⟩ := info_parts tint_info
  have hmk := fun W => run_make_rowN (P := Tryz.prog) 23 3 i0 (.int .i64 0) Tryz.underlying23 hi hz0 .i64 .i64 n n (Nat.le_refl _) (by rw [hz2]; omega) (by omega) W
  rw [hz1, Nat.mul_one] at hmk
  have hmk2 : ∀ W : World, (Instr.makeSlice 23 (.int .i64 (n : Int)) (.int .i64 (n : Int))).run Tryz.prog W = .ok (.slice (some ⟨W.heap.size, 0, none⟩) n n) (W.alloc (.cells (zerosC n) 3)) := by
    intro W
    rw [hmk]
    have : madeCells (Value.int .i64 0).cells n = zerosC n := by
      rw [show (Value.int IntKind.i64 0).cells = #[Value.int .i64 0] from rfl, made_one]
      simp [zerosC]
    rw [this]
  clear hmk
  clear hi hz0 hz1 hz2
  have d1 : decide ((n : Int) < 0) = false := decide_eq_false (by omega)
  have d2 : decide ((65536 : Int) < (n : Int)) = false := decide_eq_false (by omega)
  have HB3 : ∀ (c : Array Value), Below w.heap.size w (((w.alloc (.cells (zerosC n) 3)).alloc (.cells (zerosC n) 3)).alloc (.cells c 68)) := fun c => (((Below.refl _ w).alloc (Nat.le_refl _) _).alloc (by simp) _).alloc (by simp; omega) _
  go_enter Tryz.func19, Tryz.ntmps19
  go_wp2
  go_region
  · obtain ⟨w1, hw1⟩ : ∃ w1, ((w.alloc (.cells (zerosC n) 3)).alloc (.cells (zerosC n) 3)).alloc (.cells #[.slice (some ⟨w.heap.size, 0, none⟩) n n, .slice none 0 0, .slice (some ⟨w.heap.size + 1, 0, none⟩) n n] 68) = w1 := ⟨_, rfl⟩
    have hb3 : Below w.heap.size w w1 := by rw [← hw1]; exact HB3 _
    have hst : HP w1 w.heap.size (w.heap.size + 1 + 1) (.slice (some ⟨w.heap.size, 0, none⟩) n n) (.slice none 0 0) (.slice (some ⟨w.heap.size + 1, 0, none⟩) n n) (List.replicate n 0) [] (newP n 0) := by
      refine new_start (w := w) hn ?_ ?_ ?_ (by omega) hb3 (by omega) (by omega) (by omega)
      · rw [← hw1]; exact Blk.new_at (by simp) _ _
      · rw [← hw1]; exact ((Blk.new w 3 (zerosC n)).alloc _).alloc _
      · rw [← hw1]; exact (Blk.new_at (w := w.alloc (.cells (zerosC n) 3)) (n := w.heap.size + 1) (by simp) 3 (zerosC n)).alloc _
    rw [hw1]
    clear hw1 HB3
    have HGT := Lib.hid (show w.heap.size ≤ (w.heap.size + 1) by omega)
    have HST := Lib.hid hst
    have HBE := Lib.hid hb3
    clear hst hb3
    go_wp2
    go_loopw [19] (NewAt w (w.heap.size + 1 + 1) w.heap.size (w.heap.size + 1) n) (fun v19 _ => n - (intOf v19).toNat)
    case atStart => exact ⟨0, Nat.zero_le _, rfl, HST.out.drewN 1, below_drewN HBE.out 1⟩
    case round =>
      obtain ⟨k, hk, rfl, hp, hb⟩ := hrel
      clear HST HBE
      by_cases hlt : k < n
      · obtain ⟨gt2, ct2, hvt2, _, _, _, ct1, ft1⟩ := hp.at_.form (by rw [newP_len hk]; omega)
        obtain rfl : (w.heap.size + 1) = gt2 := by
          injection hvt2 with h1 h2 h3
          injection h1 with h1
          injection h1 with h1
        clear hvt2
        have y1 := ct1 k (by rw [newP_len hk]; exact hlt)
        have f1 := ft1 k
        have z2 := hp.blk.cell 2
        simp only [List.getElem?_toArray, List.getElem?_cons_zero, List.getElem?_cons_succ] at z2
        have hp2 := hp.setT (ct := n) (by rw [newP_len hk]) k (-1)
        rw [newP_set hlt] at hp2
        have HP2 := Lib.hid hp2
        have HB2 := Lib.hid (hb.setCell (p := ⟨(w.heap.size + 1), k, none⟩) HGT.out (.int .i64 (-1)))
        have t1 : (0 : Int) ≤ (k : Int) := by omega
        have t2 : (k : Int) < (n : Int) := by omega
        have d3 : decide (k < n) = true := decide_eq_true hlt
        clear hp hb hp2 ct1 ft1
        go_wp2
        go_roundw
        case rel => exact ⟨k + 1, by omega, by go_num, HP2.out, HB2.out⟩
        case measure => simp [intOf]; omega
      · obtain rfl : k = n := by omega
        have HF := Lib.hid (new_end hp hb)
        have d3 : decide (k < k) = false := by simp
        clear hp hb
        go_wp2
        go_ret
        exact HF.out
  · obtain ⟨w1, hw1⟩ : ∃ w1, ((w.alloc (.cells (zerosC n) 3)).alloc (.cells (zerosC n) 3)).alloc (.cells #[.slice (some ⟨w.heap.size + 1, 0, none⟩) n n, .slice none 0 0, .slice (some ⟨w.heap.size, 0, none⟩) n n] 68) = w1 := ⟨_, rfl⟩
    have hb3 : Below w.heap.size w w1 := by rw [← hw1]; exact HB3 _
    have hst : HP w1 w.heap.size (w.heap.size + 1 + 1) (.slice (some ⟨w.heap.size + 1, 0, none⟩) n n) (.slice none 0 0) (.slice (some ⟨w.heap.size, 0, none⟩) n n) (List.replicate n 0) [] (newP n 0) := by
      refine new_start (w := w) hn ?_ ?_ ?_ (by omega) hb3 (by omega) (by omega) (by omega)
      · rw [← hw1]; exact Blk.new_at (by simp) _ _
      · rw [← hw1]; exact (Blk.new_at (w := w.alloc (.cells (zerosC n) 3)) (n := w.heap.size + 1) (by simp) 3 (zerosC n)).alloc _
      · rw [← hw1]; exact ((Blk.new w 3 (zerosC n)).alloc _).alloc _
    rw [hw1]
    clear hw1 HB3
    have HGT := Lib.hid (show w.heap.size ≤ w.heap.size by omega)
    have HST := Lib.hid hst
    have HBE := Lib.hid hb3
    clear hst hb3
    go_wp2
    go_loopw [19] (NewAt w (w.heap.size + 1 + 1) (w.heap.size + 1) w.heap.size n) (fun v19 _ => n - (intOf v19).toNat)
    case atStart => exact ⟨0, Nat.zero_le _, rfl, HST.out.drewN 1, below_drewN HBE.out 1⟩
    case round =>
      obtain ⟨k, hk, rfl, hp, hb⟩ := hrel
      clear HST HBE
      by_cases hlt : k < n
      · obtain ⟨gt2, ct2, hvt2, _, _, _, ct1, ft1⟩ := hp.at_.form (by rw [newP_len hk]; omega)
        obtain rfl : w.heap.size = gt2 := by
          injection hvt2 with h1 h2 h3
          injection h1 with h1
          injection h1 with h1
        clear hvt2
        have y1 := ct1 k (by rw [newP_len hk]; exact hlt)
        have f1 := ft1 k
        have z2 := hp.blk.cell 2
        simp only [List.getElem?_toArray, List.getElem?_cons_zero, List.getElem?_cons_succ] at z2
        have hp2 := hp.setT (ct := n) (by rw [newP_len hk]) k (-1)
        rw [newP_set hlt] at hp2
        have HP2 := Lib.hid hp2
        have HB2 := Lib.hid (hb.setCell (p := ⟨w.heap.size, k, none⟩) HGT.out (.int .i64 (-1)))
        have t1 : (0 : Int) ≤ (k : Int) := by omega
        have t2 : (k : Int) < (n : Int) := by omega
        have d3 : decide (k < n) = true := decide_eq_true hlt
        clear hp hb hp2 ct1 ft1
        go_wp2
        go_roundw
        case rel => exact ⟨k + 1, by omega, by go_num, HP2.out, HB2.out⟩
        case measure => simp [intOf]; omega
      · obtain rfl : k = n := by omega
        have HF := Lib.hid (new_end hp hb)
        have d3 : decide (k < k) = false := by simp
        clear hp hb
        go_wp2
        go_ret
        exact HF.out
end Go.Proofs.YtmbekchnfbmhbaaGreat

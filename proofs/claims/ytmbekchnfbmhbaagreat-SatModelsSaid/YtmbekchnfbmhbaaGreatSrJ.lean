/- What the search keeps, round by round. -/
import Derived.Test.YtmbekchnfbmhbaaGreatSrI
namespace Go.Proofs.YtmbekchnfbmhbaaGreat
open Go.RowKit Go.Lib

theorem rowsOf_append (R S : List RowT) : rowsOf (R ++ S) = rowsOf R ++ rowsOf S := by unfold rowsOf; rw [List.map_append]
/-- What has been learnt. -/
structure Lrn (n : Nat) (R0 L : List RowT) : Prop where
  follows : rowM (rowsOf R0) (rowsOf L) 0 = -1
  model : ∀ T, Model n T → HoldsT T (rowsOf R0) → HoldsT T (rowsOf (R0 ++ L))
  nodup : (rowsOf L).Nodup
  thin : ∀ c ∈ rowsOf L, Thin n c
theorem Lrn.start (n : Nat) (R0 : List RowT) : Lrn n R0 [] := ⟨rfl, fun T _ h => by rw [List.append_nil]; exact h, List.nodup_nil, fun c hc => by cases hc⟩
theorem Lrn.count {n : Nat} {R0 L : List RowT} (h : Lrn n R0 L) : L.length + 1 ≤ 3 ^ n := by
  have := thin_count h.nodup h.thin
  unfold rowsOf at this
  rw [List.length_map] at this
  exact this
theorem level_le {n : Nat} {M : Tr} {rows : List (List Int)} (h : Inv21 n M rows) {c : List Int} {lv : Int} (hl : levelM M c = some lv) (h0 : lv ≠ 0) : lv ≤ M.lv := by
  have hf := FalseC.of_level h.ok hl
  unfold levelM at hl
  split at hl
  case isFalse => cases hl
  obtain ⟨_, _, h3⟩ := levelGo_all c 0 lv hl
  obtain ⟨x, hx, e⟩ := h3.resolve_left (fun e => h0 e.symm)
  have := lev_le h.ok h.sorted (hf.neg x hx).2
  rw [levOf_negM, e] at this
  exact this
/-- A conflict of a level above 0. -/
theorem PI.learn {n : Nat} {M : Tr} {R0 L : List RowT} {lr : List Nat} (h : PI n M (R0 ++ L) lr) (hL : Lrn n R0 L) (hsm : R0.length + L.length + 1 ≤ 20000) {r : Nat} (hr : r < (R0 ++ L).length) {lv : Int} (hl : levelM M (R0 ++ L)[r].2.2 = some lv) (h0 : lv ≠ 0) (hlv : 0 ≤ lv) :
    ∃ (p ch : List Int) (bb : Nat), learnM M (rowsOf (R0 ++ L)) (R0 ++ L)[r].2.2 = some (p, (bb : Int), ch) ∧ (∀ x ∈ p, 0 ≤ x ∧ x / 2 < n) ∧ p ≠ [] ∧ (p ≠ [] → (R0 ++ L)[r].2.2 ≠ []) ∧ bb ≤ M.lv ∧ p.length ≤ 1000000 ∧
      ∀ (cr : RowT) (b' : Nat) (lr2 : List Nat), cr.2.2 = p → (b' = bb ∨ b' = 0) → (∀ v : Nat, v < n → find (backT M b').L v = none → v ∈ lr2) → PI n (backT M b') (R0 ++ (L ++ [cr])) lr2 ∧ Lrn n R0 (L ++ [cr]) := by
  obtain ⟨p, b, ch, hlm, hlr⟩ := learn_some h.inv.ok h.inv.sorted h.inv.why hl h0
  obtain ⟨bb, rfl⟩ := Int.eq_ofNat_of_zero_le hlr.back.1
  have hle := level_le h.inv hl h0
  have hlits := hlr.lits h.inv.ok
  rw [h.inv.mn] at hlits
  have hne := Learnt.ne hlr
  have hmem := rows_mem hr
  have hnn := h.nn
  refine ⟨p, ch, bb, hlm, hlits, hne, fun _ e => ?_, by have := hlr.back.2; omega, ?_, fun cr b' lr2 hcr hb' hh => ?_⟩
  · rw [e] at hl
    unfold levelM levelGo at hl
    split at hl
    · injection hl with hl; exact h0 hl.symm
    · cases hl
  · have := isC_len hlr.isC hlits
    omega
  · obtain ⟨_, hinv⟩ := h.inv.learn hlr (b' := b') (hb'.imp (fun e => by rw [e]) (fun e => e))
    have hrows : rowsOf (R0 ++ (L ++ [cr])) = rowsOf (R0 ++ L) ++ [p] := by
      rw [← List.append_assoc, rowsOf_append]
      show _ ++ [cr.2.2] = _
      rw [hcr]
    have hrL : rowsOf (L ++ [cr]) = rowsOf L ++ [p] := by
      rw [rowsOf_append]
      show _ ++ [cr.2.2] = _
      rw [hcr]
    have hfresh := h.inv.fresh hlr
    refine ⟨⟨?_, ?_, hh, ?_, h.nn⟩, ⟨?_, fun T hm hT => ?_, ?_, fun c hc => ?_⟩⟩
    · rw [hrows]; exact hinv
    · rw [hrows]; exact h.cl.add hlr.isC hlits
    · rw [List.length_append, List.length_append, List.length_singleton]; omega
    · rw [hrL]
      refine row_snoc hL.follows ?_
      rw [← rowsOf_append]
      exact learn_follows (by omega) h.cl hmem hl h0 hlm hlits
    · rw [hrows]
      exact learn_holds hm h.cl (hL.model T hm hT) hmem hl h0 hlm hlits
    · rw [hrL, List.nodup_append]
      refine ⟨hL.nodup, by simp, fun a ha c hc e => ?_⟩
      rw [List.mem_singleton.1 hc] at e
      subst e
      exact hfresh (by rw [rowsOf_append]; exact List.mem_append_right _ ha)
    · rw [hrL] at hc
      rcases List.mem_append.1 hc with hc | hc
      · exact hL.thin c hc
      · rw [List.mem_singleton.1 hc]
        exact ⟨hlr.isC, hne, hlits, Learnt.pair hlr h.inv.ok⟩
/-- A conflict of level 0. -/
theorem PI.zero {n : Nat} {M : Tr} {R0 L : List RowT} {lr : List Nat} (h : PI n M (R0 ++ L) lr) (hL : Lrn n R0 L) {r : Nat} (hr : r < (R0 ++ L).length) (hl : levelM M (R0 ++ L)[r].2.2 = some 0) :
    learnM M (rowsOf (R0 ++ L)) (R0 ++ L)[r].2.2 = some ([], 0, []) ∧ (∀ cr : RowT, cr.2.2 = [] → refutesM (rowsOf R0) (rowsOf (L ++ [cr])) = true) ∧ ∀ T, Model n T → ¬ HoldsT T (rowsOf R0) := by
  have hmem := rows_mem hr
  have hnn := h.nn
  refine ⟨?_, fun cr hcr => ?_, fun T hm hT => ?_⟩
  · unfold learnM
    rw [hl]
    rfl
  · have hf := zero_follows (n := n) (by omega) h.inv.ok h.inv.sorted h.inv.why h.cl hmem hl
    have hrL : rowsOf (L ++ [cr]) = rowsOf L ++ [[]] := by
      rw [rowsOf_append]
      show _ ++ [cr.2.2] = _
      rw [hcr]
    have hrow := row_snoc hL.follows (c := []) (by rw [← rowsOf_append]; exact hf)
    unfold refutesM
    rw [hrL, hrow]
    simp
  · exact zero_none h.inv.ok h.inv.sorted h.inv.why (model_shut hm h.cl (hL.model T hm hT)) hmem hl
/-- All assigned, none false: the clauses hold. -/
theorem sat_holds {n : Nat} {M : Tr} {rows : List (List Int)} (hM : M.Ok) (hc : CL n rows) (hs : Shut21 rows (fun x => x ∈ litsM M)) (ha : ∀ v : Nat, v < n → find M.L v ≠ none) : (∀ x ∈ valsOf n M.L, x = 1 ∨ x = 2) ∧ holdsM (valsOf n M.L) rows = true := by
  refine ⟨fun x hx => ?_, ?_⟩
  · obtain ⟨v, hv, rfl⟩ := List.mem_map.1 hx
    rw [List.mem_range] at hv
    refine (valOf_cases M.L (2 * (v : Int))).resolve_left fun e => ha v hv ?_
    have := valOf_zero e
    rw [show 2 * (v : Int) / 2 = v by omega] at this
    exact this
  · unfold holdsM
    rw [List.all_eq_true]
    intro cl hcl
    rw [beq_iff_eq, st_true]
    have hcc := hc cl hcl
    refine Classical.byContradiction fun hno => ?_
    refine hs.notFalse cl hcl hcc.1 fun x hx => ?_
    have hr := hcc.2 x hx
    rcases valOf_cases M.L x with e | e | e
    · refine absurd ?_ (ha (x / 2).toNat (by omega))
      have := valOf_zero e
      rw [show (((x / 2).toNat : Nat) : Int) = x / 2 by omega]
      exact this
    · exact absurd ⟨x, hx, by rw [valM_of hr.1 hr.2]; exact e⟩ hno
    · exact valOf_two e hr.1
theorem holds_app {vals : List Int} {a b : List (List Int)} (h : holdsM vals (a ++ b) = true) : holdsM vals a = true := by
  unfold holdsM at h ⊢
  rw [List.all_append, Bool.and_eq_true] at h
  exact h.1

theorem SS.box {w : World} {b : Bl} {n : Nat} {S : Nat → Prop} {vl vp vs : Value} {k : Int} {M : Tr} {R st : List RowT} {lr : List Nat} {ph : List Int} (h : SS w b n S vl vp vs k M R st lr ph) {g : Nat} {cs : Array Value} (hb : Blk w g 29 cs) : SS w ⟨b.H0, b.bs, b.bt, b.ba, b.bh, b.b1, b.b2, some (g, cs), b.vb⟩ n S vl vp vs k M R st lr ph :=
  ⟨h.blk, h.t, h.h, h.l, h.s, h.p, h.pval, h.rows, h.c1, h.c2, h.nba, h.nb1, h.ab1, h.ls, h.l2, h.s2, h.hbs, h.hb1, h.hb2, h.nn, fun q hq => by injection hq with hq; rw [← hq]; exact hb, h.hvb⟩
end Go.Proofs.YtmbekchnfbmhbaaGreat

/- append of steps that came in. -/
import Derived.Test.YtiklliiamljogaaGreatDoorPgH
import Derived.Test.YtiklliiamljogaaGreatDoorPgF
namespace Go.Proofs.YtiklliiamljogaaGreatDoor
open Go.RowKit Go.Lib

theorem addr_add2' (g o j : Nat) : (⟨g, o, none⟩ : Addr).add j = ⟨g, o + j, none⟩ := by unfold Addr.add; split <;> simp_all
/-- The cells of a row of steps. -/
theorem Steps.cells {w : World} {A : Option Addr} {R : List Stp} (h : Steps w A R) (h0 : 0 < R.length) : ∃ b off, ∃ ys : List C4, A = some ⟨b, off, none⟩ ∧ ∃ hl : ys.length = R.length, (∀ i (hi : i < ys.length), Is4 w ys[i] (R[i]'(hl ▸ hi))) ∧
    ∀ j u, (ys.flatMap C4.cells)[j]? = some u → w.cell? ((⟨b, off, none⟩ : Addr).add j) = some u := by
  obtain ⟨b, off, _, rfl, _⟩ := h 0 h0
  have each : ∀ i, i < R.length → ∃ y : C4, (∀ hi : i < R.length, Is4 w y R[i]) ∧ w.cell? ⟨b, off + i * 4, none⟩ = some (.int .i8 y.k) ∧ w.cell? ⟨b, off + i * 4 + 1, none⟩ = some (.int .i64 y.a) ∧ w.cell? ⟨b, off + i * 4 + 2, none⟩ = some (.int .i64 y.b) ∧ w.cell? ⟨b, off + i * 4 + 3, none⟩ = some (.slice y.A y.n y.c) := fun i hi => by
    obtain ⟨b', off', y, e, _, hc, hy⟩ := h i hi
    injection e with e
    injection e with e1 e2
    subst e1 e2
    exact ⟨y, fun _ => hy, hc⟩
  obtain ⟨ys, hl, hp⟩ := choose_list each
  refine ⟨b, off, ys, rfl, hl, fun i hi => (hp i (by omega)).1 (by omega), fun j u hj => ?_⟩
  have hadd : (⟨b, off, none⟩ : Addr).add j = ⟨b, off + j, none⟩ := by unfold Addr.add; split <;> simp_all
  have hjl : j < (ys.flatMap C4.cells).length := by
    rcases Nat.lt_or_ge j (ys.flatMap C4.cells).length with h1 | h1
    · exact h1
    · rw [List.getElem?_eq_none h1] at hj; cases hj
  rw [flat_len C4.cells 4 C4.cells_len] at hjl
  have hi : j / 4 < ys.length := by omega
  have hr : j % 4 < 4 := Nat.mod_lt _ (by decide)
  have hg := flat_get C4.cells 4 C4.cells_len ys (j / 4) (j % 4) hi hr
  rw [show j / 4 * 4 + j % 4 = j by omega, hj] at hg
  obtain ⟨_, c0, c1, c2, c3⟩ := hp (j / 4) (by omega)
  rw [hadd]
  have hm : j % 4 = 0 ∨ j % 4 = 1 ∨ j % 4 = 2 ∨ j % 4 = 3 := by omega
  rcases hm with hm | hm | hm | hm
  · rw [hm] at hg
    rw [show off + j = off + j / 4 * 4 by omega, c0]
    exact hg.symm
  · rw [hm] at hg
    rw [show off + j = off + j / 4 * 4 + 1 by omega, c1]
    exact hg.symm
  · rw [hm] at hg
    rw [show off + j = off + j / 4 * 4 + 2 by omega, c2]
    exact hg.symm
  · rw [hm] at hg
    rw [show off + j = off + j / 4 * 4 + 3 by omega, c3]
    exact hg.symm
/-- A row of one's own, its steps lying as they lay in W. -/
structure OwnSt (W w : World) (v : Value) (L : List Stp) : Prop where
  own : ∃ ys : List C4, ∃ hl : ys.length = L.length, w.ownsRow W.heap.size 46 4 v L.length (ys.flatMap C4.cells) ∧ ∀ i (hi : i < ys.length), Is4 W ys[i] (L[i]'(hl ▸ hi))
  below : Below W.heap.size W w
theorem OwnSt.steps {W w : World} {v : Value} {L : List Stp} (h : OwnSt W w v L) : ∃ A c, v = .slice A L.length c ∧ Steps w A L := by
  obtain ⟨ys, hl, ho, he⟩ := h.own
  obtain ⟨A, c, rfl⟩ := own_slice ho
  refine ⟨A, c, rfl, fun i hi => ?_⟩
  have hi2 : i < ys.length := by omega
  obtain ⟨g, cap2, hv, _, hlt, _⟩ := own_form ho (by omega)
  injection hv with e1 e2 e3
  subst e1 e3
  have hc := fun j (hj : j < 4) => own_cell (g := g) C4.cells C4.cells_len ho hi2 hj
  refine ⟨g, 0, ys[i], rfl, hlt, ⟨?_, ?_, ?_, ?_⟩, (he i hi2).keep h.below⟩
  · rw [Nat.zero_add]; exact hc 0 (by decide)
  · rw [Nat.zero_add]; exact hc 1 (by decide)
  · rw [Nat.zero_add]; exact hc 2 (by decide)
  · rw [Nat.zero_add]; exact hc 3 (by decide)
theorem OwnSt.empty (W w : World) (h : Below W.heap.size W w) : OwnSt W (w.alloc (.cells #[] 46)) (.slice (some ⟨w.heap.size, 0, none⟩) 0 0) [] :=
  ⟨⟨[], rfl, ⟨rfl, .inr ⟨w.heap.size, 0, #[], rfl, h.size, heap_alloc_new w _, Nat.le_refl _, Nat.zero_le _, rfl, rfl⟩⟩, fun _ hi => absurd hi (Nat.not_lt_zero _)⟩, h.alloc h.size _⟩

set_option maxRecDepth 100000 in
theorem wp_append_steps {o : Oper} {a : Act} {K : Act → World → Prop} {Q : Exit → Act → World → Prop} (W w : World) (s x : Operand)
    (ho : o.op = .call { callee := .builtin .append, args := #[s, x], argTypes := #[22, 22] })
    (v : Value) (L : List Stp) (hs : a.eval s = v) (hown : OwnSt W w v L)
    (A : Option Addr) (c : Nat) (R : List Stp) (hx : a.eval x = .slice A R.length c) (hR : Steps W A R) (hnil : A = none → c = 0) (hb : L.length + R.length ≤ 1000000)
    (h : ∀ v' w', OwnSt W w' v' (L ++ R) → K (a.put o.dst v') w') : o.wp Tryz.prog a w K Q := by
  obtain ⟨i0, hi, hz0, hz1, hz2⟩ := info_parts stp_info
  obtain ⟨ys, hl, hw, he⟩ := hown.own
  cases A with
  | none =>
    obtain rfl := hnil rfl
    have hz : R = [] := by
      rcases R with _ | ⟨r, R⟩
      · rfl
      · obtain ⟨_, _, _, e, _⟩ := hR 0 (Nat.zero_lt_succ _)
        cases e
    subst hz
    have hrun := run_append_owned_none (P := Tryz.prog) (w := w) W.heap.size 22 o.type 46 i0 4 Tryz.underlying22 hi v L.length _ hw
    have h1 := h v w (by rw [List.append_nil]; exact hown)
    unfold Oper.wp execOp
    simp only [ho, resolve, invoke, builtin, Sem.run_bind, Sem.run_pure, Result.andThen_ok, List.map_toArray, List.map_cons, List.map_nil, hs, hx]
    simp only [List.length_nil] at hrun ⊢
    rw [hrun]
    exact h1
  | some ad =>
    have hR2 := hR
    have hcells : ∃ zs : List C4, ∃ hz : zs.length = R.length, (∀ i (hi : i < zs.length), Is4 W zs[i] (R[i]'(hz ▸ hi))) ∧ ∀ j u, (zs.flatMap C4.cells)[j]? = some u → w.cell? (ad.add j) = some u := by
      rcases Nat.eq_zero_or_pos R.length with h0 | h0
      · exact ⟨[], h0.symm, fun i hi => absurd hi (Nat.not_lt_zero _), fun j u hj => by simp at hj⟩
      · obtain ⟨b, off, zs, e, hz, h1, h2⟩ := hR.cells h0
        injection e with e
        subst e
        refine ⟨zs, hz, h1, fun j u hj => ?_⟩
        have hc := h2 j u hj
        rw [addr_add2' b off j] at hc ⊢
        exact (hown.below.cell (p := ⟨b, off + j, none⟩) (World.block_lt_of_cell? _ _ hc)).trans hc
    obtain ⟨zs, hz, hz1', hz2'⟩ := hcells
    have h1c : ∀ u ∈ zs.flatMap C4.cells, u.oneCell' = true := by
      intro u hu
      obtain ⟨y, _, hy⟩ := List.mem_flatMap.1 hu
      simp [C4.cells] at hy
      rcases hy with rfl | rfl | rfl | rfl <;> rfl
    exact wp_append_own w s x 22 ho W.heap.size 46 i0 (.agg #[.int .i8 0, .int .i64 0, .int .i64 0, .slice none 0 0]) 4 48 Tryz.underlying22 hi hz0 hz1 hz2 rfl (by decide) v L.length _ hs hw ad R.length c _ hx
      (by rw [flat_len C4.cells 4 C4.cells_len, hz]) hz2' h1c (by unfold maxLen; omega) (by omega) hown.below.size
      fun v' w' h2 h3 _ => h v' w' ⟨⟨ys ++ zs, by simp [hl, hz], by rw [List.length_append, List.flatMap_append]; exact h2, fun i hi => by
        rcases Nat.lt_or_ge i ys.length with g1 | g1
        · rw [List.getElem_append_left g1, List.getElem_append_left (hl ▸ g1)]
          exact he i g1
        · rw [List.getElem_append_right g1, List.getElem_append_right (by omega)]
          have := hz1' (i - ys.length) (by rw [List.length_append] at hi; omega)
          simpa [hl] using this⟩, hown.below.trans (by
          have hk : Kept (fun i => v.ownBlock = some i) w w' := (Kept.refl _ w).grown h3 fun k hk => .inl hk
          exact hk.below hown.below.size fun k hk => (hw.lt k hk).1)⟩
theorem list_append_steps {ops : Array Oper} {rest : List Oper} {o : Oper} {a : Act} {Q : Exit → Act → World → Prop} (W w : World) (hwt : Region.wanted o (yielded ops a.tmps) = true) (s x : Operand)
    (ho : o.op = .call { callee := .builtin .append, args := #[s, x], argTypes := #[22, 22] })
    (v : Value) (L : List Stp) (hs : a.eval s = v) (hown : OwnSt W w v L)
    (A : Option Addr) (c : Nat) (R : List Stp) (hx : a.eval x = .slice A R.length c) (hR : Steps W A R) (hnil : A = none → c = 0) (hb : L.length + R.length ≤ 1000000)
    (h : ∀ v' w', OwnSt W w' v' (L ++ R) → wpList Tryz.prog ops Q rest (a.put o.dst v') w') : wpList Tryz.prog ops Q (o :: rest) a w :=
  wpList_step fun K hK => by
    rw [if_pos hwt]
    exact wp_append_steps W w s x ho v L hs hown A c R hx hR hnil hb fun v' w' h1 => hK _ _ (h v' w' h1)
end Go.Proofs.YtiklliiamljogaaGreatDoor

/- ProofJoins: the walk. -/
namespace Go.Proofs.YtiklliiamljogaaGreatDoor
open Go.RowKit Go.Lib

theorem raw_form (L : List Stp) : (proofX L).raw = [40, 112, 114, 111, 111, 102] ++ Sx.rawt (L.map Stp.sx) ++ [41] := by
  unfold proofX
  rw [Sx.raw, if_pos rfl, Sx.raws]
  unfold symS
  rw [Sx.raw, if_neg (by decide)]
  rfl
theorem raw_seven (L : List Stp) : 7 ≤ (proofX L).raw.length := by
  rw [raw_form]
  simp only [List.length_append, List.length_cons, List.length_nil]
  omega
theorem raw_join (a b : List Stp) : (proofX (a ++ b)).raw = (proofX a).raw.take ((proofX a).raw.length - 1) ++ (proofX b).raw.drop 6 := by
  rw [raw_form, raw_form, raw_form, List.map_append, rawt_append]
  generalize Sx.rawt (a.map Stp.sx) = p
  generalize Sx.rawt (b.map Stp.sx) = q
  have e1 : (([40, 112, 114, 111, 111, 102] : List UInt8) ++ p ++ [41]).take ((([40, 112, 114, 111, 111, 102] : List UInt8) ++ p ++ [41]).length - 1) = [40, 112, 114, 111, 111, 102] ++ p := by
    rw [List.length_append, List.length_singleton, Nat.add_sub_cancel, List.take_left]
  have e2 : (([40, 112, 114, 111, 111, 102] : List UInt8) ++ q ++ [41]).drop 6 = q ++ [41] := by
    rw [List.append_assoc, show (6 : Nat) = ([40, 112, 114, 111, 111, 102] : List UInt8).length from rfl, List.drop_left]
  rw [e1, e2]
  simp only [List.append_assoc]
theorem joined_str {X Y Z : List UInt8} (h : Z = X.take (X.length - 1) ++ Y.drop 6) : (⟨X.toArray⟩ : ByteArray).extract 0 ((⟨X.toArray⟩ : ByteArray).size - 1) ++ (⟨Y.toArray⟩ : ByteArray).extract 6 (⟨Y.toArray⟩ : ByteArray).size = (⟨Z.toArray⟩ : ByteArray) := by
  rw [h]
  apply ByteArray.ext
  simp only [ByteArray.size, ByteArray.data_append, ByteArray.data_extract, List.size_toArray, List.extract_toArray, List.extract_eq_take_drop, List.drop_zero, Nat.sub_zero, List.append_toArray]
  rw [List.take_of_length_le (l := Y.drop 6) (by rw [List.length_drop]; exact Nat.le_refl _)]
theorem all_append_may (a b : List Stp) : (a ++ b).all Stp.may = (a.all Stp.may && b.all Stp.may) := List.all_append

set_option maxHeartbeats 1000000 in
set_option maxRecDepth 100000 in
theorem proofJoins_walk (a b : List Stp) (w : World) (ht : Tab w) (A B : Option Addr) (c d : Nat) (hAg : GS w A a) (hBg : GS w B b) (hna : A = none → c = 0) (hnb : B = none → d = 0) :
    Calls Tryz.prog 6 #[.slice A a.length c, .slice B b.length d] w fun e w' => e = .returned (.bool true) ∧ Below w.heap.size w w' := by
  have HGA := Lib.hid (great28g_ok a w A c hAg)
  have HGB := Lib.hid (great28g_ok b w B d hBg)
  have HWK := Lib.hid (fun w1 (h1 : Below w.heap.size w w1) => wakes_ok w1 (ht.keep h1))
  cases hga : greatM a with
  | true =>
    rw [hga] at HGA
    clear hga hAg hBg ht
    go_enter Tryz.func6, Tryz.ntmps6
    go_wp2_with (first
      | (go_at_call 8; (with_reducible refine HGA.out.mono ?_); rintro e w1 ⟨rfl, rfl⟩)
      | (go_at_call 9; (with_reducible refine (HWK.out _ (Below.refl _ _)).mono ?_); rintro e w2 ⟨rfl, hb2⟩))
    go_ret
    exact ⟨rfl, hb2⟩
  | false =>
    rw [hga] at HGA
    have hNa := not_great hga
    clear hga
    cases hgb : greatM b with
    | true =>
      rw [hgb] at HGB
      clear hgb hAg hBg ht hNa
      go_enter Tryz.func6, Tryz.ntmps6
      go_wp2_with (first
        | (go_at_call 8; (with_reducible refine HGA.out.mono ?_); rintro e w1 ⟨rfl, rfl⟩)
        | (go_at_call 8; (with_reducible refine HGB.out.mono ?_); rintro e w1 ⟨rfl, rfl⟩)
        | (go_at_call 9; (with_reducible refine (HWK.out _ (Below.refl _ _)).mono ?_); rintro e w2 ⟨rfl, hb2⟩))
      go_ret
      exact ⟨rfl, hb2⟩
    | false =>
      rw [hgb] at HGB
      have hNb := not_great hgb
      clear hgb
      have hSa := hAg.steps hNa
      have hSb := hBg.steps hNb
      have hka := hAg.kinds
      have hkb := hBg.kinds
      have hla := hNa.len
      have hlb := hNb.len
      have HSA := Lib.hid hSa
      have HSB := Lib.hid hSb
      have HE := Lib.hid (OwnSt.empty w w (Below.refl _ _))
      have HT := Lib.hid (fun w1 (h1 : Below w.heap.size w w1) => ht.keep h1)
      have HNA := Lib.hid hna
      have HNB := Lib.hid hnb
      have hall : (a ++ b).length = a.length + b.length := List.length_append
      obtain ⟨M, hM⟩ : ∃ M, a ++ b = M := ⟨_, rfl⟩
      have HM := Lib.hid hM
      rw [hM] at hall
      have hMm : M.length ≤ 9223372036854775807 := by omega
      have HALL := Lib.hid hall
      cases hgm : greatM M with
      | true =>
        clear hM hall hSa hSb hAg hBg ht hna hnb hka hkb
        go_enter Tryz.func6, Tryz.ntmps6
        go_wp2_with (first
          | (go_at_call 8; (with_reducible refine HGA.out.mono ?_); rintro e w1 ⟨rfl, rfl⟩)
          | (go_at_call 8; (with_reducible refine HGB.out.mono ?_); rintro e w1 ⟨rfl, rfl⟩)
          | (at_builtin; refine list_append_steps w _ rfl (.tmp 22) (.tmp 23) rfl _ [] rfl HE.out A c a rfl HSA.out HNA.out (by simp; omega) ?_; intro v1 wa hO1; rw [List.nil_append] at hO1; have HO1 := Lib.hid hO1; clear hO1)
          | (at_builtin; refine list_append_steps w _ rfl (.tmp 24) (.tmp 25) rfl _ a rfl HO1.out B d b rfl HSB.out HNB.out (by omega) ?_; intro v2 wb hO2; rw [HM.out] at hO2; obtain ⟨C, m, rfl, hSM⟩ := hO2.steps; have HO2 := Lib.hid hO2; have HG := Lib.hid (great28_ok M hMm wb C m hSM); rw [hgm] at HG; clear hO2 hSM)
          | (go_at_call 8; (with_reducible refine HG.out.mono ?_); rintro e w1 ⟨rfl, rfl⟩)
          | (go_at_call 9; (with_reducible refine (HWK.out _ HO2.out.below).mono ?_); rintro e w2 ⟨rfl, hb2⟩))
        go_ret
        exact ⟨rfl, below_then HO2.out.below (Nat.le_refl _) hb2⟩
      | false =>
        have HGMV := Lib.hid hgm
        have hNM := not_great hgm
        have hkM : ∀ s ∈ M, -128 ≤ s.k ∧ s.k ≤ 127 := fun s hs => by
          rw [← hM] at hs
          rcases List.mem_append.1 hs with hs | hs
          · exact hka s hs
          · exact hkb s hs
        have hfa := hNa.fine hka
        have hfb := hNb.fine hkb
        have hfM := hNM.fine hkM
        have HCA := Lib.hid (fun w1 (h1 : Below w.heap.size w w1) => (clauses_ok a (by omega) w1 A c (hSa.keep h1)).mono fun e w' h => h.norm)
        have HCB := Lib.hid (fun w1 (h1 : Below w.heap.size w w1) => (clauses_ok b (by omega) w1 B d (hSb.keep h1)).mono fun e w' h => h.norm)
        have HCM := Lib.hid (fun w1 C m (h : Steps w1 C M) => (clauses_ok M (by omega) w1 C m h).mono fun e w' h => h.norm)
        have HTA := Lib.hid (fun w1 (h1 : Below w.heap.size w w1) => ptext_ok a hfa (fun h => Nat.le_trans (hNa.raw h) (by decide)) w1 (HT.out w1 h1) A c (hSa.keep h1))
        have HTB := Lib.hid (fun w1 (h1 : Below w.heap.size w w1) => ptext_ok b hfb (fun h => Nat.le_trans (hNb.raw h) (by decide)) w1 (HT.out w1 h1) B d (hSb.keep h1))
        have HTM := Lib.hid (fun w1 (h1 : Below w.heap.size w w1) C m (h : Steps w1 C M) => ptext_ok M hfM (fun h => Nat.le_trans (hNM.raw h) (by decide)) w1 (HT.out w1 h1) C m h)
        have hmay : M.all Stp.may = (a.all Stp.may && b.all Stp.may) := by rw [← hM]; exact all_append_may a b
        have d5 : ((M.length : Int) != (a.length : Int) + b.length) = false := bne_eq_false_iff_eq.2 (by omega)
        have HRJ := Lib.hid (raw_join a b)
        rw [hM] at HRJ
        have hra := hNa.raw
        have hrb := hNb.raw
        clear hM hall hSa hSb hAg hBg ht hna hnb hka hkb hkM hfa hfb hfM hNa hNb hNM hgm
        have hgmv : greatM M = false := HGMV.out
        cases hma : a.all Stp.may with
        | false =>
          have hmm : M.all Stp.may = false := by rw [hmay, hma]; rfl
          cases hmb : b.all Stp.may with
          | false =>
            have HTA2 := Lib.hid (fun w1 (h1 : Below w.heap.size w w1) => (HTA.out w1 h1).mono fun e w' h => text_no hma h)
            have HTB2 := Lib.hid (fun w1 (h1 : Below w.heap.size w w1) => (HTB.out w1 h1).mono fun e w' h => text_no hmb h)
            have HTM2 := Lib.hid (fun w1 (h1 : Below w.heap.size w w1) C m (h : Steps w1 C M) => (HTM.out w1 h1 C m h).mono fun e w' h => text_no hmm h)
            clear hma hmb hmm hmay hra hrb HTA HTB HTM
            go_enter Tryz.func6, Tryz.ntmps6
            go_wp2_with (first
              | (go_at_call 8; (with_reducible refine HGA.out.mono ?_); rintro e w1 ⟨rfl, rfl⟩)
              | (go_at_call 8; (with_reducible refine HGB.out.mono ?_); rintro e w1 ⟨rfl, rfl⟩)
              | (at_builtin; refine list_append_steps w _ rfl (.tmp 22) (.tmp 23) rfl _ [] rfl HE.out A c a rfl HSA.out HNA.out (by simp; omega) ?_; intro v1 wa hO1; rw [List.nil_append] at hO1; have HO1 := Lib.hid hO1; clear hO1)
              | (at_builtin; refine list_append_steps w _ rfl (.tmp 24) (.tmp 25) rfl _ a rfl HO1.out B d b rfl HSB.out HNB.out (by omega) ?_; intro v2 wb hO2; rw [HM.out] at hO2; obtain ⟨C, m, rfl, hSM⟩ := hO2.steps; have HO2 := Lib.hid hO2; have HG := Lib.hid (great28_ok M hMm wb C m hSM); have HE2 := Lib.hid (OwnSt.empty w wb hO2.below); rw [hgmv] at HG; clear hO2 hSM)
              | (go_at_call 8; (with_reducible refine HG.out.mono ?_); rintro e w1 ⟨rfl, rfl⟩)
              | (at_builtin; refine list_append_steps w _ rfl (.tmp 30) (.tmp 31) rfl _ [] rfl HE2.out A c a rfl HSA.out HNA.out (by simp; omega) ?_; intro v3 wc hO3; rw [List.nil_append] at hO3; have HO3 := Lib.hid hO3; clear hO3)
              | (at_builtin; refine list_append_steps w _ rfl (.tmp 32) (.tmp 33) rfl _ a rfl HO3.out B d b rfl HSB.out HNB.out (by omega) ?_; intro v4 wd hO4; rw [HM.out] at hO4; obtain ⟨C4, m4, rfl, hSM4⟩ := hO4.steps; have HB4 := Lib.hid hO4.below; have HS4 := Lib.hid hSM4; clear hO4 hSM4)
              | (go_at_call 21; (with_reducible refine (HCA.out _ HB4.out).mono ?_); rintro e w5 ⟨⟨XA, xc, rfl, _⟩, hb5⟩; have HB5 := Lib.hid (below_then HB4.out (Nat.le_refl _) hb5); have HS5 := Lib.hid (HS4.out.keep hb5); clear hb5)
              | (go_at_call 21; (with_reducible refine (HCB.out _ HB5.out).mono ?_); rintro e w6 ⟨⟨YA, yc, rfl, _⟩, hb6⟩; have HB6 := Lib.hid (below_then HB5.out (Nat.le_refl _) hb6); have HS6 := Lib.hid (HS5.out.keep hb6); clear hb6)
              | (go_at_call 21; (with_reducible refine (HCM.out _ _ _ HS6.out).mono ?_); rintro e w7 ⟨⟨ZA, zc, rfl, _⟩, hb7⟩; have HB7 := Lib.hid (below_then HB6.out (Nat.le_refl _) hb7); have HS7 := Lib.hid (HS6.out.keep hb7); clear hb7)
              | (go_at_call 12; (with_reducible refine (HTA2.out _ HB7.out).mono ?_); rintro e w8 ⟨rfl, hb8⟩; have HB8 := Lib.hid (below_then HB7.out (Nat.le_refl _) hb8); have HS8 := Lib.hid (HS7.out.keep hb8); clear hb8)
              | (go_at_call 12; (with_reducible refine (HTB2.out _ HB8.out).mono ?_); rintro e w9 ⟨rfl, hb9⟩; have HB9 := Lib.hid (below_then HB8.out (Nat.le_refl _) hb9); have HS9 := Lib.hid (HS8.out.keep hb9); clear hb9)
              | (go_at_call 12; (with_reducible refine (HTM2.out _ HB9.out _ _ HS9.out).mono ?_); rintro e w10 ⟨rfl, hb10⟩; have HB10 := Lib.hid (below_then HB9.out (Nat.le_refl _) hb10); clear hb10)
              | (go_at_call 9; (with_reducible refine (HWK.out _ HB10.out).mono ?_); rintro e w11 ⟨rfl, hb11⟩))
            go_ret
            exact ⟨rfl, below_then HB10.out (Nat.le_refl _) hb11⟩
          | true =>
            have HTA2 := Lib.hid (fun w1 (h1 : Below w.heap.size w w1) => (HTA.out w1 h1).mono fun e w' h => text_no hma h)
            have HTB2 := Lib.hid (fun w1 (h1 : Below w.heap.size w w1) => (HTB.out w1 h1).mono fun e w' h => text_yes hmb h)
            have HTM2 := Lib.hid (fun w1 (h1 : Below w.heap.size w w1) C m (h : Steps w1 C M) => (HTM.out w1 h1 C m h).mono fun e w' h => text_no hmm h)
            clear hma hmb hmm hmay hra hrb HTA HTB HTM
            go_enter Tryz.func6, Tryz.ntmps6
            go_wp2_with (first
              | (go_at_call 8; (with_reducible refine HGA.out.mono ?_); rintro e w1 ⟨rfl, rfl⟩)
              | (go_at_call 8; (with_reducible refine HGB.out.mono ?_); rintro e w1 ⟨rfl, rfl⟩)
              | (at_builtin; refine list_append_steps w _ rfl (.tmp 22) (.tmp 23) rfl _ [] rfl HE.out A c a rfl HSA.out HNA.out (by simp; omega) ?_; intro v1 wa hO1; rw [List.nil_append] at hO1; have HO1 := Lib.hid hO1; clear hO1)
              | (at_builtin; refine list_append_steps w _ rfl (.tmp 24) (.tmp 25) rfl _ a rfl HO1.out B d b rfl HSB.out HNB.out (by omega) ?_; intro v2 wb hO2; rw [HM.out] at hO2; obtain ⟨C, m, rfl, hSM⟩ := hO2.steps; have HO2 := Lib.hid hO2; have HG := Lib.hid (great28_ok M hMm wb C m hSM); have HE2 := Lib.hid (OwnSt.empty w wb hO2.below); rw [hgmv] at HG; clear hO2 hSM)
              | (go_at_call 8; (with_reducible refine HG.out.mono ?_); rintro e w1 ⟨rfl, rfl⟩)
              | (at_builtin; refine list_append_steps w _ rfl (.tmp 30) (.tmp 31) rfl _ [] rfl HE2.out A c a rfl HSA.out HNA.out (by simp; omega) ?_; intro v3 wc hO3; rw [List.nil_append] at hO3; have HO3 := Lib.hid hO3; clear hO3)
              | (at_builtin; refine list_append_steps w _ rfl (.tmp 32) (.tmp 33) rfl _ a rfl HO3.out B d b rfl HSB.out HNB.out (by omega) ?_; intro v4 wd hO4; rw [HM.out] at hO4; obtain ⟨C4, m4, rfl, hSM4⟩ := hO4.steps; have HB4 := Lib.hid hO4.below; have HS4 := Lib.hid hSM4; clear hO4 hSM4)
              | (go_at_call 21; (with_reducible refine (HCA.out _ HB4.out).mono ?_); rintro e w5 ⟨⟨XA, xc, rfl, _⟩, hb5⟩; have HB5 := Lib.hid (below_then HB4.out (Nat.le_refl _) hb5); have HS5 := Lib.hid (HS4.out.keep hb5); clear hb5)
              | (go_at_call 21; (with_reducible refine (HCB.out _ HB5.out).mono ?_); rintro e w6 ⟨⟨YA, yc, rfl, _⟩, hb6⟩; have HB6 := Lib.hid (below_then HB5.out (Nat.le_refl _) hb6); have HS6 := Lib.hid (HS5.out.keep hb6); clear hb6)
              | (go_at_call 21; (with_reducible refine (HCM.out _ _ _ HS6.out).mono ?_); rintro e w7 ⟨⟨ZA, zc, rfl, _⟩, hb7⟩; have HB7 := Lib.hid (below_then HB6.out (Nat.le_refl _) hb7); have HS7 := Lib.hid (HS6.out.keep hb7); clear hb7)
              | (go_at_call 12; (with_reducible refine (HTA2.out _ HB7.out).mono ?_); rintro e w8 ⟨rfl, hb8⟩; have HB8 := Lib.hid (below_then HB7.out (Nat.le_refl _) hb8); have HS8 := Lib.hid (HS7.out.keep hb8); clear hb8)
              | (go_at_call 12; (with_reducible refine (HTB2.out _ HB8.out).mono ?_); rintro e w9 ⟨rfl, hb9⟩; have HB9 := Lib.hid (below_then HB8.out (Nat.le_refl _) hb9); have HS9 := Lib.hid (HS8.out.keep hb9); clear hb9)
              | (go_at_call 12; (with_reducible refine (HTM2.out _ HB9.out _ _ HS9.out).mono ?_); rintro e w10 ⟨rfl, hb10⟩; have HB10 := Lib.hid (below_then HB9.out (Nat.le_refl _) hb10); clear hb10)
              | (go_at_call 9; (with_reducible refine (HWK.out _ HB10.out).mono ?_); rintro e w11 ⟨rfl, hb11⟩))
            go_ret
            exact ⟨rfl, below_then HB10.out (Nat.le_refl _) hb11⟩
        | true =>
          cases hmb : b.all Stp.may with
          | false =>
            have hmm : M.all Stp.may = false := by rw [hmay, hma, hmb]; rfl
            have HTA2 := Lib.hid (fun w1 (h1 : Below w.heap.size w w1) => (HTA.out w1 h1).mono fun e w' h => text_yes hma h)
            have HTB2 := Lib.hid (fun w1 (h1 : Below w.heap.size w w1) => (HTB.out w1 h1).mono fun e w' h => text_no hmb h)
            have HTM2 := Lib.hid (fun w1 (h1 : Below w.heap.size w w1) C m (h : Steps w1 C M) => (HTM.out w1 h1 C m h).mono fun e w' h => text_no hmm h)
            clear hma hmb hmm hmay hra hrb HTA HTB HTM
            go_enter Tryz.func6, Tryz.ntmps6
            go_wp2_with (first
              | (go_at_call 8; (with_reducible refine HGA.out.mono ?_); rintro e w1 ⟨rfl, rfl⟩)
              | (go_at_call 8; (with_reducible refine HGB.out.mono ?_); rintro e w1 ⟨rfl, rfl⟩)
              | (at_builtin; refine list_append_steps w _ rfl (.tmp 22) (.tmp 23) rfl _ [] rfl HE.out A c a rfl HSA.out HNA.out (by simp; omega) ?_; intro v1 wa hO1; rw [List.nil_append] at hO1; have HO1 := Lib.hid hO1; clear hO1)
              | (at_builtin; refine list_append_steps w _ rfl (.tmp 24) (.tmp 25) rfl _ a rfl HO1.out B d b rfl HSB.out HNB.out (by omega) ?_; intro v2 wb hO2; rw [HM.out] at hO2; obtain ⟨C, m, rfl, hSM⟩ := hO2.steps; have HO2 := Lib.hid hO2; have HG := Lib.hid (great28_ok M hMm wb C m hSM); have HE2 := Lib.hid (OwnSt.empty w wb hO2.below); rw [hgmv] at HG; clear hO2 hSM)
              | (go_at_call 8; (with_reducible refine HG.out.mono ?_); rintro e w1 ⟨rfl, rfl⟩)
              | (at_builtin; refine list_append_steps w _ rfl (.tmp 30) (.tmp 31) rfl _ [] rfl HE2.out A c a rfl HSA.out HNA.out (by simp; omega) ?_; intro v3 wc hO3; rw [List.nil_append] at hO3; have HO3 := Lib.hid hO3; clear hO3)
              | (at_builtin; refine list_append_steps w _ rfl (.tmp 32) (.tmp 33) rfl _ a rfl HO3.out B d b rfl HSB.out HNB.out (by omega) ?_; intro v4 wd hO4; rw [HM.out] at hO4; obtain ⟨C4, m4, rfl, hSM4⟩ := hO4.steps; have HB4 := Lib.hid hO4.below; have HS4 := Lib.hid hSM4; clear hO4 hSM4)
              | (go_at_call 21; (with_reducible refine (HCA.out _ HB4.out).mono ?_); rintro e w5 ⟨⟨XA, xc, rfl, _⟩, hb5⟩; have HB5 := Lib.hid (below_then HB4.out (Nat.le_refl _) hb5); have HS5 := Lib.hid (HS4.out.keep hb5); clear hb5)
              | (go_at_call 21; (with_reducible refine (HCB.out _ HB5.out).mono ?_); rintro e w6 ⟨⟨YA, yc, rfl, _⟩, hb6⟩; have HB6 := Lib.hid (below_then HB5.out (Nat.le_refl _) hb6); have HS6 := Lib.hid (HS5.out.keep hb6); clear hb6)
              | (go_at_call 21; (with_reducible refine (HCM.out _ _ _ HS6.out).mono ?_); rintro e w7 ⟨⟨ZA, zc, rfl, _⟩, hb7⟩; have HB7 := Lib.hid (below_then HB6.out (Nat.le_refl _) hb7); have HS7 := Lib.hid (HS6.out.keep hb7); clear hb7)
              | (go_at_call 12; (with_reducible refine (HTA2.out _ HB7.out).mono ?_); rintro e w8 ⟨rfl, hb8⟩; have HB8 := Lib.hid (below_then HB7.out (Nat.le_refl _) hb8); have HS8 := Lib.hid (HS7.out.keep hb8); clear hb8)
              | (go_at_call 12; (with_reducible refine (HTB2.out _ HB8.out).mono ?_); rintro e w9 ⟨rfl, hb9⟩; have HB9 := Lib.hid (below_then HB8.out (Nat.le_refl _) hb9); have HS9 := Lib.hid (HS8.out.keep hb9); clear hb9)
              | (go_at_call 12; (with_reducible refine (HTM2.out _ HB9.out _ _ HS9.out).mono ?_); rintro e w10 ⟨rfl, hb10⟩; have HB10 := Lib.hid (below_then HB9.out (Nat.le_refl _) hb10); clear hb10)
              | (go_at_call 9; (with_reducible refine (HWK.out _ HB10.out).mono ?_); rintro e w11 ⟨rfl, hb11⟩))
            go_ret
            exact ⟨rfl, below_then HB10.out (Nat.le_refl _) hb11⟩
          | true =>
            have hmm : M.all Stp.may = true := by rw [hmay, hma, hmb]; rfl
            have HTA2 := Lib.hid (fun w1 (h1 : Below w.heap.size w w1) => (HTA.out w1 h1).mono fun e w' h => text_yes hma h)
            have HTB2 := Lib.hid (fun w1 (h1 : Below w.heap.size w w1) => (HTB.out w1 h1).mono fun e w' h => text_yes hmb h)
            have HTM2 := Lib.hid (fun w1 (h1 : Below w.heap.size w w1) C m (h : Steps w1 C M) => (HTM.out w1 h1 C m h).mono fun e w' h => text_yes hmm h)
            have hla2 := hra hma
            have hlb2 := hrb hmb
            have hl7 := raw_seven a
            have hl8 := raw_seven b
            have hstr := joined_str HRJ.out
            obtain ⟨ra, hra2⟩ : ∃ ra : ByteArray, (⟨(proofX a).raw.toArray⟩ : ByteArray) = ra := ⟨_, rfl⟩
            obtain ⟨rb, hrb2⟩ : ∃ rb : ByteArray, (⟨(proofX b).raw.toArray⟩ : ByteArray) = rb := ⟨_, rfl⟩
            obtain ⟨rm, hrm2⟩ : ∃ rm : ByteArray, (⟨(proofX M).raw.toArray⟩ : ByteArray) = rm := ⟨_, rfl⟩
            have hsa : ra.size = (proofX a).raw.length := by rw [← hra2]; simp [ByteArray.size]
            have hsb : rb.size = (proofX b).raw.length := by rw [← hrb2]; simp [ByteArray.size]
            rw [hra2] at HTA2 hstr
            rw [hrb2] at HTB2 hstr
            rw [hrm2] at HTM2 hstr
            have d8 : decide ((ra.size : Int) < 7) = false := decide_eq_false (by omega)
            have d9 : decide ((rb.size : Int) < 7) = false := decide_eq_false (by omega)
            have g1 : (0 : Int) ≤ (ra.size : Int) - 1 := by omega
            have g2 : (ra.size : Int) - 1 ≤ (ra.size : Int) := by omega
            have g5 : (1 : Int) ≤ (ra.size : Int) := by omega
            have g3 : (6 : Int) ≤ (rb.size : Int) := by omega
            have g4 : 6 ≤ rb.size := by omega
            have hz1 : ra.size ≤ 400000 := by omega
            have hz2 : rb.size ≤ 400000 := by omega
            have HSTR := Lib.hid hstr
            clear hma hmb hmm hmay hra hrb HTA HTB HTM hra2 hrb2 hrm2 hsa hsb hla2 hlb2 hl7 hl8 hstr
            go_enter Tryz.func6, Tryz.ntmps6
            go_wp2_with (first
              | (go_at_call 8; (with_reducible refine HGA.out.mono ?_); rintro e w1 ⟨rfl, rfl⟩)
              | (go_at_call 8; (with_reducible refine HGB.out.mono ?_); rintro e w1 ⟨rfl, rfl⟩)
              | (at_builtin; refine list_append_steps w _ rfl (.tmp 22) (.tmp 23) rfl _ [] rfl HE.out A c a rfl HSA.out HNA.out (by simp; omega) ?_; intro v1 wa hO1; rw [List.nil_append] at hO1; have HO1 := Lib.hid hO1; clear hO1)
              | (at_builtin; refine list_append_steps w _ rfl (.tmp 24) (.tmp 25) rfl _ a rfl HO1.out B d b rfl HSB.out HNB.out (by omega) ?_; intro v2 wb hO2; rw [HM.out] at hO2; obtain ⟨C, m, rfl, hSM⟩ := hO2.steps; have HO2 := Lib.hid hO2; have HG := Lib.hid (great28_ok M hMm wb C m hSM); have HE2 := Lib.hid (OwnSt.empty w wb hO2.below); rw [hgmv] at HG; clear hO2 hSM)
              | (go_at_call 8; (with_reducible refine HG.out.mono ?_); rintro e w1 ⟨rfl, rfl⟩)
              | (at_builtin; refine list_append_steps w _ rfl (.tmp 30) (.tmp 31) rfl _ [] rfl HE2.out A c a rfl HSA.out HNA.out (by simp; omega) ?_; intro v3 wc hO3; rw [List.nil_append] at hO3; have HO3 := Lib.hid hO3; clear hO3)
              | (at_builtin; refine list_append_steps w _ rfl (.tmp 32) (.tmp 33) rfl _ a rfl HO3.out B d b rfl HSB.out HNB.out (by omega) ?_; intro v4 wd hO4; rw [HM.out] at hO4; obtain ⟨C4, m4, rfl, hSM4⟩ := hO4.steps; have HB4 := Lib.hid hO4.below; have HS4 := Lib.hid hSM4; clear hO4 hSM4)
              | (go_at_call 21; (with_reducible refine (HCA.out _ HB4.out).mono ?_); rintro e w5 ⟨⟨XA, xc, rfl, _⟩, hb5⟩; have HB5 := Lib.hid (below_then HB4.out (Nat.le_refl _) hb5); have HS5 := Lib.hid (HS4.out.keep hb5); clear hb5)
              | (go_at_call 21; (with_reducible refine (HCB.out _ HB5.out).mono ?_); rintro e w6 ⟨⟨YA, yc, rfl, _⟩, hb6⟩; have HB6 := Lib.hid (below_then HB5.out (Nat.le_refl _) hb6); have HS6 := Lib.hid (HS5.out.keep hb6); clear hb6)
              | (go_at_call 21; (with_reducible refine (HCM.out _ _ _ HS6.out).mono ?_); rintro e w7 ⟨⟨ZA, zc, rfl, _⟩, hb7⟩; have HB7 := Lib.hid (below_then HB6.out (Nat.le_refl _) hb7); have HS7 := Lib.hid (HS6.out.keep hb7); clear hb7)
              | (go_at_call 12; (with_reducible refine (HTA2.out _ HB7.out).mono ?_); rintro e w8 ⟨rfl, hb8⟩; have HB8 := Lib.hid (below_then HB7.out (Nat.le_refl _) hb8); have HS8 := Lib.hid (HS7.out.keep hb8); clear hb8)
              | (go_at_call 12; (with_reducible refine (HTB2.out _ HB8.out).mono ?_); rintro e w9 ⟨rfl, hb9⟩; have HB9 := Lib.hid (below_then HB8.out (Nat.le_refl _) hb9); have HS9 := Lib.hid (HS8.out.keep hb9); clear hb9)
              | (go_at_call 12; (with_reducible refine (HTM2.out _ HB9.out _ _ HS9.out).mono ?_); rintro e w10 ⟨rfl, hb10⟩; have HB10 := Lib.hid (below_then HB9.out (Nat.le_refl _) hb10); clear hb10)
              | (go_at_call 9; (with_reducible refine (HWK.out _ HB10.out).mono ?_); rintro e w11 ⟨rfl, hb11⟩))
            refine wp_region_quiet (C := fun w' => Below w.heap.size w w') (by kernel_rfl) (by kernel_rfl) (HB10.out.drew) ?_
            refine QW.lit ?_
            refine qw_want rfl ?_ (fun w' hw' => ?_) ?_
            rotate_left
            · unfold Oper.quietAt
              go_simp
              exact rfl
            simp only [Act.put, List.setIfInBounds_toArray, List.set_cons_succ, List.set_cons_zero]
            refine qw_want rfl ?_ (fun w' hw' => ?_) ?_
            rotate_left
            · unfold Oper.quietAt
              go_simp
              exact rfl
            simp only [Act.put, List.setIfInBounds_toArray, List.set_cons_succ, List.set_cons_zero]
            refine qw_want rfl ?_ (fun w' hw' => ?_) ?_
            rotate_left
            · unfold Oper.quietAt
              go_simp
              exact rfl
            simp only [Act.put, List.setIfInBounds_toArray, List.set_cons_succ, List.set_cons_zero]
            refine qw_want rfl ?_ (fun w' hw' => ?_) ?_
            rotate_left
            · unfold Oper.quietAt
              go_simp
              exact rfl
            simp only [Act.put, List.setIfInBounds_toArray, List.set_cons_succ, List.set_cons_zero]
            refine qw_want rfl (.int .i64 ((ra.size : Int) - 1)) (fun w' hw' => ?_) ?_
            · unfold Oper.quietAt
              go_simp
              rw [IntKind.wrap_i64]; omega
            simp only [Act.put, List.setIfInBounds_toArray, List.set_cons_succ, List.set_cons_zero]
            refine qw_want rfl (.string (ra.extract 0 (ra.size - 1))) (fun w' hw' => ?_) ?_
            · unfold Oper.quietAt
              go_simp
            simp only [Act.put, List.setIfInBounds_toArray, List.set_cons_succ, List.set_cons_zero]
            refine qw_want rfl ?_ (fun w' hw' => ?_) ?_
            rotate_left
            · unfold Oper.quietAt
              go_simp
              exact rfl
            simp only [Act.put, List.setIfInBounds_toArray, List.set_cons_succ, List.set_cons_zero]
            refine qw_want rfl (.string (rb.extract 6 rb.size)) (fun w' hw' => ?_) ?_
            · unfold Oper.quietAt
              go_simp
            simp only [Act.put, List.setIfInBounds_toArray, List.set_cons_succ, List.set_cons_zero]
            refine qw_want rfl (.string rm) (fun w' hw' => ?_) ?_
            · unfold Oper.quietAt
              go_simp
              rw [if_neg (by omega), HSTR.out]; exact ⟨rfl, rfl⟩
            simp only [Act.put, List.setIfInBounds_toArray, List.set_cons_succ, List.set_cons_zero]
            refine qw_want rfl (.bool true) (fun w' hw' => ?_) ?_
            · unfold Oper.quietAt
              go_simp
            simp only [Act.put, List.setIfInBounds_toArray, List.set_cons_succ, List.set_cons_zero]
            refine qw_want rfl ?_ (fun w' hw' => ?_) ?_
            rotate_left
            · unfold Oper.quietAt
              go_simp
              exact rfl
            simp only [Act.put, List.setIfInBounds_toArray, List.set_cons_succ, List.set_cons_zero]
            refine qw_want rfl (.bool true) (fun w' hw' => ?_) ?_
            · unfold Oper.quietAt
              go_simp
              refine (HWK.out w' hw').mono ?_
              rintro e w2 ⟨rfl, hb⟩
              have hz := below_then hw' (Nat.le_refl _) hb
              exact ⟨rfl, by simpa using hz⟩
            simp only [Act.put, List.setIfInBounds_toArray, List.set_cons_succ, List.set_cons_zero]
            refine qw_want rfl ?_ (fun w' hw' => ?_) ?_
            rotate_left
            · unfold Oper.quietAt
              go_simp
              exact rfl
            simp only [Act.put, List.setIfInBounds_toArray, List.set_cons_succ, List.set_cons_zero]
            refine qw_want rfl ?_ (fun w' hw' => ?_) ?_
            rotate_left
            · unfold Oper.quietAt
              go_simp
              exact rfl
            simp only [Act.put, List.setIfInBounds_toArray, List.set_cons_succ, List.set_cons_zero]
            refine qw_end (fun w5 hb5 => ?_)
            go_wp2
            go_ret
            exact ⟨rfl, hb5⟩

open Go.ChangeShapes Go.WideShapes Go.ChangeAt in
set_option maxRecDepth 100000 in
/-- A row of steps that came in; a nil one has no room. -/
theorem steps_own2 {H : Type} {enc : TypeId × Value → H} {W : World} {b base : Nat} {hd : Bool} {v : Value} {d : DataW H} {p : List MemPlace} (hv : Value.okWide Tryz.prog W .any base 22 v) (h : DataW.Trod enc Tryz.prog W b (fun _ => true) hd 22 v d p) (hp : ∀ x ∈ p, x.block < W.heap.size) :
    ∃ x : (Option Addr × Nat) × List Stp, v = .slice x.1.1 x.2.length x.1.2 ∧ GS W x.1.1 x.2 ∧ (x.1.1 = none → x.1.2 = 0) := by
  obtain ⟨x, rfl, hG⟩ := steps_own hv h hp
  obtain ⟨fuel, hf⟩ := h
  refine ⟨x, rfl, hG, fun hn => ?_⟩
  rcases DataW.trod_slice Tryz.underlying22 hf with ⟨e2, _⟩ | ⟨a, len, cap, elems, rest, m, hm, e2, _, _, hlc, hcm, hel, hget, _⟩
  · injection e2 with e2
    injection e2 with _ _ e3
  · injection e2 with e2
    injection e2 with e3 _ _
    rw [hn] at e3
    cases e3
theorem proofJoins_in (x y : (Option Addr × Nat) × List Stp) (w : World) (ht : Tab w) (h : GS w x.1.1 x.2 ∧ (x.1.1 = none → x.1.2 = 0)) (k : GS w y.1.1 y.2 ∧ (y.1.1 = none → y.1.2 = 0)) :
    Calls Tryz.prog 6 #[.slice x.1.1 x.2.length x.1.2, .slice y.1.1 y.2.length y.1.2] w fun e w' => e = .returned (.bool true) ∧ Below w.heap.size w w' := proofJoins_walk x.2 y.2 w ht x.1.1 y.1.1 x.1.2 y.1.2 h.1 k.1 h.2 k.2
end Go.Proofs.YtiklliiamljogaaGreatDoor

/- The reference's side (L17/RupI L17/RupJ), for layer 21's seat. -/
import Derived.Deep.RegionHeld3
import Derived.Test.YtmbekchnfbmhbaaGreatRfH
namespace Go.Proofs.YtmbekchnfbmhbaaGreat
section
open Go.RowKit Go.Lib
set_option maxRecDepth 100000 in
theorem wp_append_rows {o : Oper} {a : Act} {K : Act → World → Prop} {Q : Exit → Act → World → Prop} (w : World) (s x : Operand)
    (ho : o.op = .call { callee := .builtin .append, args := #[s, x], argTypes := #[22, 22] })
    (base : Nat) (v : Value) (xs : List (Option Addr × Nat × List Int)) (hs : a.eval s = v) (hown : w.ownsRow base 23 1 v xs.length (xs.map encR))
    (G : Option Addr) (c : Nat) (R : List (Option Addr × Nat × List Int)) (hx : a.eval x = .slice G R.length c) (hg : Grid w G R) (hn : G = none → c = 0) (hb : xs.length + R.length ≤ 1000000) (hbase : base ≤ w.heap.size)
    (h : ∀ v' w', w'.ownsRow base 23 1 v' (xs ++ R).length ((xs ++ R).map encR) → Below base w w' → K (a.put o.dst v') w') : o.wp Tryz.prog a w K Q := by
  obtain ⟨i0, hi, hz0, hz1, hz2⟩ := info_parts clone_info
  have hlen : ∀ R : List (Option Addr × Nat × List Int), (xs ++ R).length = xs.length + R.length := fun R => List.length_append
  cases G with
  | none =>
    obtain rfl := hn rfl
    have hR : R = [] := by
      rcases hg.at_ with h1 | ⟨b, off, h1, _⟩
      · exact List.eq_nil_of_length_eq_zero h1
      · cases h1
    subst hR
    have hrun := run_append_owned_none (P := Tryz.prog) (w := w) base 22 o.type 23 i0 1 Tryz.underlying22 hi v xs.length _ hown
    have h1 := h v w (by rw [List.append_nil]; exact hown) (Below.refl _ _)
    unfold Oper.wp execOp
    simp only [ho, resolve, invoke, builtin, Sem.run_bind, Sem.run_pure, Result.andThen_ok, List.map_toArray, List.map_cons, List.map_nil, hs, hx, List.length_nil]
    rw [hrun]
    exact h1
  | some ad =>
    have hnews : ∀ j u, (R.map encR)[j]? = some u → w.cell? (ad.add j) = some u := by
      intro j u hj
      rw [List.getElem?_map] at hj
      have hjl : j < R.length := by
        rcases Nat.lt_or_ge j R.length with h1 | h1
        · exact h1
        · rw [List.getElem?_eq_none h1] at hj; cases hj
      rw [List.getElem?_eq_getElem hjl, Option.map_some] at hj
      have hj := Option.some.inj hj
      obtain ⟨b, off, hA, _, hc⟩ := hg.at_.resolve_left (by omega)
      injection hA with hA
      subst hA
      have h2 : (⟨b, off, none⟩ : Addr).add j = ⟨b, off + j, none⟩ := by unfold Addr.add; split <;> simp_all
      rw [h2, (hc j hjl).1, ← hj]
      rfl
    have h1c : ∀ u ∈ R.map encR, u.oneCell' = true := by
      intro u hu
      obtain ⟨x, _, rfl⟩ := List.mem_map.1 hu
      rfl
    exact wp_append_own w s x 22 ho base 23 i0 (.slice none 0 0) 1 24 Tryz.underlying22 hi hz0 hz1 hz2 rfl (by decide) v xs.length _ hs hown ad R.length c _ hx (by rw [List.length_map, Nat.mul_one]) hnews h1c (by unfold maxLen; omega) (by omega) hbase
      fun v' w' h2 h3 _ => h v' w' (by rw [List.map_append, hlen]; exact h2) (Below.grown (Below.refl _ _) h3 hbase (own_base_le hown))
theorem list_append_rows {ops : Array Oper} {rest : List Oper} {o : Oper} {a : Act} {Q : Exit → Act → World → Prop} (w : World) (hw : Region.wanted o (yielded ops a.tmps) = true) (s x : Operand)
    (ho : o.op = .call { callee := .builtin .append, args := #[s, x], argTypes := #[22, 22] })
    (base : Nat) (v : Value) (xs : List (Option Addr × Nat × List Int)) (hs : a.eval s = v) (hown : w.ownsRow base 23 1 v xs.length (xs.map encR))
    (G : Option Addr) (c : Nat) (R : List (Option Addr × Nat × List Int)) (hx : a.eval x = .slice G R.length c) (hg : Grid w G R) (hn : G = none → c = 0) (hb : xs.length + R.length ≤ 1000000) (hbase : base ≤ w.heap.size)
    (h : ∀ v' w', w'.ownsRow base 23 1 v' (xs ++ R).length ((xs ++ R).map encR) → Below base w w' → wpList Tryz.prog ops Q rest (a.put o.dst v') w') : wpList Tryz.prog ops Q (o :: rest) a w :=
  wpList_step fun K hK => by
    rw [if_pos hw]
    exact wp_append_rows w s x ho base v xs hs hown G c R hx hg hn hb hbase fun v' w' h1 h2 => hK _ _ (h v' w' h1 h2)
theorem step_append_rows {ops : Array Oper} {o : Oper} {a : Act} {K : Act → World → Prop} {Q : Exit → Act → World → Prop} {E : Prop} (w : World) (hgd : o.guard = none) (s x : Operand)
    (ho : o.op = .call { callee := .builtin .append, args := #[s, x], argTypes := #[22, 22] })
    (base : Nat) (v : Value) (xs : List (Option Addr × Nat × List Int)) (hs : a.eval s = v) (hown : w.ownsRow base 23 1 v xs.length (xs.map encR))
    (G : Option Addr) (c : Nat) (R : List (Option Addr × Nat × List Int)) (hx : a.eval x = .slice G R.length c) (hg : Grid w G R) (hn : G = none → c = 0) (hb : xs.length + R.length ≤ 1000000) (hbase : base ≤ w.heap.size)
    (h : ∀ v' w', w'.ownsRow base 23 1 v' (xs ++ R).length ((xs ++ R).map encR) → Below base w w' → K (a.put o.dst v') w') :
    if Region.wanted o (yielded ops a.tmps) = true then Oper.wp Tryz.prog o a w K Q else E := by
  have hw : Region.wanted o (yielded ops a.tmps) = true := by simp [Region.wanted, hgd]
  rw [if_pos hw]
  exact wp_append_rows w s x ho base v xs hs hown G c R hx hg hn hb hbase h

/-- The first so many of a grid; the others. -/
theorem Grid.take {w : World} {A : Option Addr} {rows : List (Option Addr × Nat × List Int)} (h : Grid w A rows) (k : Nat) : Grid w A (rows.take k) := by
  refine ⟨by rw [List.length_take]; have := h.len; omega, ?_⟩
  rcases h.at_ with h0 | ⟨b, off, h1, h2, h3⟩
  · exact .inl (by rw [List.length_take]; omega)
  · refine .inr ⟨b, off, h1, h2, fun i hi => ?_⟩
    rw [List.length_take] at hi
    simp only [List.getElem_take]
    exact h3 i (by omega)
theorem own_emptyR (w : World) : (w.alloc (.cells #[] 23)).ownsRow w.heap.size 23 1 (.slice (some ⟨w.heap.size, 0, none⟩) 0 0) ([] : List (Option Addr × Nat × List Int)).length (([] : List (Option Addr × Nat × List Int)).map encR) :=
  ⟨rfl, .inr ⟨w.heap.size, 0, #[], rfl, Nat.le_refl _, heap_alloc_new w _, Nat.le_refl _, Nat.zero_le _, rfl, rfl⟩⟩

theorem with_ok {w : World} {LA SA : Option Addr} {L S : List (Option Addr × Nat × List Int)} (cl cs : Nat) (k : Nat) (hk : k ≤ S.length) (hcs : S.length ≤ cs) (hg : Grid w LA L) (hs : Grid w SA S) (hL : L.length ≤ 20000) (hS : S.length ≤ 20000) (hnl : LA = none → cl = 0) (hns : SA = none → cs = 0) :
    Calls Tryz.prog 43 #[.slice LA L.length cl, .slice SA S.length cs, .int .i64 k] w fun e w' => ∃ v, e = .returned v ∧ w'.ownsRow w.heap.size 23 1 v (L ++ S.take k).length ((L ++ S.take k).map encR) ∧ Below w.heap.size w w' := by
  have hG := Lib.hid hg
  have hS2 := Lib.hid hs
  have hkl : (S.take k).length = k := by rw [List.length_take]; omega
  have Hkl := Lib.hid hkl
  have hkc : k ≤ cs := by omega
  have t1 : (0 : Int) ≤ (k : Int) := by omega
  have t2 : (k : Int) ≤ (cs : Int) := by omega
  clear hg hs hkl
  go_enter Tryz.func43, Tryz.ntmps43
  go_upto_region 3 with (at_builtin; go_loud (refine list_append_rows _ rfl (.tmp 8) (.tmp 9) rfl w.heap.size _ [] rfl (World.ownsRow_nil _ _ _ _) LA cl L rfl hG.out hnl (by simp; omega) (Nat.le_refl _) ?_); intro v1 w1 ho1 hb1; have HO1 := Lib.hid ho1; have HB1 := Lib.hid hb1; clear ho1 hb1)
  go_wp2_with (at_builtin; go_loud (refine list_append_rows _ rfl (.tmp 11) (.tmp 14) rfl w.heap.size _ L rfl HO1.out SA cs (S.take k) (by rw [Hkl.out]; rfl) ((hS2.out.below HB1.out).take k) hns (by rw [Hkl.out]; omega) HB1.out.size ?_); intro v2 w2 ho2 hb2; have HO2 := Lib.hid ho2; have HB2 := Lib.hid (HB1.out.trans hb2); clear ho2 hb2)
  go_ret
  exact ⟨_, rfl, HO2.out, HB2.out⟩
end
section
open Go.RowKit Go.Lib
theorem with_grid {w : World} {LA SA : Option Addr} {L S : List (Option Addr × Nat × List Int)} (cl cs : Nat) (k : Nat) (hk : k ≤ S.length) (hcs : S.length ≤ cs) (hg : Grid w LA L) (hs : Grid w SA S) (hL : L.length ≤ 20000) (hS : S.length ≤ 20000) (hnl : LA = none → cl = 0) (hns : SA = none → cs = 0) :
    Calls Tryz.prog 43 #[.slice LA L.length cl, .slice SA S.length cs, .int .i64 k] w fun e w' => ∃ AA cap, e = .returned (.slice AA (L ++ S.take k).length cap) ∧ Grid w' AA (L ++ S.take k) ∧ Below w.heap.size w w' := by
  refine (with_ok cl cs k hk hcs hg hs hL hS hnl hns).mono ?_
  rintro e w' ⟨v, rfl, ho, hb⟩
  obtain ⟨AA, cap, rfl, hgr⟩ := Gath.grid (.inl ho) (by rw [List.length_append, List.length_take]; omega) (fun r hr => by
    rcases List.mem_append.1 hr with h1 | h1
    · exact (hg.below hb).each r h1
    · exact (hs.below hb).each r (List.mem_of_mem_take h1))
  exact ⟨AA, cap, rfl, hgr, hb⟩

set_option maxHeartbeats 2000000 in
theorem row17_ok {w : World} {LA SA : Option Addr} {L S : List (Option Addr × Nat × List Int)} (cl cs : Nat) (hcs : S.length ≤ cs) (hg : Grid w LA L) (hs : Grid w SA S) (hLS : L.length + S.length ≤ 20000) (hnl : LA = none → cl = 0) (hns : SA = none → cs = 0)
    (he : ∀ r ∈ L ++ S, r.2.2.length ≤ 50) (hm : ∀ r ∈ L ++ S, ∀ x ∈ r.2.2, x ≤ 9223372036854775807) :
    Calls Tryz.prog 24 #[.slice LA L.length cl, .slice SA S.length cs] w fun e w' => e = .returned (.int .i64 (rowM (rowsOf L) (rowsOf S) 0)) ∧ Below w.heap.size w w' := by
  have Hg := Lib.hid hg
  have Hs := Lib.hid hs
  have He := Lib.hid he
  have Hm := Lib.hid hm
  clear hg hs he hm
  go_enter Tryz.func24, Tryz.ntmps24
  go_wp2
  go_loopw [5] (fun vi wr => ∃ k : Nat, k ≤ S.length ∧ vi = .int .i64 k ∧ Below w.heap.size w wr ∧ rowM (rowsOf L) (rowsOf S) 0 = rowM (rowsOf (L ++ S.take k)) (rowsOf (S.drop k)) k) (fun vi _ => (S.length - intOf vi).toNat)
  case atStart => exact ⟨0, Nat.zero_le _, rfl, Below.refl _ _, by rw [List.take_zero, List.append_nil, List.drop_zero]; rfl⟩
  case round =>
    obtain ⟨k, hk, rfl, hbel, hrow⟩ := hrel
    by_cases hlt : k < S.length
    · have d1 : decide ((k : Int) < S.length) = true := by simp; omega
      have hbd : Below w.heap.size w wr.drew := below_drewN hbel 1
      have hs := Hs.out.below hbd
      obtain ⟨b, off, hA, hbb, hcell⟩ := hs.at_.resolve_left (by omega)
      have y0 := (hcell k hlt).1
      have hr0 := (hcell k hlt).2.1
      have t1 : (0 : Int) ≤ (k : Int) := by omega
      have t2 : (k : Int) < (S.length : Int) := by omega
      have K1 := with_grid cl cs k (Nat.le_of_lt hlt) hcs (Hg.out.below hbd) hs (by omega) (by omega) hnl hns
      subst hA
      have hra := row_at L S hlt k
      have hG1 : (L ++ S.take k).length ≤ 20000 := by rw [List.length_append, List.length_take]; omega
      have hsub : ∀ r ∈ L ++ S.take k, r ∈ L ++ S := fun r hr => by
        rcases List.mem_append.1 hr with h1 | h1
        · exact List.mem_append_left _ h1
        · exact List.mem_append_right _ (List.mem_of_mem_take h1)
      have K2 := fun W AA cap (hb : Below wr.drew.heap.size wr.drew W) (hgr : Grid W AA (L ++ S.take k)) => follows17_ok cap S[k].2.1 hgr hG1 (fun r hr => He.out r (hsub r hr)) (fun r hr => Hm.out r (hsub r hr)) (hr0.below hb) (Hm.out S[k] (List.mem_append_right _ (List.getElem_mem hlt)))
      have Hra := Lib.hid hra
      have Hrow := Lib.hid hrow
      have Hbd := Lib.hid hbd
      clear hra hrow hbel hcell hr0 hG1 hsub hs
      generalize L ++ S.take k = G at *
      generalize S[k] = sk at *
      generalize hq : followsM (rowsOf G) sk.2.2 = q at *
      have Hq := Lib.hid hq
      clear hq
      have y1 : wr.cell? ⟨b, off + k, none⟩ = some (.slice sk.1 sk.2.2.length sk.2.1) := y0
      go_wp2
      go_region_held3 (fun w' => w'.cell? ⟨b, off + k, none⟩ = some (.slice sk.1 sk.2.2.length sk.2.1)) (go_keep)
        (first
          | (go_at_call 43; (with_reducible refine K1.mono ?_); rintro e w2 ⟨AA, ca, rfl, hg2, hb2⟩; have z1 := (hb2.cell (p := ⟨b, off + k, none⟩) hbb).trans y0; have HG2 := Lib.hid hg2; have HB2 := Lib.hid hb2; clear hg2 hb2)
          | (go_at_call 42; (with_reducible refine (K2 _ AA ca HB2.out HG2.out).mono ?_); rintro e w3 ⟨rfl, hb3⟩; have z2 := (hb3.cell (p := ⟨b, off + k, none⟩) (Nat.lt_of_lt_of_le hbb HB2.out.size)).trans z1; have HB3 := Lib.hid (below_then HB2.out (Nat.le_refl _) hb3); clear hb3))
      cases q with
      | true =>
        rw [if_pos rfl] at Hra
        go_wp2
        go_roundw
        case rel => exact ⟨k + 1, by omega, by go_num, Hbd.out.trans (HB3.out.mono Hbd.out.size), by rw [Hrow.out, Hra.out]; rfl⟩
        case measure => simp only [intOf]; omega
      | false =>
        rw [if_neg (by simp)] at Hra
        go_wp2
        go_ret
        exact ⟨by rw [Hrow.out, Hra.out]; rfl, Hbd.out.trans (HB3.out.mono Hbd.out.size)⟩
    · obtain rfl : k = S.length := by omega
      have d1 : decide ((S.length : Int) < S.length) = false := by simp
      have Hrow := Lib.hid hrow
      clear hrow
      go_wp2
      go_ret
      exact ⟨by rw [Hrow.out, List.drop_length]; rfl, hbel⟩

set_option maxHeartbeats 1000000 in
theorem refutes17_ok {w : World} {LA SA : Option Addr} {L S : List (Option Addr × Nat × List Int)} (cl cs : Nat) (hcs : S.length ≤ cs) (hg : Grid w LA L) (hs : Grid w SA S) (hLS : L.length + S.length ≤ 20000) (hnl : LA = none → cl = 0) (hns : SA = none → cs = 0)
    (he : ∀ r ∈ L ++ S, r.2.2.length ≤ 50) (hm : ∀ r ∈ L ++ S, ∀ x ∈ r.2.2, x ≤ 9223372036854775807) :
    Calls Tryz.prog 14 #[.slice LA L.length cl, .slice SA S.length cs] w fun e w' => e = .returned (.bool (refutesM (rowsOf L) (rowsOf S))) ∧ Below w.heap.size w w' := by
  have K := row17_ok cl cs hcs hg hs hLS hnl hns he hm
  have hS : S.length ≤ 20000 := by omega
  have hl : (rowsOf S).length = S.length := List.length_map _
  by_cases h0 : S.length = 0
  · have hr : refutesM (rowsOf L) (rowsOf S) = false := by unfold refutesM; rw [hl, h0]; rfl
    rw [hr]
    have d1 : decide ((0 : Int) < S.length) = false := by rw [h0]; rfl
    clear hr hl
    go_enter Tryz.func14, Tryz.ntmps14
    go_wp2
    go_ret
    exact ⟨rfl, Below.refl _ _⟩
  have d1 : decide ((0 : Int) < S.length) = true := by simp; omega
  obtain ⟨b, off, rfl, hb, hc⟩ := hs.at_.resolve_left (by omega)
  have hj : S.length - 1 < S.length := by omega
  have y0 := (hc (S.length - 1) hj).1
  have hq : ((S.length : Int) - 1).toNat = S.length - 1 := by omega
  have t1 : (0 : Int) ≤ (S.length : Int) - 1 := by omega
  have t2 : (S.length : Int) - 1 < S.length := by omega
  have hd : (rowsOf S).getD (S.length - 1) [0] = S[S.length - 1].2.2 := by
    rw [List.getD_eq_getElem?_getD]
    unfold rowsOf
    rw [List.getElem?_map, List.getElem?_eq_getElem hj]
    rfl
  have hr : refutesM (rowsOf L) (rowsOf S) = (S[S.length - 1].2.2.isEmpty && decide (rowM (rowsOf L) (rowsOf S) 0 < 0)) := by
    unfold refutesM
    rw [hl, hd, show decide (0 < S.length) = true by simp; omega, Bool.true_and]
  rw [hr]
  have hll := (hc (S.length - 1) hj).2.1.len
  generalize S[S.length - 1] = sk at *
  generalize rowM (rowsOf L) (rowsOf S) 0 = q at *
  clear hr hd hl hc hg hs hm he hns hnl
  by_cases h1 : sk.2.2.length = 0
  · have d2 : ((sk.2.2.length : Int) == 0) = true := by rw [h1]; rfl
    have he : sk.2.2.isEmpty = true := by rw [List.isEmpty_iff]; exact List.eq_nil_of_length_eq_zero h1
    rw [he, Bool.true_and]
    clear he h1
    go_enter Tryz.func14, Tryz.ntmps14
    go_wp2_with (go_at_call 24; go_loud (with_reducible refine K.mono ?_); rintro e w1 ⟨rfl, hb1⟩; have HB1 := Lib.hid hb1; clear hb1)
    go_ret
    exact ⟨rfl, HB1.out⟩
  · have d2 : ((sk.2.2.length : Int) == 0) = false := by rw [beq_eq_false_iff_ne]; omega
    have he : sk.2.2.isEmpty = false := by rw [Bool.eq_false_iff]; intro h; rw [List.isEmpty_iff] at h; rw [h] at h1; exact h1 rfl
    rw [he, Bool.false_and]
    clear he h1
    go_enter Tryz.func14, Tryz.ntmps14
    go_wp2
    go_ret
    exact ⟨rfl, Below.refl _ _⟩
end
end Go.Proofs.YtmbekchnfbmhbaaGreat

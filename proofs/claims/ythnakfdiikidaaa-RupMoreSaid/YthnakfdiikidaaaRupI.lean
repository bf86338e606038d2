/- The reference's Row and Refutes. -/
import Derived.Test.YthnakfdiikidaaaRupH
namespace Go.Proofs.Ythnakfdiikidaaa
open Go.RowKit Go.Lib

theorem wp_append_rows {o : Oper} {a : Act} {K : Act → World → Prop} {Q : Exit → Act → World → Prop} (w : World) (s x : Operand)
    (ho : o.op = .call { callee := .builtin .append, args := #[s, x], argTypes := #[22, 22] })
    (base : Nat) (v : Value) (xs : List (Option Addr × Nat × List Int)) (hs : a.eval s = v) (hown : w.ownsRow base 28 1 v xs.length (xs.map encR))
    (G : Option Addr) (c : Nat) (R : List (Option Addr × Nat × List Int)) (hx : a.eval x = .slice G R.length c) (hg : Grid w G R) (hn : G = none → c = 0) (hb : xs.length + R.length ≤ 1000000) (hbase : base ≤ w.heap.size)
    (h : ∀ v' w', w'.ownsRow base 28 1 v' (xs ++ R).length ((xs ++ R).map encR) → Below base w w' → K (a.put o.dst v') w') : o.wp Try.prog a w K Q := by
  obtain ⟨i0, hi, hz0, hz1, hz2⟩ := info_parts clone_info
  have hlen : ∀ R : List (Option Addr × Nat × List Int), (xs ++ R).length = xs.length + R.length := fun R => List.length_append
  cases G with
  | none =>
    obtain rfl := hn rfl
    have hR : R = [] := by
      rcases hg.at_ with h1 | ⟨b, off, h1, _⟩
      · exact List.eq_nil_of_length_eq_zero h1
      · cases h1
    subst hR
    have hrun := run_append_owned_none (P := Try.prog) (w := w) base 22 o.type 28 i0 1 Try.underlying22 hi v xs.length _ hown
    have h1 := h v w (by rw [List.append_nil]; exact hown) (Below.refl _ _)
    unfold Oper.wp execOp
    simp only [ho, resolve, invoke, builtin, Sem.run_bind, Sem.run_pure, Result.andThen_ok, List.map_toArray, List.map_cons, List.map_nil, hs, hx, List.length_nil]
    rw [hrun]
    exact h1
  | some ad =>
    have hnews : ∀ j u, (R.map encR)[j]? = some u → w.cell? (ad.add j) = some u := by
      intro j u hj
      rw [List.getElem?_map] at hj
      have hjl : j < R.length := by
        rcases Nat.lt_or_ge j R.length with h1 | h1
        · exact h1
        · rw [List.getElem?_eq_none h1] at hj; cases hj
      rw [List.getElem?_eq_getElem hjl] at hj
      injection hj with hj
      obtain ⟨b, off, hA, _, hc⟩ := hg.at_.resolve_left (by omega)
      injection hA with hA
      subst hA
      have h2 : (⟨b, off, none⟩ : Addr).add j = ⟨b, off + j, none⟩ := by unfold Addr.add; split <;> simp_all
      rw [h2, (hc j hjl).1, ← hj]
      rfl
    have h1c : ∀ u ∈ R.map encR, u.oneCell' = true := by
      intro u hu
      obtain ⟨x, _, rfl⟩ := List.mem_map.1 hu
      rfl
    exact wp_append_own w s x 22 ho base 28 i0 (.slice none 0 0) 1 24 Try.underlying22 hi hz0 hz1 hz2 rfl (by decide) v xs.length _ hs hown ad R.length c _ hx (by rw [List.length_map, Nat.mul_one]) hnews h1c (by unfold maxLen; omega) (by omega) hbase
      fun v' w' h2 h3 _ => h v' w' (by rw [List.map_append, hlen]; exact h2) (Below.grown (Below.refl _ _) h3 hbase (own_base_le hown))
theorem list_append_rows {ops : Array Oper} {rest : List Oper} {o : Oper} {a : Act} {Q : Exit → Act → World → Prop} (w : World) (hw : Region.wanted o (yielded ops a.tmps) = true) (s x : Operand)
    (ho : o.op = .call { callee := .builtin .append, args := #[s, x], argTypes := #[22, 22] })
    (base : Nat) (v : Value) (xs : List (Option Addr × Nat × List Int)) (hs : a.eval s = v) (hown : w.ownsRow base 28 1 v xs.length (xs.map encR))
    (G : Option Addr) (c : Nat) (R : List (Option Addr × Nat × List Int)) (hx : a.eval x = .slice G R.length c) (hg : Grid w G R) (hn : G = none → c = 0) (hb : xs.length + R.length ≤ 1000000) (hbase : base ≤ w.heap.size)
    (h : ∀ v' w', w'.ownsRow base 28 1 v' (xs ++ R).length ((xs ++ R).map encR) → Below base w w' → wpList Try.prog ops Q rest (a.put o.dst v') w') : wpList Try.prog ops Q (o :: rest) a w :=
  wpList_step fun K hK => by
    rw [if_pos hw]
    exact wp_append_rows w s x ho base v xs hs hown G c R hx hg hn hb hbase fun v' w' h1 h2 => hK _ _ (h v' w' h1 h2)
theorem step_append_rows {ops : Array Oper} {o : Oper} {a : Act} {K : Act → World → Prop} {Q : Exit → Act → World → Prop} {E : Prop} (w : World) (hgd : o.guard = none) (s x : Operand)
    (ho : o.op = .call { callee := .builtin .append, args := #[s, x], argTypes := #[22, 22] })
    (base : Nat) (v : Value) (xs : List (Option Addr × Nat × List Int)) (hs : a.eval s = v) (hown : w.ownsRow base 28 1 v xs.length (xs.map encR))
    (G : Option Addr) (c : Nat) (R : List (Option Addr × Nat × List Int)) (hx : a.eval x = .slice G R.length c) (hg : Grid w G R) (hn : G = none → c = 0) (hb : xs.length + R.length ≤ 1000000) (hbase : base ≤ w.heap.size)
    (h : ∀ v' w', w'.ownsRow base 28 1 v' (xs ++ R).length ((xs ++ R).map encR) → Below base w w' → K (a.put o.dst v') w') :
    if Region.wanted o (yielded ops a.tmps) = true then Oper.wp Try.prog o a w K Q else E := by
  have hw : Region.wanted o (yielded ops a.tmps) = true := by simp [Region.wanted, hgd]
  rw [if_pos hw]
  exact wp_append_rows w s x ho base v xs hs hown G c R hx hg hn hb hbase h

/-- The first so many of a grid; the others. -/
theorem Grid.take {w : World} {A : Option Addr} {rows : List (Option Addr × Nat × List Int)} (h : Grid w A rows) (k : Nat) : Grid w A (rows.take k) := by
  refine ⟨by rw [List.length_take]; have := h.len; omega, ?_⟩
  rcases h.at_ with h0 | ⟨b, off, h1, h2, h3⟩
  · exact .inl (by rw [List.length_take]; omega)
  · refine .inr ⟨b, off, h1, h2, fun i hi => ?_⟩
    rw [List.length_take] at hi
    simp only [List.getElem_take]
    exact h3 i (by omega)
theorem own_emptyR (w : World) : (w.alloc (.cells #[] 28)).ownsRow w.heap.size 28 1 (.slice (some ⟨w.heap.size, 0, none⟩) 0 0) ([] : List (Option Addr × Nat × List Int)).length (([] : List (Option Addr × Nat × List Int)).map encR) :=
  ⟨rfl, .inr ⟨w.heap.size, 0, #[], rfl, Nat.le_refl _, heap_alloc_new w _, Nat.le_refl _, Nat.zero_le _, rfl, rfl⟩⟩

theorem with_ok {w : World} {LA SA : Option Addr} {L S : List (Option Addr × Nat × List Int)} (cl cs : Nat) (k : Nat) (hk : k ≤ S.length) (hcs : S.length ≤ cs) (hg : Grid w LA L) (hs : Grid w SA S) (hL : L.length ≤ 1000) (hS : S.length ≤ 1000) (hnl : LA = none → cl = 0) (hns : SA = none → cs = 0) :
    Calls Try.prog 27 #[.slice LA L.length cl, .slice SA S.length cs, .int .i64 k] w fun e w' => ∃ v, e = .returned v ∧ w'.ownsRow w.heap.size 28 1 v (L ++ S.take k).length ((L ++ S.take k).map encR) ∧ Below w.heap.size w w' := by
  have hG := Lib.hid hg
  have hS2 := Lib.hid hs
  have hkl : (S.take k).length = k := by rw [List.length_take]; omega
  have Hkl := Lib.hid hkl
  have hkc : k ≤ cs := by omega
  have t1 : (0 : Int) ≤ (k : Int) := by omega
  have t2 : (k : Int) ≤ (cs : Int) := by omega
  clear hg hs hkl
  go_enter Try.func27, Try.ntmps27
  go_upto_region 3 with (at_builtin; go_loud (refine list_append_rows _ rfl (.tmp 8) (.tmp 9) rfl w.heap.size _ [] rfl (World.ownsRow_nil _ _ _ _) LA cl L rfl hG.out hnl (by simp; omega) (Nat.le_refl _) ?_); intro v1 w1 ho1 hb1; have HO1 := Lib.hid ho1; have HB1 := Lib.hid hb1; clear ho1 hb1)
  go_wp2_with (at_builtin; go_loud (refine list_append_rows _ rfl (.tmp 11) (.tmp 14) rfl w.heap.size _ L rfl HO1.out SA cs (S.take k) (by rw [Hkl.out]; rfl) ((hS2.out.below HB1.out).take k) hns (by rw [Hkl.out]; omega) HB1.out.size ?_); intro v2 w2 ho2 hb2; have HO2 := Lib.hid ho2; have HB2 := Lib.hid (HB1.out.trans hb2); clear ho2 hb2)
  go_ret
  exact ⟨_, rfl, HO2.out, HB2.out⟩
end Go.Proofs.Ythnakfdiikidaaa

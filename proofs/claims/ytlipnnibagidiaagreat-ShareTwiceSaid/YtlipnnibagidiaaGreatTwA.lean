/- The reference's Make. -/
import Derived.Test.YtlipnnibagidiaaGreatRdB
import Derived.Test.YtlipnnibagidiaaGreatWiA
import Derived.Test.YtlipnnibagidiaaGreatClF
import Derived.Test.YtlipnnibagidiaaGreatRfH
import Derived.Test.YtlipnnibagidiaaGreatOfC
import Derived.Test.YtlipnnibagidiaaGreatRdF
import Derived.Test.YtlipnnibagidiaaGreatImD
import Derived.Test.YtlipnnibagidiaaGreatNuB
namespace Go.Proofs.YtlipnnibagidiaaGreat
open Go.RowKit Go.Lib

set_option maxRecDepth 100000 in
theorem wp_append_row {o : Oper} {a : Act} {K : Act → World → Prop} {Q : Exit → Act → World → Prop} (w : World) (s x : Operand)
    (ho : o.op = .call { callee := .builtin .append, args := #[s, x], argTypes := #[27, 27] })
    (base : Nat) (v : Value) (n : Nat) (xs : List Int) (hs : a.eval s = v) (hown : w.ownsRow base 3 1 v n (xs.map (Value.int .i64)))
    (A : Option Addr) (cap : Nat) (zs : List Int) (hx : a.eval x = .slice A zs.length cap) (hrow : Row w A zs) (hnil : A = none → cap = 0) (hb : n + zs.length ≤ 100000) (hbase : base ≤ w.heap.size)
    (h : ∀ v' w', w'.ownsRow base 3 1 v' (n + zs.length) ((xs ++ zs).map (Value.int .i64)) → w.grownBy w' v.ownBlock → K (a.put o.dst v') w') : o.wp Tryz.prog a w K Q := by
  obtain ⟨i0, hi, hz0, hz1, hz2⟩ := info_parts int_info
  cases A with
  | none =>
    obtain rfl := hnil rfl
    have hz : zs = [] := by
      rcases hrow.at_ with h1 | ⟨b, off, h1, _⟩
      · exact List.eq_nil_of_length_eq_zero h1
      · cases h1
    subst hz
    have hrun := run_append_owned_none (P := Tryz.prog) (w := w) base 27 o.type 3 i0 1 Tryz.underlying27 hi v n _ hown
    have h1 := h v w (by rw [List.append_nil]; exact hown) ⟨rfl, rfl, rfl, Nat.le_refl _, fun _ _ _ => rfl⟩
    unfold Oper.wp execOp
    simp only [ho, resolve, invoke, builtin, Sem.run_bind, Sem.run_pure, Result.andThen_ok, List.map_toArray, List.map_cons, List.map_nil, hs, hx]
    simp only [List.length_nil] at hrun ⊢
    rw [hrun]
    exact h1
  | some ad =>
    have hnews : ∀ j u, (zs.map (Value.int .i64))[j]? = some u → w.cell? (ad.add j) = some u := by
      intro j u hj
      rw [List.getElem?_map] at hj
      have hjl : j < zs.length := by
        rcases Nat.lt_or_ge j zs.length with h1 | h1
        · exact h1
        · rw [List.getElem?_eq_none h1] at hj; cases hj
      rw [List.getElem?_eq_getElem hjl] at hj
      injection hj with hj
      rcases hrow.at_ with h1 | ⟨b, off, h1, _, hc⟩
      · omega
      · injection h1 with h1
        subst h1
        have h2 : (⟨b, off, none⟩ : Addr).add j = ⟨b, off + j, none⟩ := by unfold Addr.add; split <;> simp_all
        rw [h2, hc j hjl, ← hj]
    have h1c : ∀ u ∈ zs.map (Value.int .i64), u.oneCell' = true := by
      intro u hu
      obtain ⟨x, _, rfl⟩ := List.mem_map.1 hu
      rfl
    exact wp_append_own w s x 27 ho base 3 i0 (.int .i64 0) 1 8 Tryz.underlying27 hi hz0 hz1 hz2 rfl (by decide) v n _ hs hown ad zs.length cap _ hx (by simp) hnews h1c (by unfold maxLen; omega) (by omega) hbase
      fun v' w' h2 h3 _ => h v' w' (by rw [List.map_append]; exact h2) h3

theorem list_append_row {ops : Array Oper} {rest : List Oper} {o : Oper} {a : Act} {Q : Exit → Act → World → Prop} (w : World) (hw : Region.wanted o (yielded ops a.tmps) = true) (s x : Operand)
    (ho : o.op = .call { callee := .builtin .append, args := #[s, x], argTypes := #[27, 27] })
    (base : Nat) (v : Value) (n : Nat) (xs : List Int) (hs : a.eval s = v) (hown : w.ownsRow base 3 1 v n (xs.map (Value.int .i64)))
    (A : Option Addr) (cap : Nat) (zs : List Int) (hx : a.eval x = .slice A zs.length cap) (hrow : Row w A zs) (hnil : A = none → cap = 0) (hb : n + zs.length ≤ 100000) (hbase : base ≤ w.heap.size)
    (h : ∀ v' w', w'.ownsRow base 3 1 v' (n + zs.length) ((xs ++ zs).map (Value.int .i64)) → w.grownBy w' v.ownBlock → wpList Tryz.prog ops Q rest (a.put o.dst v') w') : wpList Tryz.prog ops Q (o :: rest) a w :=
  wpList_step fun K hK => by
    rw [if_pos hw]
    exact wp_append_row w s x ho base v n xs hs hown A cap zs hx hrow hnil hb hbase fun v' w' h1 h2 => hK _ _ (h v' w' h1 h2)

theorem step_append_row {ops : Array Oper} {o : Oper} {a : Act} {K : Act → World → Prop} {Q : Exit → Act → World → Prop} {E : Prop} (w : World) (hgd : o.guard = none) (s x : Operand)
    (ho : o.op = .call { callee := .builtin .append, args := #[s, x], argTypes := #[27, 27] })
    (base : Nat) (v : Value) (n : Nat) (xs : List Int) (hs : a.eval s = v) (hown : w.ownsRow base 3 1 v n (xs.map (Value.int .i64)))
    (A : Option Addr) (cap : Nat) (zs : List Int) (hx : a.eval x = .slice A zs.length cap) (hrow : Row w A zs) (hnil : A = none → cap = 0) (hb : n + zs.length ≤ 100000) (hbase : base ≤ w.heap.size)
    (h : ∀ v' w', w'.ownsRow base 3 1 v' (n + zs.length) ((xs ++ zs).map (Value.int .i64)) → w.grownBy w' v.ownBlock → K (a.put o.dst v') w') :
    if Region.wanted o (yielded ops a.tmps) = true then Oper.wp Tryz.prog o a w K Q else E := by
  have hw : Region.wanted o (yielded ops a.tmps) = true := by simp [Region.wanted, hgd]
  rw [if_pos hw]
  exact wp_append_row w s x ho base v n xs hs hown A cap zs hx hrow hnil hb hbase h

theorem own_empty (w : World) : (w.alloc (.cells #[] 3)).ownsRow w.heap.size 3 1 (.slice (some ⟨w.heap.size, 0, none⟩) 0 0) 0 (([] : List Int).map (Value.int .i64)) :=
  ⟨rfl, .inr ⟨w.heap.size, 0, #[], rfl, Nat.le_refl _, heap_alloc_new w _, Nat.le_refl _, Nat.zero_le _, rfl, rfl⟩⟩
/-- A literal more that is below 0, or is there. -/
theorem make_skip {l : List Int} {x : Int} (h : x < 0 ∨ x ∈ makeM l) : makeM (l ++ [x]) = makeM l := by
  refine make_eq fun y hy => ?_
  rw [List.mem_append, List.mem_singleton]
  refine ⟨fun h1 => h1.elim id fun e => ?_, .inl⟩
  subst e
  rcases h with h | h
  · omega
  · exact ((mem_make _ _).1 h).1
/-- A literal more, put in its place. -/
theorem make_ins {l : List Int} {x : Int} {k : Nat} (h0 : 0 ≤ x) (hn : x ∉ makeM l) (hlt : ∀ y ∈ (makeM l).take k, y < x) (hge : k < (makeM l).length → ∀ h : k < (makeM l).length, ¬ (makeM l)[k] < x) : (makeM l).take k ++ [x] ++ (makeM l).drop k = makeM (l ++ [x]) := by
  have ho := make_ord l
  have hgt : ∀ y ∈ (makeM l).drop k, x < y := by
    intro y hy
    have hk : k < (makeM l).length := by
      rcases Nat.lt_or_ge k (makeM l).length with h | h
      · exact h
      · rw [List.drop_eq_nil_of_le h] at hy; cases hy
    have h1 := hge hk hk
    rw [List.drop_eq_getElem_cons hk] at hy
    have hne : (makeM l)[k] ≠ x := fun e => hn (by rw [← e]; exact List.getElem_mem hk)
    rcases List.mem_cons.1 hy with rfl | hy
    · omega
    · have hp : ((makeM l).drop k).Pairwise (· < ·) := ho.drop
      rw [List.drop_eq_getElem_cons hk] at hp
      have := (List.pairwise_cons.1 hp).1 y hy
      omega
  refine ord_ext ?_ (make_ord _) fun y => ?_
  · refine List.pairwise_append.2 ⟨List.pairwise_append.2 ⟨ho.take, by simp, fun a ha b hb => ?_⟩, ho.drop, fun a ha b hb => ?_⟩
    · rw [List.mem_singleton.1 hb]; exact hlt a ha
    · have := hgt b hb
      rcases List.mem_append.1 ha with ha | ha
      · have := hlt a ha; omega
      · rw [List.mem_singleton.1 ha]; exact this
  · rw [mem_make, List.mem_append, List.mem_append, List.mem_append, List.mem_singleton]
    constructor
    · rintro ((h | h) | h)
      · have := (mem_make _ _).1 (List.mem_of_mem_take h)
        exact ⟨.inl this.1, this.2⟩
      · subst h; exact ⟨.inr rfl, h0⟩
      · have := (mem_make _ _).1 (List.mem_of_mem_drop h)
        exact ⟨.inl this.1, this.2⟩
    · rintro ⟨h | h, hy⟩
      · have hm : y ∈ makeM l := (mem_make _ _).2 ⟨h, hy⟩
        rw [← List.take_append_drop k (makeM l)] at hm
        rcases List.mem_append.1 hm with hm | hm
        · exact .inl (.inl hm)
        · exact .inr hm
      · exact .inl (.inr h)
theorem OwnI.row {w : World} {base g cap : Nat} {zs : List Int} (h : OwnI w base g cap zs) (hl : zs.length ≤ 100000) : Row w (some ⟨g, 0, none⟩) zs := by
  refine ⟨hl, .inr ⟨g, 0, rfl, own_lt h, fun i hi => ?_⟩⟩
  rw [Nat.zero_add, h.cellAt i (by omega), List.getElem?_map, List.getElem?_eq_getElem hi]
  rfl
theorem row_drop {w : World} {b off : Nat} {zs : List Int} (h : Row w (some ⟨b, off, none⟩) zs) (k : Nat) (hk : k < zs.length) : Row w (some ⟨b, off + k, none⟩) (zs.drop k) := by
  obtain ⟨b', off', hA, hb, hc⟩ := h.at_.resolve_left (by omega)
  injection hA with hA
  injection hA with h1 h2
  subst h1 h2
  refine ⟨by rw [List.length_drop]; have := h.len; omega, .inr ⟨b, off + k, rfl, hb, fun i hi => ?_⟩⟩
  rw [List.length_drop] at hi
  rw [Nat.add_assoc, hc (k + i) (by omega), List.getElem_drop]
theorem row_none {w : World} (A : Option Addr) : Row w A [] := ⟨by simp, .inl rfl⟩
theorem own_row3 {w : World} {base n : Nat} {v : Value} {zs : List Int} (h : w.ownsRow base 3 1 v n (zs.map (Value.int .i64))) (hn : n = zs.length) (hl : zs.length ≤ 100000) :
    ∃ B d, v = .slice B zs.length d ∧ Row w B zs ∧ (B = none → d = 0) ∧ zs.length ≤ d ∧ d ≤ 9223372036854775807 ∧ ∀ a, B = some a → ∃ cs, Blk w a.block 3 cs := by
  rcases own_cases h hn with ⟨rfl, h0⟩ | ⟨g, c, rfl, hown, _, hc⟩
  · refine ⟨none, 0, by rw [h0]; rfl, ?_, fun _ => rfl, by rw [h0]; simp, by decide, fun a ha => by cases ha⟩
    rw [h0]
    exact row_none none
  · obtain ⟨cur, hb, hh, hc2, hM, _⟩ := hown.block
    unfold maxLen at hM
    exact ⟨_, c, rfl, hown.row hl, (fun h => by cases h), hc, hM, fun a ha => by injection ha with ha; subst ha; exact ⟨cur, hh⟩⟩
/-- The row made so far. -/
structure Outs (w wr : World) (zs : List Int) (i : Nat) (v : Value) (OA : Option Addr) (oc : Nat) (out : List Int) : Prop where
  val : v = .slice OA out.length oc
  is : out = makeM (zs.take i)
  row : Row wr OA out
  nil : OA = none → oc = 0
  cap : out.length ≤ oc
  capMax : oc ≤ 9223372036854775807
  blk : ∀ a, OA = some a → ∃ cs, Blk wr a.block 3 cs
  bel : Below w.heap.size w wr

theorem push_own {w : World} {base n : Nat} {v : Value} {l : List Int} {x : Int} (h : w.ownsRow base 3 1 v n (l.map (Value.int .i64) ++ #[Value.int .i64 x].toList)) : w.ownsRow base 3 1 v n ((l ++ [x]).map (Value.int .i64)) := by
  rw [List.map_append]; exact h
theorem take_succ_snoc {zs : List Int} {i : Nat} (h : i < zs.length) : zs.take (i + 1) = zs.take i ++ [zs[i]] := List.take_succ_eq_append_getElem h

set_option maxRecDepth 100000 in
set_option maxHeartbeats 4000000 in
theorem make15_ok {w : World} {A : Option Addr} {zs : List Int} (cap : Nat) (h : Row w A zs) (hz : zs.length ≤ 100000) :
    Calls Tryz.prog 143 #[.slice A zs.length cap] w fun e w' => ∃ B d, e = .returned (.slice B (makeM zs).length d) ∧ Row w' B (makeM zs) ∧ ((B = none → d = 0) ∧ ∀ a, B = some a → ∃ cs, Blk w' a.block 3 cs) ∧ Below w.heap.size w w' := by
  obtain ⟨i0, hi, hz0, hz1, hz2⟩ := info_parts int_info
  have H := Lib.hid h
  clear h
  go_enter Tryz.func143, Tryz.ntmps143
  go_wp2
  go_loopw [4, 3] (fun vi vo wr => ∃ (i : Nat) (OA : Option Addr) (oc : Nat) (out : List Int), i ≤ zs.length ∧ vi = .int .i64 i ∧ Outs w wr zs i vo OA oc out) (fun vi _ _ => (zs.length - intOf vi).toNat)
  case atStart => exact ⟨0, none, 0, [], Nat.zero_le _, rfl, rfl, (by rw [List.take_zero]; unfold makeM; simp only [List.filter_nil, List.mergeSort_nil]; rfl), ⟨by simp, .inl rfl⟩, fun _ => rfl, Nat.le_refl _, by simp, (fun a ha => by cases ha), Below.refl _ _⟩
  case round =>
    obtain ⟨i, OA, oc, out, hi2, rfl, hO⟩ := hrel
    obtain ⟨rfl, his, hrow, hnil, hcap, hcm, hbk, hbel⟩ := hO
    have Hbk := Lib.hid hbk
    clear hbk
    have hol : out.length ≤ i := by
      rw [his]
      have := make_len (zs.take i)
      rw [List.length_take] at this
      omega
    have Hrow := Lib.hid hrow
    have Hnil := Lib.hid hnil
    have Hbel := Lib.hid hbel
    have His := Lib.hid his
    have Hcm := Lib.hid hcm
    clear hrow hnil hbel his hcm
    by_cases hlt : i < zs.length
    · have d1 : decide ((i : Int) < zs.length) = true := by simp; omega
      obtain ⟨b, off, hA, hb, hcell⟩ := H.out.at_.resolve_left (by omega)
      subst hA
      have hcx : ∀ W, Below w.heap.size w W → W.cell? ⟨b, off + i, none⟩ = some (.int .i64 zs[i]) := fun W hW => (hW.cell (p := ⟨b, off + i, none⟩) hb).trans (hcell i hlt)
      have Htk := Lib.hid (take_succ_snoc hlt)
      have y0 := hcx _ Hbel.out
      have t1 : (0 : Int) ≤ (i : Int) := by omega
      have t2 : (i : Int) < (zs.length : Int) := by omega
      clear hcell
      generalize zs[i] = x at *
      have Hcx := Lib.hid hcx
      clear hcx
      by_cases g1 : x < 0
      · have d2 : decide (x < (0 : Int)) = true := decide_eq_true g1
        have e1 := Lib.hid (show out = makeM (zs.take (i + 1)) by rw [Htk.out, make_skip (.inl g1)]; exact His.out)
        clear g1
        go_wp2
        go_roundw
        case rel => exact ⟨i + 1, OA, oc, out, by omega, by go_num, rfl, e1.out, Hrow.out, Hnil.out, hcap, Hcm.out, Hbk.out, Hbel.out⟩
        case measure => simp only [intOf]; omega
      have d2 : decide (x < (0 : Int)) = false := decide_eq_false g1
      have Kh := has_ok oc Hrow.out x
      by_cases g2 : x ∈ out
      · have e1 := Lib.hid (show out = makeM (zs.take (i + 1)) by rw [Htk.out, make_skip (.inr (by rw [← His.out]; exact g2))]; exact His.out)
        rw [decide_eq_true g2] at Kh
        clear g1 g2
        go_wp2_with (go_at_call 70; (with_reducible refine Kh.mono ?_); rintro e w1 ⟨rfl, rfl⟩)
        go_roundw
        case rel => exact ⟨i + 1, OA, oc, out, by omega, by go_num, rfl, e1.out, Hrow.out, Hnil.out, hcap, Hcm.out, Hbk.out, Hbel.out⟩
        case measure => simp only [intOf]; omega
      rw [decide_eq_false g2] at Kh
      have G1 := Lib.hid (show 0 ≤ x by omega)
      have G2 := Lib.hid g2
      clear g1 g2
      go_wp2_with (go_at_call 70; (with_reducible refine Kh.mono ?_); rintro e w1 ⟨rfl, rfl⟩)
      clear Kh
      obtain ⟨wo, rfl⟩ : ∃ wo : World, wo = wr := ⟨_, rfl⟩
      go_loopw [6, 5] (fun vk vn wy => ∃ k : Nat, k ≤ out.length ∧ vk = .int .i64 k ∧ wy.ownsRow wo.heap.size 3 1 vn k ((out.take k).map (Value.int .i64)) ∧ (∀ y ∈ out.take k, y < x) ∧ Below wo.heap.size wo wy) (fun vk _ _ => (out.length - intOf vk).toNat)
      case atStart => exact ⟨0, Nat.zero_le _, rfl, World.ownsRow_nil _ _ _ _, (fun y hy => by cases hy), Below.refl _ _⟩
      case round =>
        obtain ⟨k, hk, rfl, hown, hls, hby⟩ := hrel
        have Hown := Lib.hid hown
        have Hls := Lib.hid hls
        have Hby := Lib.hid hby
        have y0 := Hcx.out _ (below_then Hbel.out (Nat.le_refl _) hby)
        clear hown hls hby
        have hex : (k < out.length ∧ ∃ h : k < out.length, out[k] < x) ∨ (k < out.length → ∀ h : k < out.length, ¬ out[k] < x) := by
          by_cases h1 : k < out.length
          · by_cases h2 : out[k] < x
            · exact .inl ⟨h1, h1, h2⟩
            · exact .inr fun _ _ => h2
          · exact .inr fun h => absurd h h1
        rcases hex with ⟨hkl, _, hlx⟩ | hge
        · have d3 : decide ((k : Int) < out.length) = true := by simp; omega
          obtain ⟨ob, oo, hOA, hob, hoc⟩ := (Hrow.out.below Hby.out).at_.resolve_left (by omega)
          subst hOA
          have z0 := hoc k hkl
          have Htk2 := Lib.hid (take_succ_snoc hkl)
          have Hls2 := Lib.hid (show ∀ y ∈ out.take (k + 1), y < x from fun y hy => by
            rw [Htk2.out] at hy
            rcases List.mem_append.1 hy with hy | hy
            · exact Hls.out y hy
            · rw [List.mem_singleton.1 hy]; exact hlx)
          have t3 : (0 : Int) ≤ (k : Int) := by omega
          have t4 : (k : Int) < (out.length : Int) := by omega
          have d4 : decide (out[k] < x) = true := decide_eq_true hlx
          clear hoc hlx
          generalize out[k] = y at *
          have X1 := Lib.hid (show (k + 1) * 8 ≤ 140737488355328 by omega)
          go_wp2
          go_quiet (fail)
          have HW := Lib.hid (show Below wo.heap.size wo ((wr.drewN nq).alloc (.cells #[.int .i64 y] 3)) from (below_drewN Hby.out nq).alloc Hby.out.size _)
          go_wp2_with (at_builtin; refine list_push _ rfl (.tmp 41) (.tmp 46) 27 rfl wo.heap.size 3 i0 (.int .i64 0) 1 8 Tryz.underlying27 hi hz0 hz1 hz2 rfl (by decide) _ k ((out.take k).map (Value.int .i64)) rfl ((own_drewN Hown.out nq).alloc _) wr.heap.size #[.int .i64 y] rfl (Blk.new (wr.drewN nq) _ _) rfl (by intro u hu; rw [List.mem_singleton.1 hu]; rfl) X1.out (by decide) Hby.out.size ?_; intro ga ca w3 ho3 hg3 _ _; have HO3 := Lib.hid ho3; have HB3 := Lib.hid (Below.grown HW.out hg3 (Nat.le_trans HW.out.size (Nat.le_refl _)) (fun j hj => (Hown.out.lt j hj).1)); clear ho3 hg3)
          go_roundw
          case rel => exact ⟨k + 1, by omega, by go_num, by rw [Htk2.out, List.map_append]; exact HO3.out, Hls2.out, HB3.out⟩
          case measure => simp only [intOf]; omega
        · have X1 := Lib.hid (show (k + 1) * 8 ≤ 140737488355328 by omega)
          have hdl : (out.take k).length = k := by rw [List.length_take]; omega
          have X2 := Lib.hid (show k + 1 + (out.drop k).length ≤ 100000 by rw [List.length_drop]; omega)
          have hmk : out.take k ++ [x] ++ out.drop k = makeM (zs.take (i + 1)) := by
            rw [Htk.out, ← make_ins (k := k) G1.out (by rw [← His.out]; exact G2.out) (by rw [← His.out]; exact Hls.out) (by rw [← His.out]; exact hge), ← His.out]
          obtain ⟨M, hM⟩ : ∃ M, out.take k ++ [x] ++ out.drop k = M := ⟨_, rfl⟩
          have X3 := Lib.hid (show k + 1 + (out.drop k).length = M.length by rw [← hM, List.length_append, List.length_append, hdl]; rfl)
          have X4 := Lib.hid (show M.length ≤ 100000 by rw [← X3.out]; exact X2.out)
          rw [hM] at hmk
          have HMM := Lib.hid hM
          have HMk := Lib.hid hmk
          have HW := fun nq => Lib.hid (show Below wo.heap.size wo ((wr.drewN nq).alloc (.cells #[.int .i64 x] 3)) from (below_drewN Hby.out nq).alloc Hby.out.size _)
          clear hdl hmk hM
          by_cases hkl : k < out.length
          · have d3 : decide ((k : Int) < out.length) = true := by simp; omega
            obtain ⟨ob, oo, hOA, hob, hoc⟩ := (Hrow.out.below Hby.out).at_.resolve_left (by omega)
            subst hOA
            have z0 := hoc k hkl
            have t3 : (0 : Int) ≤ (k : Int) := by omega
            have t4 : (k : Int) < (out.length : Int) := by omega
            have t5 : (k : Int) ≤ (out.length : Int) := by omega
            have t6 : (out.length : Int) ≤ (oc : Int) := by omega
            have t7 : ((oc : Int) == (k : Int)) = false := by simp; omega
            have t8 : oc ≠ k := by omega
            have d4 : decide (out[k] < x) = false := decide_eq_false (hge hkl hkl)
            have Hdr := Lib.hid (fun W (h : Below wo.heap.size wo W) => row_drop (Hrow.out.below h) k hkl)
            clear hoc hge
            generalize out[k] = y at *
            go_wp2
            go_quiet (fail)
            go_wp2_with (first
              | (at_builtin; refine list_push _ rfl (.tmp 50) (.tmp 55) 27 rfl wo.heap.size 3 i0 (.int .i64 0) 1 8 Tryz.underlying27 hi hz0 hz1 hz2 rfl (by decide) _ k ((out.take k).map (Value.int .i64)) rfl ((own_drewN Hown.out nq).alloc _) wr.heap.size #[.int .i64 x] rfl (Blk.new (wr.drewN nq) _ _) rfl (by intro u hu; rw [List.mem_singleton.1 hu]; rfl) X1.out (by decide) Hby.out.size ?_; intro ga ca w3 ho3 hg3 _ _; have HO3 := Lib.hid (push_own ho3); have HB3 := Lib.hid (Below.grown (HW nq).out hg3 (Nat.le_trans (HW nq).out.size (Nat.le_refl _)) (fun j hj => (Hown.out.lt j hj).1)); clear ho3 hg3)
              | (at_builtin; refine list_append_row _ rfl (.tmp 57) (.tmp 60) rfl wo.heap.size _ (k + 1) (out.take k ++ [x]) rfl HO3.out (some ⟨ob, oo + k, none⟩) (oc - k) (out.drop k) (by rw [List.length_drop]; rfl) (Hdr.out _ HB3.out) (by intro h; cases h) X2.out HB3.out.size ?_; intro v4 w4 ho4 hg4; rw [HMM.out] at ho4; have HB4 := Lib.hid (Below.grown HB3.out hg4 HB3.out.size (fun j hj => (HO3.out.lt j hj).1)); obtain ⟨B5, d5, rfl, hr5, hn5, hc5, hm5, hk5⟩ := own_row3 ho4 X3.out X4.out; have HR5 := Lib.hid hr5; have HN5 := Lib.hid hn5; have HC5 := Lib.hid hc5; have HM5 := Lib.hid hm5; have HK5 := Lib.hid hk5; clear ho4 hg4 hr5 hn5 hc5 hm5 hk5))
            go_roundw
            case rel => exact ⟨i + 1, B5, d5, M, by omega, by go_num, rfl, HMk.out, HR5.out, HN5.out, HC5.out, HM5.out, HK5.out, below_then Hbel.out (Nat.le_refl _) HB4.out⟩
            case measure => simp only [intOf]; omega
          · obtain rfl : k = out.length := by omega
            have d3 : decide ((out.length : Int) < out.length) = false := by simp
            have hdn : out.drop out.length = [] := List.drop_length
            have Hdn := Lib.hid hdn
            have t5 : (out.length : Int) ≤ (oc : Int) := by omega
            clear hge hdn hkl
            cases OA with
            | none =>
              have ho0 := Hnil.out rfl
              subst ho0
              have hon : out = [] := List.eq_nil_of_length_eq_zero (by omega)
              subst hon
              simp only [List.length_nil, List.take_nil, List.drop_nil, List.nil_append, List.append_nil, Nat.zero_add, List.map_nil] at Hown X1 X2 X3 HMM d3
              go_wp2
              go_quiet (fail)
              go_wp2_with (first
                | (at_builtin; refine list_push _ rfl (.tmp 50) (.tmp 55) 27 rfl wo.heap.size 3 i0 (.int .i64 0) 1 8 Tryz.underlying27 hi hz0 hz1 hz2 rfl (by decide) _ 0 [] rfl ((own_drewN Hown.out nq).alloc _) wr.heap.size #[.int .i64 x] rfl (Blk.new (wr.drewN nq) _ _) rfl (by intro u hu; rw [List.mem_singleton.1 hu]; rfl) X1.out (by decide) Hby.out.size ?_; intro ga ca w3 ho3 hg3 _ _; have HO3 := Lib.hid (push_own (l := []) ho3); have HB3 := Lib.hid (Below.grown (HW nq).out hg3 (Nat.le_trans (HW nq).out.size (Nat.le_refl _)) (fun j hj => (Hown.out.lt j hj).1)); clear ho3 hg3)
                | (at_builtin; refine list_append_row _ rfl (.tmp 57) (.tmp 60) rfl wo.heap.size _ 1 ([] ++ [x]) rfl HO3.out none 0 [] rfl (row_none _) (fun _ => rfl) (by decide) HB3.out.size ?_; intro v4 w4 ho4 hg4; rw [List.append_nil, List.nil_append, HMM.out] at ho4; have HB4 := Lib.hid (Below.grown HB3.out hg4 HB3.out.size (fun j hj => (HO3.out.lt j hj).1)); obtain ⟨B5, d5, rfl, hr5, hn5, hc5, hm5, hk5⟩ := own_row3 ho4 X3.out X4.out; have HR5 := Lib.hid hr5; have HN5 := Lib.hid hn5; have HC5 := Lib.hid hc5; have HM5 := Lib.hid hm5; have HK5 := Lib.hid hk5; clear ho4 hg4 hr5 hn5 hc5 hm5 hk5))
              go_roundw
              case rel => exact ⟨i + 1, B5, d5, M, by omega, by go_num, rfl, HMk.out, HR5.out, HN5.out, HC5.out, HM5.out, HK5.out, below_then Hbel.out (Nat.le_refl _) HB4.out⟩
              case measure => simp only [intOf]; omega
            | some oa =>
              by_cases hoe : oc = out.length
              · subst hoe
                go_wp2
                go_quiet (fail)
                go_wp2_with (first
                  | (at_builtin; refine list_push _ rfl (.tmp 50) (.tmp 55) 27 rfl wo.heap.size 3 i0 (.int .i64 0) 1 8 Tryz.underlying27 hi hz0 hz1 hz2 rfl (by decide) _ out.length ((out.take out.length).map (Value.int .i64)) rfl ((own_drewN Hown.out nq).alloc _) wr.heap.size #[.int .i64 x] rfl (Blk.new (wr.drewN nq) _ _) rfl (by intro u hu; rw [List.mem_singleton.1 hu]; rfl) X1.out (by decide) Hby.out.size ?_; intro ga ca w3 ho3 hg3 _ _; have HO3 := Lib.hid (push_own ho3); have HB3 := Lib.hid (Below.grown (HW nq).out hg3 (Nat.le_trans (HW nq).out.size (Nat.le_refl _)) (fun j hj => (Hown.out.lt j hj).1)); clear ho3 hg3)
                  | (at_builtin; refine list_append_row _ rfl (.tmp 57) (.tmp 60) rfl wo.heap.size _ (out.length + 1) (out.take out.length ++ [x]) rfl HO3.out (some oa) _ (out.drop out.length) (by rw [Hdn.out]; rfl) (Hdn.out ▸ row_none _) (by intro h; cases h) X2.out HB3.out.size ?_; intro v4 w4 ho4 hg4; rw [HMM.out] at ho4; have HB4 := Lib.hid (Below.grown HB3.out hg4 HB3.out.size (fun j hj => (HO3.out.lt j hj).1)); obtain ⟨B5, d5, rfl, hr5, hn5, hc5, hm5, hk5⟩ := own_row3 ho4 X3.out X4.out; have HR5 := Lib.hid hr5; have HN5 := Lib.hid hn5; have HC5 := Lib.hid hc5; have HM5 := Lib.hid hm5; have HK5 := Lib.hid hk5; clear ho4 hg4 hr5 hn5 hc5 hm5 hk5))
                go_roundw
                case rel => exact ⟨i + 1, B5, d5, M, by omega, by go_num, rfl, HMk.out, HR5.out, HN5.out, HC5.out, HM5.out, HK5.out, below_then Hbel.out (Nat.le_refl _) HB4.out⟩
                case measure => simp only [intOf]; omega
              · have t7 : ((oc : Int) == (out.length : Int)) = false := by simp; omega
                go_wp2
                go_quiet (fail)
                go_wp2_with (first
                  | (at_builtin; refine list_push _ rfl (.tmp 50) (.tmp 55) 27 rfl wo.heap.size 3 i0 (.int .i64 0) 1 8 Tryz.underlying27 hi hz0 hz1 hz2 rfl (by decide) _ out.length ((out.take out.length).map (Value.int .i64)) rfl ((own_drewN Hown.out nq).alloc _) wr.heap.size #[.int .i64 x] rfl (Blk.new (wr.drewN nq) _ _) rfl (by intro u hu; rw [List.mem_singleton.1 hu]; rfl) X1.out (by decide) Hby.out.size ?_; intro ga ca w3 ho3 hg3 _ _; have HO3 := Lib.hid (push_own ho3); have HB3 := Lib.hid (Below.grown (HW nq).out hg3 (Nat.le_trans (HW nq).out.size (Nat.le_refl _)) (fun j hj => (Hown.out.lt j hj).1)); clear ho3 hg3)
                  | (at_builtin; refine list_append_row _ rfl (.tmp 57) (.tmp 60) rfl wo.heap.size _ (out.length + 1) (out.take out.length ++ [x]) rfl HO3.out _ _ (out.drop out.length) (by rw [Hdn.out]; rfl) (Hdn.out ▸ row_none _) (by intro h; cases h) X2.out HB3.out.size ?_; intro v4 w4 ho4 hg4; rw [HMM.out] at ho4; have HB4 := Lib.hid (Below.grown HB3.out hg4 HB3.out.size (fun j hj => (HO3.out.lt j hj).1)); obtain ⟨B5, d5, rfl, hr5, hn5, hc5, hm5, hk5⟩ := own_row3 ho4 X3.out X4.out; have HR5 := Lib.hid hr5; have HN5 := Lib.hid hn5; have HC5 := Lib.hid hc5; have HM5 := Lib.hid hm5; have HK5 := Lib.hid hk5; clear ho4 hg4 hr5 hn5 hc5 hm5 hk5))
                go_roundw
                case rel => exact ⟨i + 1, B5, d5, M, by omega, by go_num, rfl, HMk.out, HR5.out, HN5.out, HC5.out, HM5.out, HK5.out, below_then Hbel.out (Nat.le_refl _) HB4.out⟩
                case measure => simp only [intOf]; omega
    · obtain rfl : i = zs.length := by omega
      have d1 : decide ((zs.length : Int) < zs.length) = false := by simp
      have e1 := His.out
      rw [List.take_length] at e1
      have E1 := Lib.hid e1
      clear e1
      go_wp2
      go_ret
      exact ⟨OA, oc, by rw [← E1.out]; rfl, by rw [← E1.out]; exact Hrow.out, ⟨Hnil.out, Hbk.out⟩, Hbel.out⟩
end Go.Proofs.YtlipnnibagidiaaGreat

/- The document's clauses of two shared nodes: gantryref26.equality, diff, clauses. -/
namespace Go.Proofs.YtlipnnibagidiaaGreat
open Go.RowKit Go.Lib

set_option maxRecDepth 100000 in
theorem requality_ok (w : World) (x y : Int) : Calls Tryz.prog 140 #[.int .i64 x, .int .i64 y] w fun e w' => e = .returned (nodeVal (eqNd x y)) ∧ Below w.heap.size w w' := by
  have HB0 := Lib.hid (show Below w.heap.size w (w.alloc (.cells (nodeCells (eqNd x y)).toArray 51)) from (Below.refl _ w).alloc (Nat.le_refl _) _)
  have HBN := Lib.hid (show Blk (w.alloc (.cells (nodeCells (eqNd x y)).toArray 51)) w.heap.size 51 (nodeCells (eqNd x y)).toArray from Blk.new w _ _)
  simp only [nodeCells, eqNd] at HB0 HBN
  go_enter Tryz.func140, Tryz.ntmps140
  go_wp2
  refine bodyPost_ret (v := nodeVal (eqNd x y)) ?_ rfl ⟨rfl, HB0.out⟩
  have n0 := HBN.out.cell 0
  have n1 := HBN.out.cell 1
  have n2 := HBN.out.cell 2
  have n3 := HBN.out.cell 3
  have n4 := HBN.out.cell 4
  have n5 := HBN.out.cell 5
  have n6 := HBN.out.cell 6
  have n7 := HBN.out.cell 7
  simp only [List.getElem?_toArray, List.getElem?_cons_zero, List.getElem?_cons_succ] at n0 n1 n2 n3 n4 n5 n6 n7
  simp [results, Tryz.results140, go_sem, n0, n1, n2, n3, n4, n5, n6, n7, nodeVal, nodeCells, eqNd]

theorem rneg13_ok (x : Int) (w : World) : Calls Tryz.prog 141 #[.int .i64 x] w fun e w' => e = .returned (.int .i64 (negG x)) ∧ w = w' := by
  go_enter Tryz.func141, Tryz.ntmps141
  go_wp2
  go_ret
  exact ⟨rfl, rfl⟩
/-- What diff comes to, of a table that is laid. -/
def rdF (T : List Nd) (x y : Int) : Int × Bool := if (baseT T x).1 = (baseT T y).1 then (0, false) else (litT T (diffNd (baseT T x).1 (baseT T y).1 (difN T x y)), true)
def RdIs26 (T : List Nd) (x y : Int) (w : World) (e : Ending) (w' : World) : Prop := e = .returned (.tuple #[.int .i64 (rdF T x y).1, .bool (rdF T x y).2, .bool true]) ∧ Below w.heap.size w w'
set_option maxRecDepth 100000 in
set_option maxHeartbeats 2000000 in
theorem rdiff26_ok {T : List Nd} {w : World} {A : Option Addr} (c : Nat) (h : Tab w A T) (hT : TabOk T) (k1 k2 : Nat) (hk1 : k1 < T.length) (hk2 : k2 < T.length) (hm : mayI (difN T k1 k2) = true) (hd : (baseT T k1).1 = (baseT T k2).1 ∨ diffNd (baseT T k1).1 (baseT T k2).1 (difN T k1 k2) ∈ T) :
    Calls Tryz.prog 142 #[.agg #[.slice A T.length c], .int .i64 (k1 : Nat), .int .i64 (k2 : Nat)] w (RdIs26 T k1 k2 w) := by
  have hlen := h.len
  have HB0 : Hid (Below w.heap.size w (w.alloc (.cells #[.slice A T.length c] 33))) := Lib.hid ((Below.refl _ w).alloc (Nat.le_refl _) _)
  have HT0 := Lib.hid (Blk.new w 33 #[.slice A T.length c])
  have hx : ∀ k : Nat, k < T.length → In64 (baseT T k).1 := fun k hk => by
    unfold baseT
    split
    · exact (h.wfs _ (ndAt_mem (by omega) (by omega))).arg 0
    split
    · show In64 1
      unfold In64
      decide
    · unfold In64
      dsimp only
      omega
  have HWp := Lib.hid (diffNd_wf (hx k1 hk1) (hx k2 hk2) (may_in hm))
  have H := Lib.hid h
  have HK := Lib.hid (And.intro hk1 hk2)
  have hsub : subN (baseT T k2).2 (baseT T k1).2 = (difN T k1 k2, 0) := by
    unfold subN
    rw [base_may hT (x := (k1 : Nat)) (by omega) (by omega), base_may hT (x := (k2 : Nat)) (by omega) (by omega)]
    show (if mayI (difN T k1 k2) = true then _ else _) = _
    rw [if_pos hm]
    rfl
  have HS := Lib.hid hsub
  have HD := Lib.hid hd
  have x0 := HT0.out.cell 0
  simp only [List.getElem?_toArray, List.getElem?_cons_zero] at x0
  clear h hT hk1 hk2 hm hd hsub hx
  have HG : Hid (rdF T k1 k2 = if (baseT T k1).1 = (baseT T k2).1 then (0, false) else (litT T (diffNd (baseT T k1).1 (baseT T k2).1 (difN T k1 k2)), true)) := Lib.hid rfl
  go_enter Tryz.func142, Tryz.ntmps142
  go_wp2_with fail
  refine (rbase_ok c k1 HK.out.1 (H.out.below HB0.out)).mono ?_
  rintro e w1 ⟨rfl, hb⟩
  have HB1 := Lib.hid (HB0.out.trans (hb.mono HB0.out.size))
  have HT1 := Lib.hid (HT0.out.below hb HT0.out.lt)
  have x1 := HT1.out.cell 0
  simp only [List.getElem?_toArray, List.getElem?_cons_zero] at x1
  clear hb x0
  go_wp2_with fail
  refine (rbase_ok c k2 HK.out.2 (H.out.below HB1.out)).mono ?_
  rintro e w2 ⟨rfl, hb⟩
  have HB2 := Lib.hid (HB1.out.trans (hb.mono HB1.out.size))
  have HT2 := Lib.hid (HT1.out.below hb HT1.out.lt)
  have x2 := HT2.out.cell 0
  simp only [List.getElem?_toArray, List.getElem?_cons_zero] at x2
  clear hb x1
  go_wp2_with fail
  refine (rsub_ok _ _ _).mono ?_
  rintro e w3 ⟨rfl, rfl⟩
  rw [HS.out]
  by_cases hb : (baseT T k1).1 = (baseT T k2).1
  · have hb' : ((baseT T k1).1 == (baseT T k2).1) = true := by simp [hb]
    have HG1 : Hid (rdF T k1 k2 = (0, false)) := Lib.hid (by rw [HG.out, if_pos hb])
    clear hb HG HD
    go_wp2
    refine bodyPost_ret (v := .tuple #[.int .i64 0, .bool false, .bool true]) (by simp [results, Tryz.results142, go_sem]) rfl ?_
    unfold RdIs26
    rw [HG1.out]
    exact ⟨rfl, HB2.out⟩
  · have hb' : ((baseT T k1).1 == (baseT T k2).1) = false := by simp [hb]
    have hmem := HD.out.resolve_left hb
    obtain ⟨q, hq⟩ : ∃ q : Nat, T.idxOf (diffNd (baseT T k1).1 (baseT T k2).1 (difN T k1 k2)) = q := ⟨_, rfl⟩
    have hql : q < T.length := by rw [← hq]; exact List.idxOf_lt_length_iff.2 hmem
    have HG1 : Hid (rdF T k1 k2 = (2 * (q : Int), true)) := Lib.hid (by rw [HG.out, if_neg hb]; unfold litT; rw [hq])
    have KF : Hid (Calls Tryz.prog 37 #[.agg #[.slice A T.length c], .agg #[.int .i8 12, .int .i8 2, .int .i64 (baseT T k1).1, .int .i64 (baseT T k2).1, .int .i64 0, .int .i64 0, .int .i64 0, .int .i64 (difN T k1 k2)]] w2 (fun e w' => e = .returned (.tuple #[.int .i64 (q : Int), .bool true]) ∧ Below w2.heap.size w2 w')) := Lib.hid ((rfind_ok c _ HWp.out (H.out.below HB2.out)).mono fun e w' ⟨ix, r, h1, h2, h3, _, h5⟩ => by
      rw [h2.2 hmem, h3 hmem, hq] at h1
      exact ⟨h1, h5⟩)
    have hw : IntKind.i64.wrap (2 * (q : Int)) = 2 * (q : Int) := by unfold IntKind.wrap; simp [IntKind.bits, IntKind.signed]; omega
    clear hb HG HD hmem hq
    generalize (baseT T k1).1 = b1 at *
    generalize (baseT T k2).1 = b2 at *
    go_wp2_with fail
    refine KF.out.mono ?_
    rintro e w4 ⟨rfl, hb4⟩
    have HB4 := Lib.hid (HB2.out.trans (hb4.mono HB2.out.size))
    clear hb4
    go_wp2
    refine bodyPost_ret (v := .tuple #[.int .i64 (2 * (q : Int)), .bool true, .bool true]) (by simp [results, Tryz.results142, go_sem]) rfl ?_
    unfold RdIs26
    rw [HG1.out]
    exact ⟨rfl, HB4.out⟩
end Go.Proofs.YtlipnnibagidiaaGreat

/- gantryref26.clauses of two shared nodes of a table that is laid. -/
namespace Go.Proofs.YtlipnnibagidiaaGreat
open Go.RowKit Go.Lib

/-- A slice of rows, whole in a block. -/
def SlcV (W : World) (v : Value) (xs : List Value) : Prop := ∃ b, v = .slice (some ⟨b, 0, none⟩) xs.length xs.length ∧ Blk W b 27 xs.toArray ∧ ∀ u ∈ xs, u.oneCell' = true
def RClIs (w : World) (e : Ending) (w' : World) : Prop := ∃ v xs, e = .returned (.tuple #[v, .bool true]) ∧ SlcV w' v xs ∧ xs.length ≤ 3 ∧ 0 < xs.length ∧ Below w.heap.size w w'
set_option maxRecDepth 100000 in
set_option maxHeartbeats 4000000 in
theorem rclauses_ok {T : List Nd} {w : World} {A : Option Addr} (c : Nat) (h : Tab w A T) (hT : TabOk T) (k1 k2 : Nat) (hk1 : k1 < T.length) (hk2 : k2 < T.length) (hl : LaidP T k1 k2) :
    Calls Tryz.prog 97 #[.agg #[.slice A T.length c], .int .i64 (k1 : Nat), .int .i64 (k2 : Nat)] w (RClIs w) := by
  have hlen := h.len
  have HB0 : Hid (Below w.heap.size w (w.alloc (.cells #[.slice A T.length c] 33))) := Lib.hid ((Below.refl _ w).alloc (Nat.le_refl _) _)
  have HT0 := Lib.hid (Blk.new w 33 #[.slice A T.length c])
  have x0 := HT0.out.cell 0
  simp only [List.getElem?_toArray, List.getElem?_cons_zero] at x0
  obtain ⟨q, hq⟩ : ∃ q : Nat, T.idxOf (eqNd k1 k2) = q := ⟨_, rfl⟩
  have hql : q < T.length := by rw [← hq]; exact List.idxOf_lt_length_iff.2 hl.eq
  have i1 : In64 (k1 : Int) := by unfold In64; omega
  have i2 : In64 (k2 : Int) := by unfold In64; omega
  have KE : Hid (∀ W, Calls Tryz.prog 140 #[.int .i64 (k1 : Nat), .int .i64 (k2 : Nat)] W (fun e w' => e = .returned (.agg #[.int .i8 6, .int .i8 2, .int .i64 (k1 : Nat), .int .i64 (k2 : Nat), .int .i64 0, .int .i64 0, .int .i64 0, .int .i64 0]) ∧ Below W.heap.size W w')) := Lib.hid (fun W => requality_ok W k1 k2)
  have KF : Hid (∀ W, Below w.heap.size w W → Calls Tryz.prog 37 #[.agg #[.slice A T.length c], .agg #[.int .i8 6, .int .i8 2, .int .i64 (k1 : Nat), .int .i64 (k2 : Nat), .int .i64 0, .int .i64 0, .int .i64 0, .int .i64 0]] W (fun e w' => e = .returned (.tuple #[.int .i64 (q : Int), .bool true]) ∧ Below W.heap.size W w')) := Lib.hid (fun W hW => (rfind_ok c (eqNd k1 k2) (eq_wf i1 i2) (h.below hW)).mono fun e w' ⟨ix, r, h1, h2, h3, _, h5⟩ => by
    rw [h2.2 hl.eq, h3 hl.eq, hq] at h1
    exact ⟨h1, h5⟩)
  have KD1 := Lib.hid (fun W (hW : Below w.heap.size w W) => rdiff26_ok c (h.below hW) hT k1 k2 hk1 hk2 hl.may (hl.dif.imp id fun h => h.2.1))
  have KD2 := Lib.hid (fun W (hW : Below w.heap.size w W) => rdiff26_ok c (h.below hW) hT k2 k1 hk2 hk1 (may_neg hl.may) (hl.dif.imp Eq.symm fun h => h.2.2))
  have hw : IntKind.i64.wrap (2 * (q : Int)) = 2 * (q : Int) := by unfold IntKind.wrap; simp [IntKind.bits, IntKind.signed]; omega
  have hn : negG (2 * (q : Int)) = 2 * (q : Int) + 1 := by rw [negG_pos (by omega) (by omega), if_pos (by omega)]
  have HNg := Lib.hid hn
  have HBx : Hid ((rdF T k1 k2).2 = (rdF T k2 k1).2) := Lib.hid (by
    unfold rdF
    by_cases hb : (baseT T k1).1 = (baseT T k2).1
    · rw [if_pos hb, if_pos hb.symm]
    · rw [if_neg hb, if_neg (fun e => hb e.symm)])
  have HX1 := Lib.hid (below_drewN HB0.out 1)
  clear h hT hk1 hk2 hl hq hn i1 i2
  obtain ⟨⟨p, s⟩, hp⟩ : ∃ p, rdF T k1 k2 = p := ⟨_, rfl⟩
  obtain ⟨⟨p2, s2⟩, hp2⟩ : ∃ p, rdF T k2 k1 = p := ⟨_, rfl⟩
  unfold RdIs26 at KD1 KD2
  rw [hp, hp2] at HBx
  rw [hp] at KD1
  rw [hp2] at KD2
  have hs := HBx.out
  dsimp only at hs KD1 KD2
  subst hs
  clear hp hp2 HBx
  go_enter Tryz.func97, Tryz.ntmps97
  go_upto_region 1 with (fail)
  go_region_held3 (fun w' => w'.cell? ⟨w.heap.size, 0, none⟩ = some (.slice A T.length c)) (go_keep) (first
    | (go_at_call 140; refine (KE.out _).mono ?_; rintro e w1 ⟨rfl, hb⟩; have HB1 := Lib.hid (HX1.out.trans (hb.mono HX1.out.size)); have HT1 := Lib.hid ((HT0.out.drewN 1).below hb HT0.out.lt); have x1 := HT1.out.cell 0; simp only [List.getElem?_toArray, List.getElem?_cons_zero] at x1; clear hb)
    | (go_at_call 37; refine (KF.out _ HB1.out).mono ?_; rintro e w2 ⟨rfl, hb⟩; have HB2 := Lib.hid (HB1.out.trans (hb.mono HB1.out.size)); have HT2 := Lib.hid (HT1.out.below hb HT1.out.lt); have x2 := HT2.out.cell 0; simp only [List.getElem?_toArray, List.getElem?_cons_zero] at x2; clear hb))
  go_wp2_with fail
  refine (rneg13_ok _ _).mono ?_
  rintro e w3 ⟨rfl, rfl⟩
  rw [HNg.out]
  go_wp2_with fail
  refine (KD1.out _ HB2.out).mono ?_
  rintro e w3 ⟨rfl, hb⟩
  have HB3 := Lib.hid (HB2.out.trans (hb.mono HB2.out.size))
  have HT3 := Lib.hid (HT2.out.below hb HT2.out.lt)
  have x3 := HT3.out.cell 0
  simp only [List.getElem?_toArray, List.getElem?_cons_zero] at x3
  clear hb x2 x1 x0
  go_wp2_with fail
  refine (KD2.out _ HB3.out).mono ?_
  rintro e w4 ⟨rfl, hb⟩
  have HB4 := Lib.hid (HB3.out.trans (hb.mono HB3.out.size))
  clear hb x3
  cases s with
  | false =>
    have hb6 : Below w.heap.size w ((w4.alloc (.cells #[.int .i64 (2 * (q : Int) + 1)] 3)).alloc (.cells #[.slice (some ⟨w4.heap.size, 0, none⟩) 1 1] 27)) := (HB4.out.alloc HB4.out.size _).alloc (by have := HB4.out.size; simp; omega) _
    have HB6 := Lib.hid hb6
    have HK6 : Hid (Blk ((w4.alloc (.cells #[.int .i64 (2 * (q : Int) + 1)] 3)).alloc (.cells #[.slice (some ⟨w4.heap.size, 0, none⟩) 1 1] 27)) (w4.heap.size + 1) 27 [Value.slice (some ⟨w4.heap.size, 0, none⟩) 1 1].toArray) := Lib.hid (Blk.new_at (by simp) _ _)
    clear hb6
    go_wp2
    refine bodyPost_ret (v := .tuple #[.slice (some ⟨w4.heap.size + 1, 0, none⟩) 1 1, .bool true]) (by simp [results, Tryz.results97, go_sem]) rfl ?_
    exact ⟨_, [Value.slice (some ⟨w4.heap.size, 0, none⟩) 1 1], rfl, ⟨_, rfl, HK6.out, by simp [Value.oneCell']⟩, by simp, by simp, HB6.out⟩
  | true =>
    have hA1 : Below w4.heap.size w4 (w4.alloc (.cells #[.int .i64 (2 * (q : Int) + 1), .int .i64 p] 3)) := (Below.refl _ w4).alloc (Nat.le_refl _) _
    have HA1 := Lib.hid (HB4.out.trans (hA1.mono HB4.out.size))
    have KM1 := Lib.hid (make15_ok 2 (row2 w4 (2 * (q : Int) + 1) p) (by simp))
    clear hA1
    go_wp2_with fail
    refine KM1.out.mono ?_
    rintro e w5 ⟨B1, d1, rfl, _, _, hb⟩
    have HB5 := Lib.hid (HA1.out.trans (hb.mono HA1.out.size))
    have hA2 : Below w5.heap.size w5 (w5.alloc (.cells #[.int .i64 (2 * (q : Int) + 1), .int .i64 p2] 3)) := (Below.refl _ w5).alloc (Nat.le_refl _) _
    have HA2 := Lib.hid (HB5.out.trans (hA2.mono HB5.out.size))
    have KM2 := Lib.hid (make15_ok 2 (row2 w5 (2 * (q : Int) + 1) p2) (by simp))
    clear hA2 hb
    go_wp2_with fail
    refine KM2.out.mono ?_
    rintro e w6 ⟨B2, d2, rfl, _, _, hb⟩
    have HB6 := Lib.hid (HA2.out.trans (hb.mono HA2.out.size))
    clear hb
    go_wp2_with fail
    refine (rneg13_ok _ _).mono ?_
    rintro e w7 ⟨rfl, rfl⟩
    go_wp2_with fail
    refine (rneg13_ok _ _).mono ?_
    rintro e w7 ⟨rfl, rfl⟩
    have hA3 : Below w6.heap.size w6 (w6.alloc (.cells #[.int .i64 (2 * (q : Int)), .int .i64 (negG p), .int .i64 (negG p2)] 3)) := (Below.refl _ w6).alloc (Nat.le_refl _) _
    have HA3 := Lib.hid (HB6.out.trans (hA3.mono HB6.out.size))
    have KM3 := Lib.hid (make15_ok 3 (row3 w6 (2 * (q : Int)) (negG p) (negG p2)) (by simp))
    clear hA3
    go_wp2_with fail
    refine KM3.out.mono ?_
    rintro e w8 ⟨B3, d3, rfl, _, _, hb⟩
    have HB8 := Lib.hid (HA3.out.trans (hb.mono HA3.out.size))
    clear hb
    obtain ⟨n1, hn1⟩ : ∃ n, (makeM [2 * (q : Int) + 1, p]).length = n := ⟨_, rfl⟩
    obtain ⟨n2, hn2⟩ : ∃ n, (makeM [2 * (q : Int) + 1, p2]).length = n := ⟨_, rfl⟩
    obtain ⟨n3, hn3⟩ : ∃ n, (makeM [2 * (q : Int), negG p, negG p2]).length = n := ⟨_, rfl⟩
    rw [hn1, hn2, hn3]
    have HB9 := Lib.hid (HB8.out.alloc (o := .cells [Value.slice B1 n1 d1, Value.slice B2 n2 d2, Value.slice B3 n3 d3].toArray 27) HB8.out.size)
    have HK9 := Lib.hid (Blk.new w8 27 [Value.slice B1 n1 d1, Value.slice B2 n2 d2, Value.slice B3 n3 d3].toArray)
    clear hn1 hn2 hn3 KM1 KM2 KM3 KD1 KD2 KE KF
    go_wp2
    refine bodyPost_ret (v := .tuple #[.slice (some ⟨w8.heap.size, 0, none⟩) 3 3, .bool true]) (by simp [results, Tryz.results97, go_sem]) rfl ?_
    exact ⟨_, [Value.slice B1 n1 d1, Value.slice B2 n2 d2, Value.slice B3 n3 d3], rfl, ⟨_, rfl, HK9.out, by simp [Value.oneCell']⟩, by simp, by simp, HB9.out⟩
end Go.Proofs.YtlipnnibagidiaaGreat

/- gantryref26.all: a table that is laid has the clauses of each two. -/
namespace Go.Proofs.YtlipnnibagidiaaGreat
open Go.RowKit Go.Lib

theorem ints_info : (Tryz.prog.info? 27).map (fun i => (i.zero, i.size, i.bytes)) = some (some (.slice none 0 0), 1, 24) := by kernel_rfl
/-- While the clauses are gathered. -/
structure AG (W0 : World) (n : Nat) (sv : Value) (W : World) : Prop where
  own : ∃ xs, W.ownsRow W0.heap.size 27 1 sv n xs
  bel : Below W0.heap.size W0 W
theorem AG.below {W0 W W2 : World} {n : Nat} {sv : Value} (h : AG W0 n sv W) (hb : Below W.heap.size W W2) : AG W0 n sv W2 := by
  obtain ⟨xs, ho⟩ := h.own
  exact ⟨⟨xs, own_kept ho (Kept.of_below (S := fun _ => False) hb) (fun _ _ hf => hf)⟩, h.bel.trans (hb.mono h.bel.size)⟩
set_option maxRecDepth 100000 in
set_option maxHeartbeats 4000000 in
theorem rall_ok {T : List Nd} {w : World} {A : Option Addr} (c : Nat) (h : Tab w A T) (hT : TabOk T) (hn : (nodesT T).length ≤ 12) (hl : ∀ p ∈ pairsL (nodesT T), LaidP T p.1 p.2) :
    Calls Tryz.prog 62 #[.agg #[.slice A T.length c]] w (fun e w' => ∃ A' n' c', e = .returned (.tuple #[.slice A' n' c', .bool true]) ∧ Below w.heap.size w w') := by
  obtain ⟨j0, ji0, jz0, jz1, jz2⟩ := info_parts ints_info
  have hlen := h.len
  have HB0 : Hid (Below w.heap.size w (w.alloc (.cells #[.slice A T.length c] 33))) := Lib.hid ((Below.refl _ w).alloc (Nat.le_refl _) _)
  have HT0 := Lib.hid (Blk.new w 33 #[.slice A T.length c])
  have x0 := HT0.out.cell 0
  simp only [List.getElem?_toArray, List.getElem?_cons_zero] at x0
  have KN := Lib.hid (rnodes_ok c (h.below HB0.out) hT)
  have H := Lib.hid h
  have HTo := Lib.hid hT
  have HL := Lib.hid hl
  have HSo : Hid ((nodesT T).Pairwise (· < ·)) := Lib.hid (nodes_sorted T)
  have HMe : Hid (∀ x ∈ nodesT T, ∃ k : Nat, x = k ∧ k < T.length) := Lib.hid (fun x hx => by
    have hs := (mem_nodes hx).1
    have h1 := hs.lo
    have h2 := hs.hi
    exact ⟨x.toNat, by omega, by omega⟩)
  clear h hT hl
  go_enter Tryz.func62, Tryz.ntmps62
  go_wp2_with fail
  refine KN.out.mono ?_
  rintro e w1 ⟨v, rfl, hv, hb⟩
  have HB1 := Lib.hid (HB0.out.trans (hb.mono HB0.out.size))
  have HT1 := Lib.hid (HT0.out.below hb HT0.out.lt)
  generalize nodesT T = ls at *
  obtain ⟨LA, lc, hvs⟩ := own_slice hv
  subst hvs
  have HR1 := Lib.hid (hv.row (by omega)).1
  have HAG0 : Hid (AG w1 0 (.slice none 0 0) w1) := Lib.hid ⟨⟨[], World.ownsRow_nil _ _ _ _⟩, Below.refl _ _⟩
  clear hv hb x0 KN
  go_wp2
  go_loopg [6, 5] ls.length (fun g v vo W => ∃ (i n : Nat) (sv : Value), i + g = ls.length ∧ v = .int .i64 i ∧ sv = vo ∧ n ≤ 36 * i ∧ AG w1 n sv W)
  case atStart => exact ⟨0, 0, _, by omega, rfl, rfl, by omega, HAG0.out⟩
  case round =>
    obtain ⟨i, n, sv, hig, rfl, rfl, hni, hx⟩ := hrel
    have HX := Lib.hid hx
    clear hx
    cases gk with
    | zero =>
      obtain rfl : i = ls.length := by omega
      have d1 : decide ((ls.length : Int) < ls.length) = false := by simp
      obtain ⟨xs, ho⟩ := HX.out.own
      obtain ⟨oA, oc, hsv⟩ := own_slice ho
      subst hsv
      have HBz := Lib.hid (HB1.out.trans (HX.out.bel.mono HB1.out.size))
      clear ho
      go_wp2
      refine bodyPost_ret (v := .tuple #[.slice oA n oc, .bool true]) (by simp [results, Tryz.results62, go_sem]) rfl ?_
      exact ⟨_, _, _, rfl, HBz.out⟩
    | succ gk =>
      have hlt : i < ls.length := by omega
      have d1 : decide ((i : Int) < ls.length) = true := by simp; omega
      obtain ⟨gk0, rfl⟩ : ∃ go : Nat, go = gk := ⟨_, rfl⟩
      go_wp2
      go_loopg [7, 5] (ls.length - (i + 1)) (fun g v vo W => ∃ (k n : Nat) (sv : Value), k + g = ls.length ∧ i + 1 ≤ k ∧ v = .int .i64 k ∧ sv = vo ∧ n ≤ 36 * i + 3 * k ∧ AG w1 n sv W)
      case atStart => exact ⟨i + 1, n, _, by omega, Nat.le_refl _, by go_num, rfl, by omega, HX.out⟩
      case round =>
        obtain ⟨k, n2, sv2, hkg, hik, rfl, rfl, hnk, hx⟩ := hrel
        have HX2 := Lib.hid hx
        clear hx
        cases gk with
        | zero =>
          obtain rfl : k = ls.length := by omega
          have d2 : decide ((ls.length : Int) < ls.length) = false := by simp
          go_wp2
          go_roundg gk0
          case measure => omega
          case rel => exact ⟨i + 1, n2, _, by omega, by go_num, rfl, by omega, HX2.out⟩
        | succ g2 =>
          have hkl : k < ls.length := by omega
          have d2 : decide ((k : Int) < ls.length) = true := by simp; omega
          have hp := HL.out (ls[i], ls[k]) ((mem_pairs HSo.out).2 ⟨List.getElem_mem hlt, List.getElem_mem hkl, List.pairwise_iff_getElem.1 HSo.out i k hlt hkl (by omega)⟩)
          obtain ⟨x, hxe, hxl⟩ := HMe.out ls[i] (List.getElem_mem hlt)
          obtain ⟨y, hye, hyl⟩ := HMe.out ls[k] (List.getElem_mem hkl)
          obtain ⟨rb, roff, hRA, hrb, hrc⟩ := HR1.out.at_.resolve_left (by omega)
          have c1 := hrc i hlt
          have c2 := hrc k hkl
          rw [hxe] at c1
          rw [hye] at c2
          dsimp only at hp
          rw [hxe, hye] at hp
          have HLc : Hid (∀ W, Below w1.heap.size w1 W → W.cell? ⟨rb, roff + i, none⟩ = some (.int .i64 (x : Int)) ∧ W.cell? ⟨rb, roff + k, none⟩ = some (.int .i64 (y : Int)) ∧ W.cell? ⟨w.heap.size, 0, none⟩ = some (.slice A T.length c)) := Lib.hid (fun W hW => by
            refine ⟨?_, ?_, (HT1.out.below hW HT1.out.lt).cell 0⟩
            · rw [hW.cell (p := ⟨rb, roff + i, none⟩) hrb]; exact c1
            · rw [hW.cell (p := ⟨rb, roff + k, none⟩) hrb]; exact c2)
          have HRA := Lib.hid hRA
          subst hRA
          have KC := Lib.hid (rclauses_ok c (H.out.below (HB1.out.trans ((HX2.out.bel.trans ((below_drewN (Below.refl wr.heap.size wr) 1).mono HX2.out.bel.size)).mono HB1.out.size))) HTo.out x y hxl hyl hp)
          obtain ⟨p0, p1, p2⟩ := HLc.out wr HX2.out.bel
          have t1 : (0 : Int) ≤ (i : Int) := by omega
          have t2 : (i : Int) < (ls.length : Int) := by omega
          have t3 : (0 : Int) ≤ (k : Int) := by omega
          have t4 : (k : Int) < (ls.length : Int) := by omega
          clear hp hxe hye hrc hrb c1 c2
          go_upto_region 9 with (fail)
          go_region_held3 (fun w' => w'.cell? ⟨w.heap.size, 0, none⟩ = some (.slice A T.length c) ∧ w'.cell? ⟨rb, roff + i, none⟩ = some (.int .i64 (x : Int)) ∧ w'.cell? ⟨rb, roff + k, none⟩ = some (.int .i64 (y : Int))) (go_keep) ((go_at_call 97; refine KC.out.mono ?_; rintro e w7 ⟨v, xs, rfl, hg, hx3, hx0, hb⟩; have HG := Lib.hid hg; have HX7 := Lib.hid ((HX2.out.below (below_drewN (Below.refl wr.heap.size wr) 1)).below hb); obtain ⟨q0, q1, q2⟩ := HLc.out w7 HX7.out.bel; clear hg hb p0 p1 p2))
          obtain ⟨vb, hvq, hblk, hone⟩ := HG.out
          subst hvq
          obtain ⟨xo, hown⟩ := HX7.out.own
          have HOwn := Lib.hid hown
          have hnews : ∀ j u, xs[j]? = some u → w7.cell? ((⟨vb, 0, none⟩ : Addr).add j) = some u := fun j u hu => by
            have := hblk.cell j
            rw [List.getElem?_toArray, hu] at this
            rw [show (⟨vb, 0, none⟩ : Addr).add j = ⟨vb, j, none⟩ by unfold Addr.add; split <;> simp_all]
            exact this
          have HNews := Lib.hid hnews
          have HOne := Lib.hid hone
          have HSz := Lib.hid HX7.out.bel.size
          obtain ⟨m, hm⟩ : ∃ m, xs.length = m := ⟨_, rfl⟩
          have HMm : Hid (xs.length = m * 1) := Lib.hid (by rw [hm, Nat.mul_one])
          rw [hm] at hx3 hx0 ⊢
          clear hown hnews hone hblk hm q0 q1 q2 KC
          go_wp2_with (at_builtin; refine wpList_append_own _ rfl (.tmp 41) (.tmp 42) 46 rfl w1.heap.size 27 j0 (.slice none 0 0) 1 24 Tryz.underlying46 ji0 jz0 jz1 jz2 rfl (by decide) sv2 n2 xo rfl HOwn.out ⟨vb, 0, none⟩ m m xs rfl HMm.out HNews.out HOne.out (by unfold maxLen; omega) (by omega) HSz.out (fun v3 w8 ho3 hg3 _ => ?_); have HP := Lib.hid (show AG w1 (n2 + m) v3 w8 from ⟨⟨_, ho3⟩, Below.grown HX7.out.bel hg3 HSz.out (fun j hj => (HOwn.out.lt j hj).1)⟩); clear ho3 hg3)
          go_roundg g2
          case measure => omega
          case rel => exact ⟨k + 1, n2 + m, _, by omega, by omega, by go_num, rfl, by omega, HP.out⟩
end Go.Proofs.YtlipnnibagidiaaGreat

/- gantryref26.shared, Laid: of a table that is laid. -/
namespace Go.Proofs.YtlipnnibagidiaaGreat
open Go.RowKit Go.Lib

set_option maxRecDepth 100000 in
set_option maxHeartbeats 4000000 in
theorem rshared_ok {T : List Nd} {w : World} {A : Option Addr} (c : Nat) (h : Tab w A T) (hT : TabOk T) (he : eqsB T = true) :
    Calls Tryz.prog 61 #[.agg #[.slice A T.length c]] w (fun e w' => e = .returned (.bool true) ∧ Below w.heap.size w w') := by
  obtain ⟨j0, ji0, jz0, jz1, jz2⟩ := info_parts bool_info
  have hlen := h.len
  obtain ⟨w0, hw0⟩ : ∃ w0, (w.alloc (.cells #[.slice A T.length c] 33)).alloc (.cells (boolCells T.length fun _ => false) 4) = w0 := ⟨_, rfl⟩
  have HB0 : Hid (Below w.heap.size w w0) := Lib.hid (by rw [← hw0]; exact ((Below.refl _ w).alloc (Nat.le_refl _) _).alloc (by simp) _)
  have HT0 : Hid (Blk w0 w.heap.size 33 #[.slice A T.length c]) := Lib.hid (by rw [← hw0]; exact (Blk.new w _ _).alloc _)
  have HI0 : Hid (Blk w0 (w.heap.size + 1) 4 (boolCells T.length fun _ => false)) := Lib.hid (by rw [← hw0]; exact Blk.new_at (by simp) _ _)
  have hms := run_make_rowN (P := Tryz.prog) 65 4 j0 (.bool false) Tryz.underlying65 ji0 jz0 .i64 .i64 T.length T.length (Nat.le_refl _) (by rw [jz2]; omega) (by omega) (w.alloc (.cells #[.slice A T.length c] 33))
  rw [jz1, Nat.mul_one, show (Value.bool false).cells = #[Value.bool false] from rfl, boolCells_made, hw0, World.size_alloc] at hms
  have KN := Lib.hid (rnodes_ok c (h.below HB0.out) hT)
  have H := Lib.hid h
  have HTo := Lib.hid hT
  have HMe : Hid (∀ x ∈ nodesT T, ∃ k : Nat, x = k ∧ k < T.length) := Lib.hid (fun x hx => by
    have hs := (mem_nodes hx).1
    have h1 := hs.lo
    have h2 := hs.hi
    exact ⟨x.toNat, by omega, by omega⟩)
  have HE : Hid (∀ n ∈ T, n.op = 6 → (ndAt T n.a0).sort = 1 → n.a0 ∈ nodesT T ∧ n.a1 ∈ nodesT T) := Lib.hid (fun n hn h1 h2 => by
    have := List.all_eq_true.1 he n hn
    simp only [decide_eq_true_eq] at this
    exact this ⟨h1, h2⟩)
  have x0 := HT0.out.cell 0
  simp only [List.getElem?_toArray, List.getElem?_cons_zero] at x0
  have hnl : (nodesT T).length ≤ 100000 := by
    unfold nodesT
    rw [List.length_map]
    exact Nat.le_trans (List.length_filter_le _ _) (by rw [List.length_range]; exact hlen)
  clear h hT he
  go_enter Tryz.func61, Tryz.ntmps61
  go_wp2_with fail
  refine KN.out.mono ?_
  rintro e w1 ⟨v, rfl, hv, hb⟩
  have HB1 := Lib.hid (HB0.out.trans (hb.mono HB0.out.size))
  have HT1 := Lib.hid (HT0.out.below hb HT0.out.lt)
  have HI1 := Lib.hid (HI0.out.below hb HI0.out.lt)
  generalize nodesT T = ls at *
  obtain ⟨LA, lc, hvs⟩ := own_slice hv
  subst hvs
  have HR1 := Lib.hid (hv.row hnl).1
  have HLo : Hid (∀ b, LA = some b → 0 < ls.length → w.heap.size + 2 ≤ b.block) := Lib.hid (fun b e h0 => by
    have := ((hv.row hnl).2.1 b e h0).1
    have h2 : w0.heap.size = w.heap.size + 2 := by rw [← hw0]; simp
    omega)
  clear hv hb x0 KN hw0 hms
  go_wp2
  go_loopg [5] ls.length (fun g v W => ∃ (i : Nat) (F : Nat → Bool), i + g = ls.length ∧ v = .int .i64 i ∧ (∀ j (hj : j < ls.length), j < i → F (ls[j].toNat) = true) ∧ Blk W (w.heap.size + 1) 4 (boolCells T.length F) ∧ Blk W w.heap.size 33 #[.slice A T.length c] ∧ Below w.heap.size w W ∧ Kept (fun b => b = w.heap.size + 1) w1 W)
  case atStart => exact ⟨0, _, by omega, rfl, fun j hj h => absurd h (Nat.not_lt_zero _), HI1.out, HT1.out, HB1.out, Kept.refl _ _⟩
  case round =>
    obtain ⟨i, F, hig, rfl, hF, hbi, hbt, hb, hk⟩ := hrel
    have HF := Lib.hid hF
    have HI2 := Lib.hid hbi
    have HT2 := Lib.hid hbt
    have HB2 := Lib.hid hb
    have HK2 := Lib.hid hk
    have p0 := hbt.cell 0
    simp only [List.getElem?_toArray, List.getElem?_cons_zero] at p0
    clear hF hbi hbt hb hk
    cases gk with
    | succ gk =>
      have hlt : i < ls.length := by omega
      have d1 : decide ((i : Int) < ls.length) = true := by simp; omega
      obtain ⟨k, hke, hkl⟩ := HMe.out ls[i] (List.getElem_mem hlt)
      obtain ⟨rb, roff, hRA, hrb, hrc⟩ := HR1.out.at_.resolve_left (by omega)
      have c1 := hrc i hlt
      rw [hke] at c1
      have hrl := HLo.out _ hRA (by omega)
      have c2 : wr.cell? ⟨rb, roff + i, none⟩ = some (.int .i64 (k : Int)) := by
        have hh : wr.heap[rb]? = w1.heap[rb]? := HK2.out.block rb hrb (by show ¬ rb = w.heap.size + 1; have h3 : w.heap.size + 2 ≤ rb := hrl; omega)
        rw [show wr.cell? ⟨rb, roff + i, none⟩ = w1.cell? ⟨rb, roff + i, none⟩ by unfold World.cell?; rw [hh]]
        exact c1
      have HRA := Lib.hid hRA
      subst hRA
      have t1 : (0 : Int) ≤ (i : Int) := by omega
      have t2 : (i : Int) < (ls.length : Int) := by omega
      have u1 : (0 : Int) ≤ (k : Int) := by omega
      have u2 : (k : Int) < (T.length : Int) := by omega
      have s1 := HI2.out.cell k
      rw [boolCells_get hkl] at s1
      have s2 := HI2.out.frozen k
      have hi3 := HI2.out.set_ k (.bool true)
      rw [boolCells_set] at hi3
      have HI3 := Lib.hid hi3
      have hk3 := Kept.set1 wr (w.heap.size + 1) k (.bool true)
      have HT3 := Lib.hid (HT2.out.kept hk3 (by omega))
      have HB3 := Lib.hid (HB2.out.setCell (p := ⟨w.heap.size + 1, k, none⟩) (by simp) (.bool true))
      have HK3 := Lib.hid (HK2.out.setCell (p := ⟨w.heap.size + 1, k, none⟩) (.inl rfl) (.bool true))
      have HF3 : Hid (∀ j (hj : j < ls.length), j < i + 1 → updB F k true (ls[j].toNat) = true) := Lib.hid (fun j hj h => by
        unfold updB
        by_cases e : ls[j].toNat = k
        · rw [if_pos e]
        · rw [if_neg e]
          refine HF.out j hj ?_
          by_cases hji : j = i
          · subst hji
            rw [hke] at e
            exact absurd (Int.toNat_natCast k) e
          · omega)
      clear c1 hke hrc hrb hrl hi3 hk3
      go_wp2
      go_roundg gk
      case measure => omega
      case rel => exact ⟨i + 1, _, by omega, by go_num, HF3.out, HI3.out, HT3.out, HB3.out, HK3.out⟩
    | zero =>
      obtain rfl : i = ls.length := by omega
      have d1 : decide ((ls.length : Int) < ls.length) = false := by simp
      have HAll : Hid (∀ x ∈ ls, F x.toNat = true) := Lib.hid (fun x hx => by
        obtain ⟨j, hj, rfl⟩ := List.getElem_of_mem hx
        exact HF.out j hj hj)
      go_wp2
      go_loopg [6] T.length (fun g v W => ∃ i : Nat, i + g = T.length ∧ v = .int .i64 i ∧ Blk W (w.heap.size + 1) 4 (boolCells T.length F) ∧ Blk W w.heap.size 33 #[.slice A T.length c] ∧ Below w.heap.size w W)
      case atStart => exact ⟨0, by omega, rfl, HI2.out, HT2.out, HB2.out⟩
      case round =>
        obtain ⟨i, hig, rfl, hbi, hbt, hb⟩ := hrel
        have HI4 := Lib.hid hbi
        have HT4 := Lib.hid hbt
        have HB4 := Lib.hid hb
        have p4 := hbt.cell 0
        simp only [List.getElem?_toArray, List.getElem?_cons_zero] at p4
        clear hbi hbt hb
        cases gk with
        | zero =>
          obtain rfl : i = T.length := by omega
          have d2 : decide ((T.length : Int) < T.length) = false := by simp
          go_wp2
          go_ret
          exact ⟨rfl, HB4.out⟩
        | succ g2 =>
          have hlt : i < T.length := by omega
          have d2 : decide ((i : Int) < T.length) = true := by simp; omega
          have t1 : (0 : Int) ≤ (i : Int) := by omega
          have t2 : (i : Int) < (T.length : Int) := by omega
          obtain ⟨b, off, hA, hbb, hcell⟩ := (H.out.below HB4.out).at_.resolve_left (by omega)
          obtain ⟨y0, y1, y2, y3, y4, y5, y6, y7⟩ := (hcell i hlt).all
          have HST := Lib.hid (HTo.out.st i T[i] (List.getElem?_eq_getElem hlt))
          have HMem : Hid (T[i] ∈ T) := Lib.hid (List.getElem_mem hlt)
          have HAt : Hid (∀ W, Below w.heap.size w W → ∀ k : Nat, k < T.length → W.cell? ⟨b, off + k * 8 + 5, none⟩ = some (.int .i64 (ndAt T k).sort)) := Lib.hid (fun W hW k hk => by
            obtain ⟨b2, off2, hA2, _, hc2⟩ := (H.out.below hW).at_.resolve_left (by omega)
            rw [hA] at hA2
            injection hA2 with hA2
            injection hA2 with e1 e2
            subst e1 e2
            rw [ndAt_nat hk]
            exact (hc2 k hk).all.2.2.2.2.2.1)
          have HA2 := Lib.hid hA
          subst hA
          clear hcell
          generalize T[i] = n at *
          by_cases h6 : n.op = 6
          rotate_left
          · have e6 : (n.op == 6) = false := beq_eq_false_iff_ne.2 h6
            clear h6
            have hbN : Below wr.heap.size wr (wr.alloc (.cells #[.int .i8 n.op, .int .i8 n.len, .int .i64 n.a0, .int .i64 n.a1, .int .i64 n.a2, .int .i64 n.sort, .int .i64 n.fn, .int .i64 n.num] 51)) := (Below.refl _ _).alloc (Nat.le_refl _) _
            have HBN := Lib.hid (HB4.out.trans (hbN.mono HB4.out.size))
            have HIN := Lib.hid (HI4.out.below hbN HI4.out.lt)
            have HTN := Lib.hid (HT4.out.below hbN HT4.out.lt)
            clear hbN
            go_wp2
            go_roundg g2
            case measure => omega
            case rel => exact ⟨i + 1, by omega, by go_num, HIN.out, HTN.out, HBN.out⟩
          · obtain ⟨⟨l0, l1⟩, ⟨l2, l3⟩⟩ := HST.out.two (.inl h6)
            have HCond := Lib.hid (HE.out n HMem.out h6)
            obtain ⟨no, nl, na0, na1, na2, ns, nf, nm⟩ := n
            dsimp only at *
            obtain ⟨k0, rfl⟩ : ∃ k : Nat, na0 = k := ⟨na0.toNat, by omega⟩
            obtain ⟨k1, rfl⟩ : ∃ k : Nat, na1 = k := ⟨na1.toNat, by omega⟩
            subst h6
            have hk0l : k0 < T.length := by omega
            have hk1l : k1 < T.length := by omega
            have v0 : (0 : Int) ≤ (k0 : Int) := by omega
            have v1 : (k0 : Int) < (T.length : Int) := by omega
            have v2 : (0 : Int) ≤ (k1 : Int) := by omega
            have v3 : (k1 : Int) < (T.length : Int) := by omega
            have hbN : Below wr.heap.size wr (wr.alloc (.cells #[.int .i8 6, .int .i8 nl, .int .i64 (k0 : Nat), .int .i64 (k1 : Nat), .int .i64 na2, .int .i64 ns, .int .i64 nf, .int .i64 nm] 51)) := (Below.refl _ _).alloc (Nat.le_refl _) _
            have HBN := Lib.hid (HB4.out.trans (hbN.mono HB4.out.size))
            have HIN := Lib.hid (HI4.out.below hbN HI4.out.lt)
            have HTN := Lib.hid (HT4.out.below hbN HT4.out.lt)
            clear hbN
            have q5 := HAt.out _ HBN.out k0 hk0l
            have p5 := HTN.out.cell 0
            simp only [List.getElem?_toArray, List.getElem?_cons_zero] at p5
            clear l0 l1 l2 l3
            by_cases hs : (ndAt T k0).sort = 1
            rotate_left
            · have e5 : ((ndAt T k0).sort == 1) = false := beq_eq_false_iff_ne.2 hs
              clear hs HCond
              generalize (ndAt T k0).sort = sv at *
              go_wp2
              go_roundg g2
              case measure => omega
              case rel => exact ⟨i + 1, by omega, by go_num, HIN.out, HTN.out, HBN.out⟩
            · have g0 := HAll.out _ (HCond.out hs).1
              have g1 := HAll.out _ (HCond.out hs).2
              rw [hs] at q5
              rw [Int.toNat_natCast] at g0 g1
              have s0 := HIN.out.cell k0
              rw [boolCells_get hk0l, g0] at s0
              have s1 := HIN.out.cell k1
              rw [boolCells_get hk1l, g1] at s1
              clear hs HCond g0 g1
              go_wp2
              go_roundg g2
              case measure => omega
              case rel => exact ⟨i + 1, by omega, by go_num, HIN.out, HTN.out, HBN.out⟩
/-- gantryref26.Laid, of a table that is laid. -/
theorem rlaid_ok {T : List Nd} {w : World} {A : Option Addr} (c : Nat) (h : Tab w A T) (hd : laidB T = true) (hn : (nodesT T).length ≤ 12) (hl : ∀ p ∈ pairsL (nodesT T), LaidP T p.1 p.2) :
    Calls Tryz.prog 27 #[.agg #[.slice A T.length c]] w (fun e w' => e = .returned (.bool true) ∧ Below w.heap.size w w') := by
  have hcb : coreB T = true ∧ eqsB T = true := by
    unfold laidB at hd
    simp only [Bool.and_eq_true] at hd
    exact hd.1
  have HC := Lib.hid hcb.1
  have hT := (coreB_iff.1 hcb.1).ok
  have HB0 : Hid (Below w.heap.size w (w.alloc (.cells #[.slice A T.length c] 33))) := Lib.hid ((Below.refl _ w).alloc (Nat.le_refl _) _)
  have HT0 := Lib.hid (Blk.new w 33 #[.slice A T.length c])
  have x0 := HT0.out.cell 0
  simp only [List.getElem?_toArray, List.getElem?_cons_zero] at x0
  have KC := Lib.hid (rcore_ok c (h.below HB0.out))
  have KS := Lib.hid (fun W (hW : Below w.heap.size w W) => rshared_ok c (h.below hW) hT hcb.2)
  have KA := Lib.hid (fun W (hW : Below w.heap.size w W) => rall_ok c (h.below hW) hT hn hl)
  clear hcb hT h hd hn hl
  go_enter Tryz.func27, Tryz.ntmps27
  go_wp2_with fail
  refine KC.out.mono ?_
  rintro e w1 ⟨rfl, hb⟩
  rw [HC.out]
  have HB1 := Lib.hid (HB0.out.trans (hb.mono HB0.out.size))
  have HT1 := Lib.hid (HT0.out.below hb HT0.out.lt)
  have x1 := HT1.out.cell 0
  simp only [List.getElem?_toArray, List.getElem?_cons_zero] at x1
  clear hb x0
  go_wp2_with fail
  refine (KS.out _ HB1.out).mono ?_
  rintro e w2 ⟨rfl, hb⟩
  have HB2 := Lib.hid (HB1.out.trans (hb.mono HB1.out.size))
  have HT2 := Lib.hid (HT1.out.below hb HT1.out.lt)
  have x2 := HT2.out.cell 0
  simp only [List.getElem?_toArray, List.getElem?_cons_zero] at x2
  clear hb x1
  go_wp2_with fail
  refine (KA.out _ HB2.out).mono ?_
  rintro e w3 ⟨A', n', c', rfl, hb⟩
  have HB3 := Lib.hid (HB2.out.trans (hb.mono HB2.out.size))
  clear hb x2
  go_wp2
  go_ret
  exact ⟨rfl, HB3.out⟩
end Go.Proofs.YtlipnnibagidiaaGreat

/- gantrylaw26.same: a row is itself. -/
namespace Go.Proofs.YtlipnnibagidiaaGreat
open Go.RowKit Go.Lib

set_option maxHeartbeats 2000000 in
theorem same28_ok {w : World} {A B : Option Addr} {zs : List Int} (c d : Nat) (h : Row w A zs) (k : Row w B zs) :
    Calls Tryz.prog 28 #[.slice A zs.length c, .slice B zs.length d] w (fun e w' => e = .returned (.bool true) ∧ Below w.heap.size w w') := by
  have hlen := h.len
  have H := Lib.hid h
  have K := Lib.hid k
  have hne : ((zs.length : Int) != (zs.length : Int)) = false := by simp
  clear h k
  go_enter Tryz.func28, Tryz.ntmps28
  go_wp2
  go_loopg [5] zs.length (fun g v wx => ∃ i : Nat, i + g = zs.length ∧ v = .int .i64 i ∧ Below w.heap.size w wx)
  case atStart => exact ⟨0, by omega, rfl, Below.refl _ _⟩
  case round =>
    obtain ⟨i, hig, rfl, hb⟩ := hrel
    have HB := Lib.hid hb
    clear hb
    cases gk with
    | zero =>
      obtain rfl : i = zs.length := by omega
      have d1 : decide ((zs.length : Int) < zs.length) = false := by simp
      go_wp2
      go_ret
      exact ⟨rfl, HB.out⟩
    | succ g =>
      have hlt : i < zs.length := by omega
      have d1 : decide ((i : Int) < zs.length) = true := by simp; omega
      obtain ⟨b, off, hA, hbb, hcell⟩ := (H.out.below HB.out).at_.resolve_left (by omega)
      obtain ⟨b', off', hB, hbb', hcell'⟩ := (K.out.below HB.out).at_.resolve_left (by omega)
      have y0 := hcell i hlt
      have y1 := hcell' i hlt
      have HA := Lib.hid hA
      have HBq := Lib.hid hB
      subst hA hB
      have t1 : (0 : Int) ≤ (i : Int) := by omega
      have t2 : (i : Int) < (zs.length : Int) := by omega
      clear hcell hcell'
      generalize zs[i] = x at *
      have e1 : (x != x) = false := by simp
      go_wp2
      go_quiet (fail)
      go_wp2
      go_roundg g
      case measure => omega
      case rel => exact ⟨i + 1, by omega, by go_num, below_drewN HB.out _⟩
end Go.Proofs.YtlipnnibagidiaaGreat

/- What share.all holds while it goes over the pairs. -/
import Derived.Test.YtlipnnibagidiaaGreatShelf
import Derived.Test.YtlipnnibagidiaaGreatRdA
import Derived.Sort.OwnSortedInts
namespace Go.Proofs.YtlipnnibagidiaaGreat
open Go.RowKit Go.Lib Go.Sort
theorem own_take {w : World} {base : Nat} {e : TypeId} {size n m g cap : Nat} {xs : List Value} (h : w.ownsRow base e size (.slice (some ⟨g, 0, none⟩) n cap) n xs) (hm : m ≤ n) :
    w.ownsRow base e size (.slice (some ⟨g, 0, none⟩) m cap) m (xs.take (m * size)) := by
  have hms : m * size ≤ n * size := Nat.mul_le_mul_right _ hm
  refine ⟨by rw [List.length_take, h.1]; omega, ?_⟩
  rcases h.2 with ⟨h, _⟩ | ⟨g', cap', cur, hv, hb, hh, hc, hM, hs, ht⟩
  · cases h
  · injection hv with hv1 hv2 hv3
    injection hv1 with hv1
    injection hv1 with hv1
    subst hv1
    subst hv3
    exact .inr ⟨g, cap, cur, rfl, hb, hh, by omega, hM, hs, by rw [← ht, List.take_take]; congr 1; omega⟩
def OwnI (w : World) (base g cap : Nat) (zs : List Int) : Prop := w.ownsRow base 3 1 (.slice (some ⟨g, 0, none⟩) zs.length cap) zs.length (zs.map (Value.int .i64))
theorem OwnI.block {w : World} {base g cap : Nat} {zs : List Int} (h : OwnI w base g cap zs) :
    ∃ cur, base ≤ g ∧ w.heap[g]? = some (.cells cur 3 (0, 0)) ∧ zs.length ≤ cap ∧ cap ≤ maxLen ∧ cur.size = cap * 1 ∧ cur.toList.take zs.length = zs.map (Value.int .i64) := by
  rcases h.2 with ⟨hv, _⟩ | ⟨g', cap', cur, hv, hb, hh, hc, hM, hs, ht⟩
  · cases hv
  · injection hv with e1 _ e3
    injection e1 with e1
    injection e1 with e1
    subst e1 e3
    rw [Nat.mul_one] at ht
    exact ⟨cur, hb, hh, hc, hM, hs, ht⟩
theorem OwnI.cut {w : World} {base g cap : Nat} {n : Nat} {ts : List Int} (m : List Int) (h : w.ownsRow base 3 1 (.slice (some ⟨g, 0, none⟩) n cap) n ((m ++ ts).map (Value.int .i64))) (hm : m.length ≤ n) : OwnI w base g cap m := by
  have h1 := own_take h hm
  rw [Nat.mul_one, List.map_append, List.take_append, List.length_map, Nat.sub_self, List.take_zero, List.append_nil, List.take_of_length_le (by rw [List.length_map]; exact Nat.le_refl _)] at h1
  exact h1
theorem sort_own {w : World} {base g cap : Nat} {zs : List Int} (h : OwnI w base g cap zs) (hsz : zs.length < 4611686018427387904) :
    Calls Tryz.prog 157 #[.slice (some ⟨g, 0, none⟩) zs.length cap] w fun e w' => e = .returned (.tuple #[]) ∧ OwnI w' base g cap (zs.mergeSort fun x y => decide (x ≤ y)) ∧ w.grownBy w' (some g) := by
  obtain ⟨cur, hb, hh, hc, hM, hs, ht⟩ := h.block
  refine (Tryz.slices_Sort_int g 0 cap zs w (holds_of_blockI hh ht) (Array.getElem?_eq_some_iff.1 hh).1 hsz).mono ?_
  rintro e w' ⟨rfl, k, os, rfl⟩
  refine ⟨rfl, ?_, grownBy_sortedI _⟩
  have h1 := ownsRow_sortedI (n := k) (os := os) (ss := zs) (ts := zs.mergeSort fun x y => decide (x ≤ y)) (List.length_mergeSort _) hb hh hc hM hs
  unfold OwnI
  rw [List.length_mergeSort]
  exact h1
theorem compact_len : ∀ zs : List Int, (Lib.compact zs).length ≤ zs.length := fun zs => by
  have := Lib.compact_length_le zs
  exact this
theorem compact_own {w : World} {base g cap : Nat} {zs : List Int} (h : OwnI w base g cap zs) (hsz : zs.length ≤ 9223372036854775807) :
    Calls Tryz.prog 158 #[.slice (some ⟨g, 0, none⟩) zs.length cap] w fun e w' => e = .returned (.slice (some ⟨g, 0, none⟩) (Lib.compact zs).length cap) ∧ OwnI w' base g cap (Lib.compact zs) ∧ w.grownBy w' (some g) := by
  obtain ⟨cur, hb, hh, hc, hM, hs, ht⟩ := h.block
  refine (Tryz.slices_Compact_int g 0 cap zs w (holds_of_blockI hh ht) hsz hc).mono ?_
  rintro e w' ⟨rfl, k, rfl⟩
  have hl := compact_len zs
  have h1 := ownsRow_sortedI (n := k) (os := #[]) (ss := zs) (ts := Lib.compact zs ++ List.replicate (zs.length - (Lib.compact zs).length) 0) (by rw [List.length_append, List.length_replicate]; omega) hb hh hc hM hs
  have h2 := grownBy_sortedI (w := w) (g := g) (n := k) (os := #[]) (Lib.compact zs ++ List.replicate (zs.length - (Lib.compact zs).length) 0).toArray
  rw [grow_empty] at h1 h2
  exact ⟨rfl, OwnI.cut _ h1 hl, h2⟩
theorem neg_gives (x : Int) (W : World) : FnGives Tryz.prog 185 #[] #[.int .i64 x] (.bool (decide (x < 0))) W := by
  unfold FnGives
  go_enter Tryz.func185, Tryz.ntmps185
  go_wp2
  go_ret
  exact ⟨rfl, 0, rfl⟩
theorem delete_own {w : World} {base g cap : Nat} {zs : List Int} (h : OwnI w base g cap zs) (hsz : zs.length ≤ 9223372036854775807) :
    Calls Tryz.prog 184 #[.slice (some ⟨g, 0, none⟩) zs.length cap, .func (.func 185) #[] #[]] w fun e w' => e = .returned (.slice (some ⟨g, 0, none⟩) (zs.filter fun x => !decide (x < 0)).length cap) ∧ OwnI w' base g cap (zs.filter fun x => !decide (x < 0)) ∧ w.grownBy w' (some g) := by
  obtain ⟨cur, hb, hh, hc, hM, hs, ht⟩ := h.block
  have eg : ∀ args w, (callFunc 185 args).run Tryz.prog w = .ok (.enter 185 args) w := enters_of Tryz.func185 (by kernel_rfl) rfl
  have h0 := Tryz.slices_DeleteFunc_int (fun x => decide (x < 0)) 185 #[] eg g 0 cap zs.toArray w (fun W x _ => neg_gives x W) (fun _ _ _ x _ => neg_gives x _) (holds_of_blockI hh ht) (by simpa using hsz) (by simpa using hc)
  simp only [List.size_toArray] at h0
  refine h0.mono ?_
  rintro e w' ⟨rfl, k, rfl⟩
  have hl : (zs.filter fun x => !decide (x < 0)).length ≤ zs.length := List.length_filter_le _ _
  have h1 := ownsRow_sortedI (n := k) (os := #[]) (ss := zs) (ts := (zs.filter fun x => !decide (x < 0)) ++ List.replicate (zs.length - (zs.filter fun x => !decide (x < 0)).length) 0) (by rw [List.length_append, List.length_replicate]; omega) hb hh hc hM hs
  have h2 := grownBy_sortedI (w := w) (g := g) (n := k) (os := #[]) ((zs.filter fun x => !decide (x < 0)) ++ List.replicate (zs.length - (zs.filter fun x => !decide (x < 0)).length) 0).toArray
  rw [grow_empty] at h1 h2
  exact ⟨rfl, OwnI.cut _ h1 hl, h2⟩
end Go.Proofs.YtlipnnibagidiaaGreat
namespace Go.Proofs.YtlipnnibagidiaaGreat
open Go.RowKit Go.Lib
theorem grow_ok {w : World} (n : Nat) (hn : n ≤ 1000000) :
    Calls Tryz.prog 201 #[.slice none 0 0, .int .i64 n] w fun e w' => ∃ v, e = .returned v ∧ w'.ownsRow w.heap.size 3 1 v 0 [] ∧ Below w.heap.size w w' := by
  obtain ⟨i0, hi, hz0, hz1, hz2⟩ := info_parts int_info
  by_cases h0 : n = 0
  · subst h0
    exact (Tryz.slices_Grow_room none 0 0 0 w (Nat.le_refl _) (by omega) (by omega) (Nat.le_refl _)).mono fun e w' ⟨h1, h2⟩ => ⟨_, h1, by rw [h2]; exact ⟨World.ownsRow_nil _ _ _ _, Below.refl _ _⟩⟩
  · refine (Tryz.slices_Grow_grow i0 (.int .i64 0) hi hz0 (by omega) n w (by omega) (by rw [hz2]; omega) (by omega)).mono ?_
    rintro e w' ⟨rfl, rfl⟩
    have hge := grownCap_ge w (0 + n) 0 3
    have hle := grownCap_le_maxLen w (0 + n) 0 3 (by unfold maxLen; omega)
    rw [Nat.zero_add] at hge hle ⊢
    refine ⟨_, rfl, ⟨rfl, .inr ⟨w.heap.size, _, _, rfl, Nat.le_refl _, heap_alloc_new w.drew _, Nat.zero_le _, hle, ?_, by simp⟩⟩, ((Below.refl _ w).drew).alloc (Nat.le_refl _) _⟩
    simp [Builtin.zeroCells, Value.cells]
    omega
theorem list_append_none {P : Program} (w : World) {ops : Array Oper} {rest : List Oper} {o : Oper} {a : Act} {Q : Exit → Act → World → Prop} (hgd : o.guard = none) (s x : Operand) (t : TypeId)
    (ho : o.op = .call { callee := .builtin .append, args := #[s, x], argTypes := #[t, t] }) (base : Nat) (e : TypeId) (i : TypeInfo) (size : Nat) (ht : P.underlying t = some (.slice e)) (hi : P.info? e = some i)
    (v : Value) (n : Nat) (xs : List Value) (hs : a.eval s = v) (hown : w.ownsRow base e size v n xs) (hx : a.eval x = .slice none 0 0)
    (h : wpList P ops Q rest (a.put o.dst v) w) : wpList P ops Q (o :: rest) a w := by
  refine wpList_plain hgd fun K hK' => ?_
  have hrun := run_append_owned_none (P := P) (w := w) base t o.type e i size ht hi v n xs hown
  unfold Oper.wp
  simp [execOp, ho, resolve, invoke, builtin, hs, hx, hrun, Result.andThen]
  exact hK' _ _ h
def RowsAt (w : World) (gr : Nat) (rows : List (Option Addr × Nat × List Int)) : Prop :=
  gr < w.heap.size ∧ ∀ k (h : k < rows.length), w.cell? ⟨gr, k, none⟩ = some (.slice rows[k].1 rows[k].2.2.length rows[k].2.1) ∧ Row w rows[k].1 rows[k].2.2 ∧ (rows[k].1 = none → rows[k].2.1 = 0)
theorem RowsAt.below {w w' : World} {gr : Nat} {rows : List (Option Addr × Nat × List Int)} (h : RowsAt w gr rows) (hb : Below w.heap.size w w') : RowsAt w' gr rows :=
  ⟨Nat.lt_of_lt_of_le h.1 hb.size, fun k hk => ⟨(hb.cell (p := ⟨gr, k, none⟩) h.1).trans (h.2 k hk).1, (h.2 k hk).2.1.below hb, (h.2 k hk).2.2⟩⟩
def total (rows : List (Option Addr × Nat × List Int)) : Nat := (rows.map fun r => r.2.2.length).sum
def allOf (rows : List (Option Addr × Nat × List Int)) : List Int := rows.flatMap fun r => r.2.2
theorem total_take (rows : List (Option Addr × Nat × List Int)) (k : Nat) (hk : k < rows.length) : total (rows.take (k + 1)) = total (rows.take k) + rows[k].2.2.length := by
  unfold total
  rw [List.take_succ_eq_append_getElem hk, List.map_append, List.sum_append]
  simp
theorem total_le (rows : List (Option Addr × Nat × List Int)) (k : Nat) : total (rows.take k) ≤ total rows := by
  have h : rows = rows.take k ++ rows.drop k := (List.take_append_drop k rows).symm
  conv => rhs; rw [h]
  unfold total
  rw [List.map_append, List.sum_append]
  omega
theorem allOf_take (rows : List (Option Addr × Nat × List Int)) (k : Nat) (hk : k < rows.length) : allOf (rows.take (k + 1)) = allOf (rows.take k) ++ rows[k].2.2 := by
  unfold allOf
  rw [List.take_succ_eq_append_getElem hk, List.flatMap_append]
  simp
theorem allOf_len (rows : List (Option Addr × Nat × List Int)) : (allOf rows).length = total rows := by
  unfold allOf total
  rw [List.length_flatMap]
set_option maxHeartbeats 1000000 in
set_option maxRecDepth 100000 in
theorem concat_ok {w : World} {gr : Nat} {rows : List (Option Addr × Nat × List Int)} (cap : Nat) (h : RowsAt w gr rows) (ht : total rows ≤ 1000000) (hr : rows.length ≤ 1000) :
    Calls Tryz.prog 183 #[.slice (some ⟨gr, 0, none⟩) rows.length cap] w fun e w' => ∃ v, e = .returned v ∧ w'.ownsRow w.heap.size 3 1 v (total rows) ((allOf rows).map (Value.int .i64)) ∧ Below w.heap.size w w' := by
  have H := zzh h
  clear h
  go_enter Tryz.func183, Tryz.ntmps183
  go_wp2
  go_loopg [11, 3] rows.length (fun g v vs wx => w = wx ∧ ∃ i : Nat, i + g = rows.length ∧ v = .int .i64 i ∧ vs = .int .i64 (total (rows.take i) : Nat))
  case atStart => exact ⟨rfl, 0, by omega, rfl, rfl⟩
  case round =>
    obtain ⟨rfl, i, hig, rfl, rfl⟩ := hrel
    have hti := total_le rows i
    cases gk with
    | succ k =>
      have hin : i < rows.length := by omega
      have d1 : decide ((i : Int) < rows.length) = true := by simp; omega
      have c0 := (H.out.2 i hin).1
      have hts := total_take rows i hin
      have hti1 := total_le rows (i + 1)
      have Hts := zzh hts
      have hb : total (rows.take i) + rows[i].2.2.length ≤ 1000000 := by omega
      clear hts hti1
      generalize total (rows.take i) = ti at *
      generalize rows[i].2.2.length = li at *
      have d2 : decide ((ti : Int) + li < 0) = false := decide_eq_false (by omega)
      go_wp2
      go_roundg k
      case measure => omega
      case rel => exact ⟨rfl, i + 1, by omega, by go_num, by rw [Hts.out]; go_num⟩
    | zero =>
      have d1 : decide ((i : Int) < rows.length) = false := by simp; omega
      obtain rfl : i = rows.length := by omega
      rw [List.take_length]
      clear hti
      go_wp2_with (go_at_call 201; refine (grow_ok _ ht).mono ?_; rintro e w1 ⟨v1, rfl, ho1, hb1⟩; have Ho1 := zzh ho1; have Hb1 := zzh hb1; clear ho1 hb1)
      obtain ⟨i0, hi, hz0, hz1, hz2⟩ := info_parts int_info
      go_loopw [27, 6] (fun vi v wr => ∃ i : Nat, i ≤ rows.length ∧ vi = .int .i64 i ∧ wr.ownsRow w.heap.size 3 1 v (total (rows.take i)) ((allOf (rows.take i)).map (Value.int .i64)) ∧ Below w.heap.size w wr) (fun vi _ _ => (rows.length - intOf vi).toNat)
      case atStart => exact ⟨0, Nat.zero_le _, rfl, Ho1.out, Hb1.out⟩
      case round =>
        obtain ⟨i, hi2, rfl, hown, hbw⟩ := hrel
        by_cases hin : i < rows.length
        · have d2 : decide ((i : Int) < rows.length) = true := by simp; omega
          obtain ⟨c0, hrow, hnone⟩ := (H.out.below hbw).2 i hin
          have Htt := zzh (total_take rows i hin)
          have Hat := zzh (allOf_take rows i hin)
          have hle2 := total_le rows (i + 1)
          rw [Htt.out] at hle2
          have hsz := hbw.size
          have Hbw := zzh hbw
          clear hbw
          generalize rows[i].1 = A at *
          generalize rows[i].2.1 = cp at *
          generalize rows[i].2.2 = zs at *
          generalize total (rows.take i) = ti at *
          generalize allOf (rows.take i) = al at *
          cases A with
          | none =>
            obtain rfl := hnone rfl
            have hz0 : zs.length = 0 := by
              rcases hrow.at_ with h1 | ⟨b, off, h1, _⟩
              · exact h1
              · cases h1
            have hz : zs = [] := List.eq_nil_of_length_eq_zero hz0
            subst hz
            have Hown := zzh hown
            clear hown hrow hz0 hnone
            go_wp2_with (at_builtin; refine list_append_none _ rfl _ _ 27 rfl w.heap.size 3 i0 1 Tryz.underlying27 hi u6 ti _ rfl Hown.out rfl ?_)
            go_roundw
            case rel => exact ⟨i + 1, by omega, by go_num, by rw [Htt.out, Hat.out, List.append_nil]; exact Hown.out, Hbw.out⟩
            case measure => simp only [intOf]; omega
          | some ad =>
            have hnews : ∀ j u, (zs.map (Value.int .i64))[j]? = some u → wr.cell? (ad.add j) = some u := by
              intro j u hj
              rw [List.getElem?_map] at hj
              have hjl : j < zs.length := by
                rcases Nat.lt_or_ge j zs.length with h1 | h1
                · exact h1
                · rw [List.getElem?_eq_none h1] at hj; cases hj
              rw [List.getElem?_eq_getElem hjl] at hj
              injection hj with hj
              rcases hrow.at_ with h1 | ⟨b, off, h1, _, hc⟩
              · omega
              · injection h1 with h1
                subst h1
                have h2 : (⟨b, off, none⟩ : Addr).add j = ⟨b, off + j, none⟩ := by unfold Addr.add; split <;> simp_all
                rw [h2, hc j hjl, ← hj]
            have h1c : ∀ u ∈ zs.map (Value.int .i64), u.oneCell' = true := by
              intro u hu
              obtain ⟨x, _, rfl⟩ := List.mem_map.1 hu
              rfl
            have Hown := zzh hown
            have Hnews := zzh hnews
            have H1c := zzh h1c
            clear hown hnews h1c hrow hnone
            go_wp2_with (at_builtin; refine wpList_append_own _ rfl _ _ 27 rfl w.heap.size 3 i0 (.int .i64 0) 1 8 Tryz.underlying27 hi hz0 hz1 hz2 rfl (by decide) u6 ti _ rfl Hown.out ad zs.length cp (zs.map (Value.int .i64)) rfl (by simp) Hnews.out H1c.out ?_ ?_ hsz (fun v2 w2 ho2 hg2 _ => ?_))
            · unfold maxLen; omega
            · omega
            · refine ⟨⟨i + 1, by omega, by go_num, by rw [Htt.out, Hat.out, List.map_append]; exact ho2, Below.grown Hbw.out hg2 hsz (fun j hj => (Hown.out.lt j hj).1)⟩, by simp only [intOf]; omega⟩
        · have d2 : decide ((i : Int) < rows.length) = false := by simp; omega
          obtain rfl : i = rows.length := by omega
          rw [List.take_length] at hown
          have Hown := zzh hown
          have Hbw := zzh hbw
          clear hown hbw
          go_wp2
          go_ret
          exact ⟨_, rfl, Hown.out, Hbw.out⟩
theorem indexf_nil {w : World} (f : Value) :
    Calls Tryz.prog 202 #[.slice none 0 0, f] w fun e w' => e = .returned (.int .i64 (-1)) ∧ w = w' := by
  go_enter Tryz.func202, Tryz.ntmps202
  go_wp2
  go_loopg [8] 0 (fun g v wx => w = wx ∧ g = 0 ∧ v = .int .i64 0)
  case atStart => exact ⟨rfl, rfl, rfl⟩
  case round =>
    obtain ⟨rfl, rfl, rfl⟩ := hrel
    go_wp2
    go_ret
    exact ⟨rfl, rfl⟩
theorem delete_nil {w : World} (g : Nat) (lb : Array Value) :
    Calls Tryz.prog 184 #[.slice none 0 0, .func (.func g) #[] lb] w fun e w' => e = .returned (.slice none 0 0) ∧ w = w' := by
  go_enter Tryz.func184, Tryz.ntmps184
  go_wp2_with (go_at_call 202; refine (indexf_nil _).mono ?_; rintro e w1 ⟨rfl, rfl⟩)
  go_ret
  exact ⟨rfl, rfl⟩
theorem own_cases {w : World} {base n : Nat} {v : Value} {zs : List Int} (h : w.ownsRow base 3 1 v n (zs.map (Value.int .i64))) (hn : n = zs.length) : (v = .slice none 0 0 ∧ zs = []) ∨ ∃ g cap, v = .slice (some ⟨g, 0, none⟩) zs.length cap ∧ OwnI w base g cap zs ∧ base ≤ g ∧ zs.length ≤ cap := by
  subst hn
  rcases h.2 with ⟨hv, h0⟩ | ⟨g, cap, cur, hv, hb, hh, hc, hM, hs, ht⟩
  · exact .inl ⟨hv, List.eq_nil_of_length_eq_zero h0⟩
  · subst hv
    exact .inr ⟨g, cap, rfl, h, hb, hc⟩
theorem below_grow {B : Nat} {w w1 w2 : World} {g : Nat} (h : Below B w w1) (hg : w1.grownBy w2 (some g)) (hB : B ≤ w1.heap.size) (hgb : B ≤ g) : Below B w w2 :=
  Below.grown h hg hB (fun j hj => by injection hj with hj; omega)
set_option maxHeartbeats 1000000 in
theorem join_ok {w : World} {gr : Nat} {rows : List (Option Addr × Nat × List Int)} (cap : Nat) (h : RowsAt w gr rows) (ht : total rows ≤ 1000000) (hr : rows.length ≤ 1000) :
    Calls Tryz.prog 173 #[.slice (some ⟨gr, 0, none⟩) rows.length cap] w fun e w' => ∃ v, e = .returned v ∧ w'.ownsRow w.heap.size 3 1 v (makeM (allOf rows)).length ((makeM (allOf rows)).map (Value.int .i64)) ∧ Below w.heap.size w w' := by
  have H := zzh h
  have hal := allOf_len rows
  generalize hM : makeM (allOf rows) = M
  have HM := zzh hM
  clear h hM
  go_enter Tryz.func173, Tryz.ntmps173
  go_upto_region 2 with (go_at_call 183; refine (concat_ok cap H.out ht hr).mono ?_; rintro e w1 ⟨v1, rfl, ho1, hb1⟩; have Ho1 := zzh ho1; have Hb1 := zzh hb1; clear ho1 hb1)
  have hsz1 := Hb1.out.size
  rcases own_cases Ho1.out hal.symm with ⟨rfl, h0⟩ | ⟨g, c, rfl, hown, hgb, hc⟩
  · obtain rfl : M = [] := by
      rw [← HM.out, h0]
      unfold makeM
      simp only [List.filter_nil, List.mergeSort_nil]
      rfl
    clear h0 hal
    go_wp2_with (first | (go_at_call 184; refine (delete_nil _ _).mono ?_; rintro e w2 ⟨rfl, rfl⟩) | (go_at_call 157; refine (Tryz.slices_Sort_int_none none 0 _).mono ?_; rintro e w2 ⟨rfl, rfl⟩) | (go_at_call 158; refine (Tryz.slices_Compact_int_empty none 0 _).mono ?_; rintro e w2 ⟨rfl, rfl⟩))
    go_ret
    exact ⟨_, rfl, World.ownsRow_nil _ _ _ _, Hb1.out⟩
  · have hl1 : (allOf rows).length ≤ 1000000 := by omega
    have hM2 := HM.out
    unfold makeM at hM2
    clear HM
    generalize allOf rows = zs at *
    have Hown := zzh hown
    clear hown Ho1 hal
    go_upto_region 3 with (go_at_call 184; refine (delete_own Hown.out (by omega)).mono ?_; rintro e w2 ⟨rfl, ho2, hg2⟩; have Ho2 := zzh ho2; have Hb2 := zzh (below_grow Hb1.out hg2 hsz1 hgb); clear ho2 hg2)
    have hl2 : (zs.filter fun x => !decide (x < 0)).length ≤ zs.length := List.length_filter_le _ _
    generalize (zs.filter fun x => !decide (x < 0)) = fs at *
    have hsz2 := Hb2.out.size
    go_upto_region 4 with (go_at_call 157; refine (sort_own Ho2.out (by omega)).mono ?_; rintro e w3 ⟨rfl, ho3, hg3⟩; have Ho3 := zzh ho3; have Hb3 := zzh (below_grow Hb2.out hg3 hsz2 hgb); clear ho3 hg3)
    have hl3 : (fs.mergeSort fun x y => decide (x ≤ y)).length = fs.length := List.length_mergeSort _
    have Hl3 := zzh hl3
    have hsz3 := Hb3.out.size
    clear hl3
    have hl33 := Hl3.out
    rw [← hl33]
    clear hl33
    generalize (fs.mergeSort fun x y => decide (x ≤ y)) = ms at *
    have hl4 : ms.length ≤ 1000000 := by rw [Hl3.out]; omega
    have HM3 := zzh hM2
    clear hM2
    go_wp2_with (go_at_call 158; refine (compact_own Ho3.out (by omega)).mono ?_; rintro e w4 ⟨rfl, ho4, hg4⟩; have Ho4 := zzh ho4; have Hb4 := zzh (below_grow Hb3.out hg4 hsz3 hgb); clear ho4 hg4)
    go_ret
    rw [← HM3.out]
    exact ⟨_, rfl, Ho4.out, Hb4.out⟩
theorem make_ok {w : World} {A : Option Addr} {zs : List Int} (cap : Nat) (h : Row w A zs) (hn : A = none → cap = 0) :
    Calls Tryz.prog 153 #[.slice A zs.length cap] w fun e w' => ∃ v, e = .returned v ∧ w'.ownsRow w.heap.size 3 1 v (makeM zs).length ((makeM zs).map (Value.int .i64)) ∧ Below w.heap.size w w' := by
  have hb : Below w.heap.size w (w.alloc (.cells #[.slice A zs.length cap] 27)) := (Below.refl _ w).alloc (Nat.le_refl _) _
  have hlen : zs.length ≤ 1000000 := Nat.le_trans h.len (by decide)
  have hrows : RowsAt (w.alloc (.cells #[.slice A zs.length cap] 27)) w.heap.size [(A, cap, zs)] := by
    refine ⟨by simp, fun k hk => ?_⟩
    have hk0 : k = 0 := by simpa using hk
    subst hk0
    exact ⟨(Blk.new w _ _).cell 0, h.below hb, hn⟩
  have Hb := zzh hb
  have Hrows := zzh hrows
  have hall : allOf [(A, cap, zs)] = zs := by simp [allOf]
  have htot : total [(A, cap, zs)] ≤ 1000000 := by simp [total]; exact hlen
  have Hall := zzh hall
  clear h hb hrows hall hn
  go_enter Tryz.func153, Tryz.ntmps153
  go_wp2_with (go_at_call 173; refine (join_ok (rows := [(A, cap, zs)]) 1 Hrows.out htot (by simp)).mono ?_; rintro e w1 ⟨v, rfl, ho, hb1⟩; rw [Hall.out] at ho; have Ho := zzh (own_base ho (fun g hg => Nat.le_trans Hb.out.size (ho.lt g hg).1)); have Hb1 := zzh (Hb.out.trans (hb1.mono Hb.out.size)); clear ho hb1)
  go_ret
  exact ⟨_, rfl, Ho.out, Hb1.out⟩
def encR (r : Option Addr × Nat × List Int) : Value := .slice r.1 r.2.2.length r.2.1
structure RowN (N : Nat → Prop) (w : World) (A : Option Addr) (zs : List Int) : Prop where
  len : zs.length ≤ 100000
  at_ : zs.length = 0 ∨ ∃ b off, A = some ⟨b, off, none⟩ ∧ N b ∧ b < w.heap.size ∧ ∀ i (h : i < zs.length), w.cell? ⟨b, off + i, none⟩ = some (.int .i64 zs[i])
def RowsN (N : Nat → Prop) (w : World) (rows : List (Option Addr × Nat × List Int)) : Prop := ∀ r ∈ rows, RowN N w r.1 r.2.2 ∧ (r.1 = none → r.2.1 = 0) ∧ r.2.2.length ≤ r.2.1
structure GridV (N : Nat → Prop) (w : World) (v : Value) (rows : List (Option Addr × Nat × List Int)) : Prop where
  len : rows.length ≤ 1000000
  form : ∃ A cap, v = .slice A rows.length cap ∧ (A = none → cap = 0) ∧ rows.length ≤ cap ∧ (rows.length = 0 ∨ ∃ b off, A = some ⟨b, off, none⟩ ∧ N b ∧ b < w.heap.size ∧ ∀ k (h : k < rows.length), w.cell? ⟨b, off + k, none⟩ = some (encR rows[k]))
  rows : RowsN N w rows
section
variable {N N' : Nat → Prop} {w w' : World} {A : Option Addr} {zs : List Int} {v : Value} {rows : List (Option Addr × Nat × List Int)}
theorem RowN.row (h : RowN N w A zs) : Row w A zs := ⟨h.len, h.at_.imp id fun ⟨b, off, h1, _, h2, h3⟩ => ⟨b, off, h1, h2, h3⟩⟩
theorem RowN.kept {S : Nat → Prop} (h : RowN N w A zs) (hk : Kept S w w') (hN : ∀ b, b < w.heap.size → N b → ¬ S b) : RowN N w' A zs := by
  refine ⟨h.len, h.at_.imp id fun ⟨b, off, h1, h2, h3, h4⟩ => ⟨b, off, h1, h2, Nat.lt_of_lt_of_le h3 hk.size, fun i hi => ?_⟩⟩
  have hb : w'.heap[b]? = w.heap[b]? := hk.block b h3 (hN b h3 h2)
  rw [show w'.cell? ⟨b, off + i, none⟩ = w.cell? ⟨b, off + i, none⟩ by unfold World.cell?; rw [hb]]
  exact h4 i hi
theorem RowN.mono (h : RowN N w A zs) (hN : ∀ b, b < w.heap.size → N b → N' b) : RowN N' w A zs :=
  ⟨h.len, h.at_.imp id fun ⟨b, off, h1, h2, h3, h4⟩ => ⟨b, off, h1, hN b h3 h2, h3, h4⟩⟩
theorem RowsN.kept {S : Nat → Prop} (h : RowsN N w rows) (hk : Kept S w w') (hN : ∀ b, b < w.heap.size → N b → ¬ S b) : RowsN N w' rows := fun r hr => ⟨(h r hr).1.kept hk hN, (h r hr).2⟩
theorem RowsN.mono (h : RowsN N w rows) (hN : ∀ b, b < w.heap.size → N b → N' b) : RowsN N' w rows := fun r hr => ⟨(h r hr).1.mono hN, (h r hr).2⟩
theorem RowsN.append {rows' : List (Option Addr × Nat × List Int)} (h : RowsN N w rows) (k : RowsN N w rows') : RowsN N w (rows ++ rows') := fun r hr => (List.mem_append.1 hr).elim (h r) (k r)
theorem GridV.kept {S : Nat → Prop} (h : GridV N w v rows) (hk : Kept S w w') (hN : ∀ b, b < w.heap.size → N b → ¬ S b) : GridV N w' v rows := by
  obtain ⟨A, cap, h1, h2, h2', h3⟩ := h.form
  refine ⟨h.len, ⟨A, cap, h1, h2, h2', h3.imp id fun ⟨b, off, g1, g2, g3, g4⟩ => ⟨b, off, g1, g2, Nat.lt_of_lt_of_le g3 hk.size, fun k hk' => ?_⟩⟩, h.rows.kept hk hN⟩
  have hb : w'.heap[b]? = w.heap[b]? := hk.block b g3 (hN b g3 g2)
  rw [show w'.cell? ⟨b, off + k, none⟩ = w.cell? ⟨b, off + k, none⟩ by unfold World.cell?; rw [hb]]
  exact g4 k hk'
theorem GridV.mono (h : GridV N w v rows) (hN : ∀ b, b < w.heap.size → N b → N' b) : GridV N' w v rows := by
  obtain ⟨A, cap, h1, h2, h2', h3⟩ := h.form
  exact ⟨h.len, ⟨A, cap, h1, h2, h2', h3.imp id fun ⟨b, off, g1, g2, g3, g4⟩ => ⟨b, off, g1, hN b g3 g2, g3, g4⟩⟩, h.rows.mono hN⟩
theorem RowN.of_own {B : Nat} {n c : Nat} (h : w.ownsRow B 3 1 (.slice A n c) zs.length (zs.map (Value.int .i64))) (hl : zs.length ≤ 100000) : RowN (fun b => B ≤ b) w A zs ∧ (A = none → c = 0) ∧ zs.length ≤ c ∧ n = zs.length := by
  rcases h.2 with ⟨e, h0⟩ | ⟨g, cap, cur, e, h1, hg, h3, _⟩
  · injection e with e1 e2 e3
    subst e1 e2 e3
    have h0' : zs.length = 0 := h0
    exact ⟨⟨hl, .inl h0'⟩, fun _ => rfl, by omega, h0'.symm⟩
  · injection e with e1 e2 e3
    subst e1 e2 e3
    refine ⟨⟨hl, .inr ⟨g, 0, rfl, h1, Blk.lt (t := 3) hg, fun k hk => ?_⟩⟩, fun e => (by cases e), h3, rfl⟩
    have := h.cells (g := g) rfl k (.int .i64 zs[k]) (by rw [List.getElem?_map, List.getElem?_eq_getElem hk]; rfl)
    rw [addr_add] at this
    rw [Nat.zero_add]
    exact this
theorem RowN.of_blk {g : Nat} (h : Blk w g 3 (zs.map (Value.int .i64)).toArray) (hN : N g) (hl : zs.length ≤ 100000) : RowN N w (some ⟨g, 0, none⟩) zs :=
  ⟨hl, .inr ⟨g, 0, rfl, hN, h.lt, fun k hk => by rw [Nat.zero_add, h.cell, zzg, List.getElem?_map, List.getElem?_eq_getElem hk]; rfl⟩⟩
end
theorem base_may {T : List Nd} (hT : TabOk T) {x : Int} (h0 : 0 ≤ x) (h1 : x < T.length) : mayI (baseT T x).2 = true := by
  have hm := ndAt_mem h0 h1
  obtain ⟨i, hi, _, hst⟩ := hT.stands hm
  unfold baseT
  split
  · rename_i h11
    exact mayI_iff.2 (hst.numb.1 (.inr (.inl h11)))
  split
  · rename_i h10
    exact mayI_iff.2 (hst.numb.1 (.inl h10))
  · show mayI 0 = true
    decide
def OfOut (T : List Nd) (x y : Int) (bad : Bool) (r : Nat) (A : Option Addr) (c M : Nat) (w : World) (e : Ending) (w' : World) : Prop :=
  ∃ v rows, e = .returned v ∧ GridV (fun b => w.heap.size ≤ b) w' v rows ∧ (∀ l, of2 T x y = some l → rows.map (fun r => r.2.2) = l ∧ ∃ a n c, v = .slice (some a) n c) ∧ rows.length ≤ 3 ∧ (v = .slice none 0 0 ∨ 0 < rows.length) ∧ Reader w' r A T c M (bad || (of2 T x y).isNone) ∧ Kept (fun b => b = r) w w'
theorem litR_in {T : List Nd} {n : Nd} (h : T.length ≤ 100000) : 0 ≤ litR T n ∧ litR T n ≤ 200000 := by
  unfold litR
  split
  · rename_i hm
    have := List.idxOf_lt_length_iff.2 hm
    unfold litT
    omega
  · omega
theorem neg_lit {T : List Nd} {n : Nd} (h : T.length ≤ 100000) : negG (litR T n) = litR T n + 1 := by
  have h1 := litR_in (n := n) h
  rw [negG_pos h1.1 (by omega), if_pos]
  unfold litR
  split
  · unfold litT; omega
  · rfl
theorem make_len (l : List Int) : (makeM l).length ≤ l.length := by
  unfold makeM
  have h1 := compact_len ((l.filter fun x => !decide (x < 0)).mergeSort fun x y => decide (x ≤ y))
  rw [List.length_mergeSort] at h1
  exact Nat.le_trans h1 (List.length_filter_le _ _)
theorem make_new {w : World} {B : Nat} (hB : B ≤ w.heap.size) (zs : List Int) (hl : zs.length ≤ 1000) (n : Nat) (hn : zs.length = n) :
    Calls Tryz.prog 153 #[.slice (some ⟨w.heap.size, 0, none⟩) n n] (w.alloc (.cells (zs.map (Value.int .i64)).toArray 3)) fun e w' => ∃ A' c', e = .returned (.slice A' (makeM zs).length c') ∧ RowN (fun b => B ≤ b) w' A' (makeM zs) ∧ (A' = none → c' = 0) ∧ (makeM zs).length ≤ c' ∧ Below w.heap.size w w' := by
  subst hn
  have hr : RowN (fun _ => True) (w.alloc (.cells (zs.map (Value.int .i64)).toArray 3)) (some ⟨w.heap.size, 0, none⟩) zs := RowN.of_blk (Blk.new w _ _) trivial (by omega)
  refine (make_ok zs.length hr.row (fun e => (by cases e))).mono ?_
  rintro e w' ⟨v, rfl, ho, hb⟩
  have hb' : Below w.heap.size w w' := ((Below.refl _ w).alloc (Nat.le_refl _) _).trans (hb.mono (by simp))
  obtain ⟨A', c', rfl⟩ := own_slice ho
  obtain ⟨h1, h2, h3, _⟩ := RowN.of_own ho (by have := make_len zs; omega)
  exact ⟨A', c', rfl, h1.mono (fun b _ hb => Nat.le_trans hB (Nat.le_trans (by simp) hb)), h2, h3, hb'⟩
set_option maxRecDepth 100000 in
set_option maxHeartbeats 8000000 in
theorem of2_ok {T : List Nd} {w : World} {A : Option Addr} {r c M : Nat} {bad : Bool} (h : Reader w r A T c M bad) (hT : TabOk T) (k1 k2 : Nat) (hk1 : k1 < T.length) (hk2 : k2 < T.length) :
    Calls Tryz.prog 107 #[.pointer (some ⟨r, 0, none⟩), .int .i64 (k1 : Nat), .int .i64 (k2 : Nat)] w (OfOut T k1 k2 bad r A c M w) := by
  have hlen := h.tab.len
  have hi : ∀ k : Nat, k < T.length → In64 (k : Int) := fun k hk => by unfold In64; omega
  have HWe := zzh (eq_wf (hi k1 hk1) (hi k2 hk2))
  have H := zzh h
  have HT := zzh hT
  have HK := zzh (And.intro hk1 hk2)
  have HLen := zzh hlen
  have HMa := zzh (base_may hT (x := (k1 : Nat)) (by omega) (by omega))
  have HMb := zzh (base_may hT (x := (k2 : Nat)) (by omega) (by omega))
  have HWFs := zzh h.tab.wfs
  have HOF : Hid (of2 T k1 k2 = if eqNd k1 k2 ∈ T then
    if mayI (difN T k1 k2) = true then
      if (baseT T k1).1 = (baseT T k2).1 then some [[litT T (eqNd k1 k2) + 1]]
      else if diffNd (baseT T k1).1 (baseT T k2).1 (difN T k1 k2) ∈ T ∧ diffNd (baseT T k2).1 (baseT T k1).1 (difN T k2 k1) ∈ T then
        some [makeM [litT T (eqNd k1 k2) + 1, litT T (diffNd (baseT T k1).1 (baseT T k2).1 (difN T k1 k2))],
          makeM [litT T (eqNd k1 k2) + 1, litT T (diffNd (baseT T k2).1 (baseT T k1).1 (difN T k2 k1))],
          makeM [litT T (eqNd k1 k2), litT T (diffNd (baseT T k1).1 (baseT T k2).1 (difN T k1 k2)) + 1, litT T (diffNd (baseT T k2).1 (baseT T k1).1 (difN T k2 k1)) + 1]]
      else none
    else none
  else none) := zzh rfl
  clear h hT hi hk1 hk2
  go_enter Tryz.func107, Tryz.ntmps107
  go_wp2_with fail
  refine (equality_ok _ _ _).mono ?_
  rintro e w1 ⟨rfl, hb⟩
  have HR1 := zzh (H.out.keep hb)
  have HK1 := zzh (Kept.of_below (S := fun b => b = r) hb)
  clear hb
  go_wp2_with fail
  refine (lit_ok HR1.out (eqNd k1 k2) HWe.out).mono ?_
  rintro e w2 ⟨rfl, hr, hk⟩
  have HR2 := zzh hr
  have HK2 := zzh (HK1.out.trans hk)
  have x0 := hr.blk.cell 0
  simp only [zzg, zzi] at x0
  clear hr hk
  go_wp2_with fail
  refine (sbase_ok c k1 HK.out.1 HR2.out.tab).mono ?_
  rintro e w3 ⟨rfl, hb⟩
  have HR3 := zzh (HR2.out.keep hb)
  have HK3 := zzh (HK2.out.trans (Kept.of_below hb))
  have x1 := HR3.out.blk.cell 0
  simp only [zzg, zzi] at x1
  clear hb x0
  go_wp2_with fail
  refine (sbase_ok c k2 HK.out.2 HR3.out.tab).mono ?_
  rintro e w4 ⟨rfl, hb⟩
  have HR4 := zzh (HR3.out.keep hb)
  have HK4 := zzh (HK3.out.trans (Kept.of_below hb))
  clear hb x1
  go_wp2_with fail
  refine (psub_ok _ _ _).mono ?_
  rintro e w5 ⟨rfl, hb⟩
  have HR5 := zzh (HR4.out.keep hb)
  have HK5 := zzh (HK4.out.trans (Kept.of_below hb))
  have HSZ5 : Hid (w.heap.size ≤ w5.heap.size) := zzh HK5.out.size
  have hd : (baseT T k2).2 - (baseT T k1).2 = difN T k1 k2 := rfl
  have hsub : subN (baseT T k2).2 (baseT T k1).2 = if mayI (difN T k1 k2) = true then (difN T k1 k2, 0) else (0, 10) := by
    unfold subN
    rw [HMa.out, HMb.out, hd]
    rfl
  rw [hsub]
  have y2 := HR5.out.blk.cell 2
  have yf := HR5.out.blk.frozen 2
  simp only [zzg, zzi, zzj] at y2
  clear hb hsub hd
  by_cases hm : mayI (difN T k1 k2) = true
  rotate_left
  · rw [if_neg hm]
    have HN : Hid (of2 T k1 k2 = none) := zzh (by rw [HOF.out]; simp [hm])
    clear hm HOF
    go_wp2
    go_ret
    refine ⟨.slice none 0 0, [], rfl, ⟨by simp, ⟨none, 0, rfl, fun _ => rfl, Nat.le_refl _, .inl rfl⟩, fun r hr => (by cases hr)⟩, fun l hl => (by rw [HN.out] at hl; cases hl), by simp, .inl rfl, ?_, HK5.out.setCell (.inl rfl) _⟩
    rw [HN.out]
    have := HR5.out.bad_ true
    simpa using this
  rw [if_pos hm]
  have HM := zzh hm
  have HLe := zzh (litR_in (n := eqNd k1 k2) HLen.out)
  have HNe := zzh (neg_lit (n := eqNd k1 k2) HLen.out)
  clear y2 yf
  have HOF2 : Hid (of2 T k1 k2 = if eqNd k1 k2 ∈ T then
      if (baseT T k1).1 = (baseT T k2).1 then some [[litT T (eqNd k1 k2) + 1]]
      else if diffNd (baseT T k1).1 (baseT T k2).1 (difN T k1 k2) ∈ T ∧ diffNd (baseT T k2).1 (baseT T k1).1 (difN T k2 k1) ∈ T then
        some [makeM [litT T (eqNd k1 k2) + 1, litT T (diffNd (baseT T k1).1 (baseT T k2).1 (difN T k1 k2))],
          makeM [litT T (eqNd k1 k2) + 1, litT T (diffNd (baseT T k2).1 (baseT T k1).1 (difN T k2 k1))],
          makeM [litT T (eqNd k1 k2), litT T (diffNd (baseT T k1).1 (baseT T k2).1 (difN T k1 k2)) + 1, litT T (diffNd (baseT T k2).1 (baseT T k1).1 (difN T k2 k1)) + 1]]
      else none
    else none) := zzh (by rw [HOF.out, if_pos hm])
  have HRE : Hid (eqNd k1 k2 ∈ T → litR T (eqNd k1 k2) = litT T (eqNd k1 k2)) := zzh (fun he => by unfold litR; rw [if_pos he])
  clear HOF hm
  by_cases hb : (baseT T k1).1 = (baseT T k2).1
  · have hb' : ((baseT T k1).1 == (baseT T k2).1) = true := by simp [hb]
    have HO3 : Hid (of2 T k1 k2 = if eqNd k1 k2 ∈ T then some [[litT T (eqNd k1 k2) + 1]] else none) := zzh (by rw [HOF2.out, if_pos hb])
    clear hb HOF2
    go_wp2_with fail
    refine (neg_ok _ _).mono ?_
    rintro e w6 ⟨rfl, rfl⟩
    rw [HNe.out]
    go_wp2
    go_ret
    have hg1 := Blk.new w5 3 #[.int .i64 (litR T (eqNd k1 k2) + 1)]
    have hg2 := Blk.new (w5.alloc (.cells #[.int .i64 (litR T (eqNd k1 k2) + 1)] 3)) 27 #[.slice (some ⟨w5.heap.size, 0, none⟩) 1 1]
    rw [World.size_alloc] at hg2
    have hb7 : Below w5.heap.size w5 ((w5.alloc (.cells #[.int .i64 (litR T (eqNd k1 k2) + 1)] 3)).alloc (.cells #[.slice (some ⟨w5.heap.size, 0, none⟩) 1 1] 27)) := ((Below.refl _ w5).alloc (Nat.le_refl _) _).alloc (by simp) _
    refine ⟨_, [(some ⟨w5.heap.size, 0, none⟩, 1, [litR T (eqNd k1 k2) + 1])], rfl, ⟨by simp, ⟨some ⟨w5.heap.size + 1, 0, none⟩, 1, rfl, fun e => (by cases e), Nat.le_refl _, .inr ⟨w5.heap.size + 1, 0, rfl, by have := HSZ5.out; omega, hg2.lt, fun k hk => ?_⟩⟩, fun r hr => ?_⟩, fun l hl => ?_, by simp, .inr (by simp), ?_, HK5.out.trans (Kept.of_below hb7)⟩
    · obtain rfl : k = 0 := by simpa using hk
      exact hg2.cell 0
    · rw [List.mem_singleton.1 hr]
      exact ⟨RowN.of_blk (g := w5.heap.size) (zs := [litR T (eqNd k1 k2) + 1]) (hg1.alloc _) HSZ5.out (by simp), fun e => (by cases e), Nat.le_refl _⟩
    · rw [HO3.out] at hl
      split at hl
      · rename_i he
        injection hl with hl
        rw [← hl, ← HRE.out he]
        exact ⟨rfl, _, _, _, rfl⟩
      · cases hl
    · rw [HO3.out]
      have := HR5.out.keep hb7
      by_cases he : eqNd k1 k2 ∈ T
      · simpa [he] using this
      · simpa [he] using this
  have hb' : ((baseT T k1).1 == (baseT T k2).1) = false := by simp [hb]
  have HO3 : Hid (of2 T k1 k2 = if eqNd k1 k2 ∈ T then (if diffNd (baseT T k1).1 (baseT T k2).1 (difN T k1 k2) ∈ T ∧ diffNd (baseT T k2).1 (baseT T k1).1 (difN T k2 k1) ∈ T then
        some [makeM [litT T (eqNd k1 k2) + 1, litT T (diffNd (baseT T k1).1 (baseT T k2).1 (difN T k1 k2))],
          makeM [litT T (eqNd k1 k2) + 1, litT T (diffNd (baseT T k2).1 (baseT T k1).1 (difN T k2 k1))],
          makeM [litT T (eqNd k1 k2), litT T (diffNd (baseT T k1).1 (baseT T k2).1 (difN T k1 k2)) + 1, litT T (diffNd (baseT T k2).1 (baseT T k1).1 (difN T k2 k1)) + 1]]
      else none) else none) := zzh (by rw [HOF2.out, if_neg hb])
  have hd21 : difN T k2 k1 = -difN T k1 k2 := by unfold difN; omega
  have hng : wrap64 (-difN T k1 k2) = difN T k2 k1 := by have := mayI_iff.1 HM.out; rw [hd21]; unfold wrap64; omega
  have HIB : Hid (In64 (baseT T k1).1 ∧ In64 (baseT T k2).1) := zzh (by
    have hx : ∀ k : Nat, k < T.length → In64 (baseT T k).1 := fun k hk => by
      unfold baseT
      split
      · exact (HWFs.out _ (ndAt_mem (by omega) (by omega))).arg 0
      split
      · show In64 1
        unfold In64
        decide
      · have := HLen.out
        unfold In64
        dsimp only
        omega
    exact ⟨hx k1 HK.out.1, hx k2 HK.out.2⟩)
  have HWp : Hid (NdWf (diffNd (baseT T k1).1 (baseT T k2).1 (difN T k1 k2))) := zzh (diffNd_wf HIB.out.1 HIB.out.2 (may_in HM.out))
  have HWq : Hid (NdWf (diffNd (baseT T k2).1 (baseT T k1).1 (difN T k2 k1))) := zzh (diffNd_wf HIB.out.2 HIB.out.1 (may_in (may_neg HM.out)))
  clear hb HOF2 hd21
  obtain ⟨p, hp⟩ : ∃ p, diffNd (baseT T k1).1 (baseT T k2).1 (difN T k1 k2) = p := ⟨_, rfl⟩
  obtain ⟨q, hq⟩ : ∃ q, diffNd (baseT T k2).1 (baseT T k1).1 (difN T k2 k1) = q := ⟨_, rfl⟩
  have KP : Hid (∀ (W : World) (bd : Bool), Reader W r A T c M bd → Calls Tryz.prog 149 #[.pointer (some ⟨r, 0, none⟩), .agg #[.int .i8 12, .int .i8 2, .int .i64 (baseT T k1).1, .int .i64 (baseT T k2).1, .int .i64 0, .int .i64 0, .int .i64 0, .int .i64 (difN T k1 k2)]] W fun e w' => e = .returned (.int .i64 (litR T p)) ∧ Reader w' r A T c M (bd || !decide (p ∈ T)) ∧ Kept (fun b => b = r) W w') := zzh (by rw [← hp]; exact fun W bd hW => lit_ok hW (diffNd (baseT T k1).1 (baseT T k2).1 (difN T k1 k2)) HWp.out)
  have KQ : Hid (∀ (W : World) (bd : Bool), Reader W r A T c M bd → Calls Tryz.prog 149 #[.pointer (some ⟨r, 0, none⟩), .agg #[.int .i8 12, .int .i8 2, .int .i64 (baseT T k2).1, .int .i64 (baseT T k1).1, .int .i64 0, .int .i64 0, .int .i64 0, .int .i64 (difN T k2 k1)]] W fun e w' => e = .returned (.int .i64 (litR T q)) ∧ Reader w' r A T c M (bd || !decide (q ∈ T)) ∧ Kept (fun b => b = r) W w') := zzh (by rw [← hq]; exact fun W bd hW => lit_ok hW (diffNd (baseT T k2).1 (baseT T k1).1 (difN T k2 k1)) HWq.out)
  rw [hp, hq] at HO3
  have HPn := zzh (neg_lit (n := p) HLen.out)
  have HQn := zzh (neg_lit (n := q) HLen.out)
  have HPe : Hid (p ∈ T → litR T p = litT T p) := zzh (fun he => by unfold litR; rw [if_pos he])
  have HQe : Hid (q ∈ T → litR T q = litT T q) := zzh (fun he => by unfold litR; rw [if_pos he])
  clear hp hq
  go_wp2_with fail
  refine (KP.out _ _ HR5.out).mono ?_
  rintro e w6 ⟨rfl, hr, hk⟩
  have HR6 := zzh hr
  have HK6 := zzh (HK5.out.trans hk)
  clear hr hk
  go_wp2_with fail
  refine (KQ.out _ _ HR6.out).mono ?_
  rintro e w7 ⟨rfl, hr, hk⟩
  have HR7 := zzh hr
  have HK7 := zzh (HK6.out.trans hk)
  clear hr hk hng
  generalize litR T (eqNd k1 k2) = le at *
  generalize litR T p = lp at *
  generalize litR T q = lq at *
  go_wp2_with fail
  refine (neg_ok _ _).mono ?_
  rintro e w' ⟨rfl, rfl⟩
  rw [HNe.out]
  go_wp2_with fail
  have HSZ7 : Hid (w.heap.size ≤ w7.heap.size) := zzh HK7.out.size
  refine (make_new HSZ7.out [le + 1, lp] (by simp) 2 rfl).mono ?_
  rintro e w8 ⟨A1, c1, rfl, h1, h2, h3, hb⟩
  have HB8 := zzh hb
  have G1 := zzh (And.intro h1 (And.intro h2 h3))
  have HSZ8 : Hid (w.heap.size ≤ w8.heap.size) := zzh (Nat.le_trans HSZ7.out hb.size)
  clear h1 h2 h3 hb
  go_wp2_with fail
  refine (neg_ok _ _).mono ?_
  rintro e w' ⟨rfl, rfl⟩
  rw [HNe.out]
  go_wp2_with fail
  refine (make_new HSZ8.out [le + 1, lq] (by simp) 2 rfl).mono ?_
  rintro e w9 ⟨A2, c2, rfl, h1, h2, h3, hb⟩
  have HB9 := zzh (HB8.out.trans (hb.mono HB8.out.size))
  have G1b := zzh (And.intro (G1.out.1.kept (Kept.of_below (S := fun _ => False) hb) (fun _ _ _ h => h)) G1.out.2)
  have G2 := zzh (And.intro h1 (And.intro h2 h3))
  have HSZ9 : Hid (w.heap.size ≤ w9.heap.size) := zzh (Nat.le_trans HSZ8.out hb.size)
  clear h1 h2 h3 hb G1
  go_wp2_with fail
  refine (neg_ok _ _).mono ?_
  rintro e w' ⟨rfl, rfl⟩
  rw [HPn.out]
  go_wp2_with fail
  refine (neg_ok _ _).mono ?_
  rintro e w' ⟨rfl, rfl⟩
  rw [HQn.out]
  go_wp2_with fail
  refine (make_new HSZ9.out [le, lp + 1, lq + 1] (by simp) 3 rfl).mono ?_
  rintro e w10 ⟨A3, c3, rfl, h1, h2, h3, hb⟩
  have HB10 := zzh (HB9.out.trans (hb.mono HB9.out.size))
  have G1c := zzh (And.intro (G1b.out.1.kept (Kept.of_below (S := fun _ => False) hb) (fun _ _ _ h => h)) G1b.out.2)
  have G2c := zzh (And.intro (G2.out.1.kept (Kept.of_below (S := fun _ => False) hb) (fun _ _ _ h => h)) G2.out.2)
  have G3 := zzh (And.intro h1 (And.intro h2 h3))
  have HSZ10 : Hid (w.heap.size ≤ w10.heap.size) := zzh (Nat.le_trans HSZ9.out hb.size)
  clear h1 h2 h3 hb G1b G2
  go_wp2
  go_ret
  have hg := Blk.new w10 27 #[.slice A1 (makeM [le + 1, lp]).length c1, .slice A2 (makeM [le + 1, lq]).length c2, .slice A3 (makeM [le, lp + 1, lq + 1]).length c3]
  have hbx : Below w10.heap.size w10 (w10.alloc (.cells #[.slice A1 (makeM [le + 1, lp]).length c1, .slice A2 (makeM [le + 1, lq]).length c2, .slice A3 (makeM [le, lp + 1, lq + 1]).length c3] 27)) := (Below.refl _ w10).alloc (Nat.le_refl _) _
  have hkf := Kept.of_below (S := fun _ => False) hbx
  have hb11 := HB10.out.trans (hbx.mono HB10.out.size)
  refine ⟨_, [(A1, c1, makeM [le + 1, lp]), (A2, c2, makeM [le + 1, lq]), (A3, c3, makeM [le, lp + 1, lq + 1])], rfl, ⟨by simp, ⟨some ⟨w10.heap.size, 0, none⟩, 3, rfl, fun e => (by cases e), Nat.le_refl _, .inr ⟨w10.heap.size, 0, rfl, HSZ10.out, hg.lt, fun k hk => ?_⟩⟩, fun x hx => ?_⟩, fun l hl => ?_, by simp, .inr (by simp), ?_, HK7.out.trans (Kept.of_below hb11)⟩
  · rcases (by simp at hk; omega : k = 0 ∨ k = 1 ∨ k = 2) with rfl | rfl | rfl
    · exact hg.cell 0
    · exact hg.cell 1
    · exact hg.cell 2
  · simp only [List.mem_cons, List.not_mem_nil, or_false] at hx
    rcases hx with rfl | rfl | rfl
    · exact ⟨G1c.out.1.kept hkf (fun _ _ _ h => h), G1c.out.2⟩
    · exact ⟨G2c.out.1.kept hkf (fun _ _ _ h => h), G2c.out.2⟩
    · exact ⟨G3.out.1.kept hkf (fun _ _ _ h => h), G3.out.2⟩
  · rw [HO3.out] at hl
    split at hl
    · rename_i he
      split at hl
      · rename_i hpq
        injection hl with hl
        rw [← hl, ← HRE.out he, ← HPe.out hpq.1, ← HQe.out hpq.2]
        exact ⟨rfl, _, _, _, rfl⟩
      · cases hl
    · cases hl
  · rw [HO3.out]
    have h9 := HR7.out.keep hb11
    by_cases he : eqNd k1 k2 ∈ T
    · by_cases hp : p ∈ T
      · by_cases hq : q ∈ T
        · simpa [he, hp, hq] using h9
        · simpa [he, hp, hq] using h9
      · simpa [he, hp] using h9
    · simpa [he] using h9
end Go.Proofs.YtlipnnibagidiaaGreat
namespace Go.Proofs.YtlipnnibagidiaaGreat
open Go.RowKit
open Go.Maps (Keyed)
theorem slice_info : (Tryz.prog.info? 27).map (fun i => (i.zero, i.size, i.bytes)) = some (some (.slice none 0 0), 1, 24) := by kernel_rfl
theorem append_rows_run {N : Nat → Prop} {w : World} {base : Nat} {v x : Value} {rs rows : List (Option Addr × Nat × List Int)} (ty : TypeId) (hown : w.ownsRow base 27 1 v rs.length (rs.map encR)) (hg : GridV N w x rows) (hl : rs.length + rows.length ≤ 1000000) (hbase : base ≤ w.heap.size) (hx : x = .slice none 0 0 ∨ 0 < rows.length) :
    ∃ v' w', (Builtin.append_ #[46, 46] ty #[v, x]).run Tryz.prog w = .ok v' w' ∧ w'.ownsRow base 27 1 v' (rs ++ rows).length ((rs ++ rows).map encR) ∧ w.grownBy w' v.ownBlock ∧ (v'.ownBlock = v.ownBlock ∨ v'.ownBlock = some w.heap.size) := by
  obtain ⟨i0, hi, hz0, hz1, hz2⟩ := info_parts slice_info
  obtain ⟨A, cap, rfl, hA, _, hf⟩ := hg.form
  rcases hx with hx | hx
  · injection hx with e1 e2 e3
    subst e1 e3
    have e0 := List.eq_nil_of_length_eq_zero e2
    subst e0
    have hr := run_append_owned_none (P := Tryz.prog) (w := w) base 46 ty 27 i0 1 Tryz.underlying46 hi v rs.length _ hown
    exact ⟨v, w, hr, by simpa using hown, ⟨rfl, rfl, rfl, Nat.le_refl _, fun _ _ _ => rfl⟩, .inl rfl⟩
  · obtain ⟨b, off, rfl, _, hb, hc⟩ := hf.resolve_left (by omega)
    obtain ⟨g, cp, w', h1, h2, h3, h4, _⟩ := run_append_lies (P := Tryz.prog) w 46 ty base 27 i0 (.slice none 0 0) 1 24 Tryz.underlying46 hi hz0 hz1 hz2 rfl (by decide) v rs.length _ hown ⟨b, off, none⟩ rows.length cap (rows.map encR) (by simp) (fun j u hj => by
      have hjl : j < rows.length := by have := (List.getElem?_eq_some_iff.1 hj).1; simpa using this
      have hj' : some (encR rows[j]) = some u := by rw [← hj, List.getElem?_map, List.getElem?_eq_getElem hjl]; rfl
      rw [addr_add0, hc j hjl, hj']) (fun u hu => by
      obtain ⟨r, _, rfl⟩ := List.mem_map.1 hu
      rfl) hx (by unfold maxLen; omega) (by omega) hbase w.heap.size rfl
    refine ⟨_, w', h1, by rw [List.length_append, List.map_append]; exact h2, h3, ?_⟩
    rcases h4 with h4 | h4
    · exact .inl (by rw [h4]; rfl)
    · exact .inr (by rw [h4]; rfl)
theorem pair_key_in {x y : Int} (hx : In64 x) (hy : In64 y) : ∃ kl, keyOf Tryz.prog 122 (pairKey x y) = some kl :=
  ⟨_, Go.WideMaps.keyOf_pair pair_arr Tryz.underlying3 types_size (int_wf hx.1 hx.2) (int_wf hy.1 hy.2)⟩
theorem zero_rows (w : World) : (zeroValue 46).run Tryz.prog w = .ok (.slice none 0 0) w := by kernel_rfl
theorem GridV.of_own {N : Nat → Prop} {w : World} {base : Nat} {v : Value} {rows : List (Option Addr × Nat × List Int)} (h : w.ownsRow base 27 1 v rows.length (rows.map encR)) (hr : RowsN N w rows) (hN : ∀ b, base ≤ b → N b) (hl : rows.length ≤ 1000000) : GridV N w v rows := by
  refine ⟨hl, ?_, hr⟩
  rcases h.2 with ⟨e, h0⟩ | ⟨g, cap, cur, e, h1, hg, h3, _⟩
  · exact ⟨none, 0, by rw [e, h0], fun _ => rfl, by omega, .inl h0⟩
  · refine ⟨_, cap, e, fun e => (by cases e), h3, .inr ⟨g, 0, rfl, hN g h1, Blk.lt (t := 27) hg, fun k hk => ?_⟩⟩
    subst e
    have := h.cells (g := g) rfl k (encR rows[k]) (by rw [List.getElem?_map, List.getElem?_eq_getElem hk]; rfl)
    rw [addr_add] at this
    rw [Nat.zero_add]
    exact this
theorem Row.off {W W' : World} {RA : Option Addr} {R : List Int} {S : Nat → Prop} (h : Row W RA R) (hk : Kept S W W') (hlt : ∀ b, RA = some b → 0 < R.length → ¬ S b.block) : Row W' RA R := by
  refine ⟨h.len, ?_⟩
  rcases Nat.eq_zero_or_pos R.length with h0 | h0
  · exact .inl h0
  · obtain ⟨b, off, h1, h2, h3⟩ := h.at_.resolve_left (by omega)
    refine .inr ⟨b, off, h1, Nat.lt_of_lt_of_le h2 hk.size, fun i hi => ?_⟩
    have hb : W'.heap[b]? = W.heap[b]? := hk.block b h2 (hlt _ h1 h0)
    rw [show W'.cell? ⟨b, off + i, none⟩ = W.cell? ⟨b, off + i, none⟩ by unfold World.cell?; rw [hb]]
    exact h3 i hi
theorem Reader.far {w w' : World} {r : Nat} {A : Option Addr} {T : List Nd} {c M : Nat} {bad : Bool} {S : Nat → Prop} (h : Reader w r A T c M bad) (hk : Kept S w w') (h1 : ¬ S r) (h2 : ¬ S M) (ht : Tab w' A T) : Reader w' r A T c M bad := by
  obtain ⟨n, f, g1, g2⟩ := h.map
  exact ⟨h.blk.kept hk h1, ⟨n, f, g1.kept hk h2, g2⟩, ht, h.cap, h.ne⟩
def ByF (T : List Nd) (done : List (Int × Int)) (N : Nat → Prop) (w : World) (f : Value → Option Value) : Prop :=
  (∀ a b : Int, (a, b) ∉ done → f (pairKey a b) = none) ∧ ∀ p ∈ done, ∃ v rows, f (pairKey p.1 p.2) = some v ∧ GridV N w v rows ∧ rows.length ≤ 3 ∧ ∀ l, of2 T p.1 p.2 = some l → rows.map (fun r => r.2.2) = l ∧ ∃ a n c, v = .slice (some a) n c
theorem ByF.kept {T : List Nd} {done : List (Int × Int)} {N : Nat → Prop} {S : Nat → Prop} {w w' : World} {f : Value → Option Value} (h : ByF T done N w f) (hk : Kept S w w') (hN : ∀ b, b < w.heap.size → N b → ¬ S b) : ByF T done N w' f :=
  ⟨h.1, fun p hp => by obtain ⟨v, rows, h1, h2, h3, h4⟩ := h.2 p hp; exact ⟨v, rows, h1, h2.kept hk hN, h3, h4⟩⟩
theorem ByF.mono {T : List Nd} {done : List (Int × Int)} {N N' : Nat → Prop} {w : World} {f : Value → Option Value} (h : ByF T done N w f) (hN : ∀ b, b < w.heap.size → N b → N' b) : ByF T done N' w f :=
  ⟨h.1, fun p hp => by obtain ⟨v, rows, h1, h2, h3, h4⟩ := h.2 p hp; exact ⟨v, rows, h1, h2.mono hN, h3, h4⟩⟩
theorem ByF.nil (T : List Nd) (N : Nat → Prop) (w : World) : ByF T [] N w (fun _ => none) := ⟨fun _ _ _ => rfl, fun p hp => by cases hp⟩
theorem ByF.put {T : List Nd} {done : List (Int × Int)} {N : Nat → Prop} {w : World} {f : Value → Option Value} (h : ByF T done N w f) {x y : Int} {v : Value} {rows : List (Option Addr × Nat × List Int)} (hnew : (x, y) ∉ done) (hg : GridV N w v rows) (h3 : rows.length ≤ 3) (hl : ∀ l, of2 T x y = some l → rows.map (fun r => r.2.2) = l ∧ ∃ a n c, v = .slice (some a) n c) :
    ByF T (done ++ [(x, y)]) N w (putFn f (pairKey x y) v) := by
  refine ⟨fun a b hab => ?_, fun p hp => ?_⟩
  · rw [putFn_far _ _ _ _ (fun e => hab (by obtain ⟨rfl, rfl⟩ := pairKey_inj e; simp))]
    exact h.1 a b fun hm => hab (List.mem_append.2 (.inl hm))
  · rcases List.mem_append.1 hp with hp | hp
    · obtain ⟨u, rs, g1, g2⟩ := h.2 p hp
      refine ⟨u, rs, ?_, g2⟩
      rw [putFn_far _ _ _ _ (fun e => hnew (by obtain ⟨e1, e2⟩ := pairKey_inj e; rw [← e1, ← e2]; exact hp))]
      exact g1
    · obtain rfl := List.mem_singleton.1 hp
      exact ⟨v, rows, putFn_at _ _ _, hg, h3, hl⟩
structure AS (w : World) (B g rr Mr Mb L : Nat) (r : Loop) (A : Option Addr) (T : List Nd) (c : Nat) (RA : Option Addr) (R : List Int) (rc : Nat) (W : World) : Prop where
  loop : LoopAt W (L + 2) (L + 1) r
  t1 : Blk W B 33 #[.slice A T.length c]
  t3 : Blk W (B + 2) 114 #[.map (some Mb)]
  t5 : Blk W g 159 #[.pointer (some ⟨rr, 0, none⟩)]
  x : Blk W L 27 #[.slice RA R.length rc]
  row : Row W RA R
  tab : Tab W A T
  t0 : Tab w A T
  mp : ∃ n f, MapAt Tryz.prog 51 W Mr n f ∧ PlaceF T T.length f
  kept : Below B w W
  hB : w.heap.size = B
  hg : B + 3 ≤ g ∧ g < L
  hr : B + 3 ≤ rr ∧ rr < L
  hMr : B + 3 ≤ Mr ∧ Mr < L
  hMb : B + 3 ≤ Mb ∧ Mb < L
  hRA : ∀ a, RA = some a → 0 < R.length → B + 3 ≤ a.block ∧ a.block < L ∧ a.block ≠ g ∧ a.block ≠ rr ∧ a.block ≠ Mr ∧ a.block ≠ Mb
  ne : g ≠ rr ∧ g ≠ Mr ∧ g ≠ Mb ∧ rr ≠ Mr ∧ rr ≠ Mb ∧ Mr ≠ Mb
def FreeA (B rr Mb L b : Nat) : Prop := b = B + 1 ∨ b = rr ∨ b = Mb ∨ L + 3 ≤ b
section
variable {w W W' : World} {B g rr Mr Mb L : Nat} {r : Loop} {A : Option Addr} {T : List Nd} {c : Nat} {RA : Option Addr} {R : List Int} {rc : Nat}
theorem AS.move {S : Nat → Prop} (h : AS w B g rr Mr Mb L r A T c RA R rc W) (hk : Kept S W W') (hS : ∀ b, b < W.heap.size → S b → FreeA B rr Mb L b) (ht : Tab W' A T) : AS w B g rr Mr Mb L r A T c RA R rc W' := by
  have hl := h.loop.lt
  have h1 := h.hg
  have h2 := h.hr
  have h3 := h.hMr
  have h4 := h.hMb
  have h5 := h.ne
  have hn : ∀ b, b < W.heap.size → ¬ FreeA B rr Mb L b → ¬ S b := fun b hb hf hs => hf (hS b hb hs)
  have hf : ∀ b, b < L + 3 → b ≠ B + 1 → b ≠ rr → b ≠ Mb → ¬ S b := fun b hb e1 e2 e3 => hn b (by omega) (by unfold FreeA; omega)
  obtain ⟨n, f, m1, m2⟩ := h.mp
  refine ⟨h.loop.kept hk (hf _ (by omega) (by omega) (by omega) (by omega)) (hf _ (by omega) (by omega) (by omega) (by omega)), h.t1.kept hk (hf _ (by omega) (by omega) (by omega) (by omega)), h.t3.kept hk (hf _ (by omega) (by omega) (by omega) (by omega)), h.t5.kept hk (hf _ (by omega) (by omega) (by omega) (by omega)), h.x.kept hk (hf _ (by omega) (by omega) (by omega) (by omega)), ?_, ht, h.t0, ⟨n, f, m1.kept hk (hf _ (by omega) (by omega) (by omega) (by omega)), m2⟩, ?_, h.hB, h.hg, h.hr, h.hMr, h.hMb, h.hRA, h.ne⟩
  · refine ⟨h.row.len, ?_⟩
    rcases Nat.eq_zero_or_pos R.length with h0 | h0
    · exact .inl h0
    · obtain ⟨b, off, e1, e2, e3⟩ := h.row.at_.resolve_left (by omega)
      have h6 := h.hRA _ e1 h0
      simp only at h6
      refine .inr ⟨b, off, e1, Nat.lt_of_lt_of_le e2 hk.size, fun i hi => ?_⟩
      have hb : W'.heap[b]? = W.heap[b]? := hk.block b e2 (hf _ (by omega) (by omega) (by omega) (by omega))
      rw [show W'.cell? ⟨b, off + i, none⟩ = W.cell? ⟨b, off + i, none⟩ by unfold World.cell?; rw [hb]]
      exact e3 i hi
  · refine h.kept.trans ⟨hk.os, hk.tape, hk.output, hk.size, fun k hkB => hk.block k (by omega) (hf _ (by omega) (by omega) (by omega) (by omega))⟩
theorem AS.putLoop (h : AS w B g rr Mr Mb L r A T c RA R rc W) (r' : Loop) : AS w B g rr Mr Mb L r' A T c RA R rc (W.putObj (L + 2) (.loop r')) := by
  have hl := h.loop.lt
  have h1 := h.hg
  have h2 := h.hr
  have h3 := h.hMr
  have h4 := h.hMb
  have hk := Kept.putObj W (L + 2) (.loop r')
  obtain ⟨n, f, m1, m2⟩ := h.mp
  exact ⟨h.loop.put r', h.t1.kept hk (by omega), h.t3.kept hk (by omega), h.t5.kept hk (by omega), h.x.kept hk (by omega), h.row.putObj h.loop.rec_ _, h.tab.putObj h.loop.rec_ _, h.t0, ⟨n, f, m1.kept hk (by omega), m2⟩, h.kept.trans (hk.below (by omega) (fun k e => by omega)), h.hB, h.hg, h.hr, h.hMr, h.hMb, h.hRA, h.ne⟩
end
end Go.Proofs.YtlipnnibagidiaaGreat

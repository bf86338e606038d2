/- Sort, Compact, DeleteFunc on rows of the call's own. -/
import Derived.Test.YtlipnnibagidiaaGreatRound
import Derived.Test.YtlipnnibagidiaaGreatShelf
import Derived.Sort.OwnSortedInts
import Derived.Test.YtlipnnibagidiaaGreatMk
namespace Go.Proofs.YtlipnnibagidiaaGreat
open Go.RowKit Go.Lib Go.Sort

theorem own_take {w : World} {base : Nat} {e : TypeId} {size n m g cap : Nat} {xs : List Value} (h : w.ownsRow base e size (.slice (some ⟨g, 0, none⟩) n cap) n xs) (hm : m ≤ n) :
    w.ownsRow base e size (.slice (some ⟨g, 0, none⟩) m cap) m (xs.take (m * size)) := by
  have hms : m * size ≤ n * size := Nat.mul_le_mul_right _ hm
  refine ⟨by rw [List.length_take, h.1]; omega, ?_⟩
  rcases h.2 with ⟨h, _⟩ | ⟨g', cap', cur, hv, hb, hh, hc, hM, hs, ht⟩
  · cases h
  · injection hv with hv1 hv2 hv3
    injection hv1 with hv1
    injection hv1 with hv1
    subst hv1
    subst hv3
    exact .inr ⟨g, cap, cur, rfl, hb, hh, by omega, hM, hs, by rw [← ht, List.take_take]; congr 1; omega⟩

/-- A row of ints of the call's own. -/
def OwnI (w : World) (base g cap : Nat) (zs : List Int) : Prop := w.ownsRow base 3 1 (.slice (some ⟨g, 0, none⟩) zs.length cap) zs.length (zs.map (Value.int .i64))

theorem OwnI.block {w : World} {base g cap : Nat} {zs : List Int} (h : OwnI w base g cap zs) :
    ∃ cur, base ≤ g ∧ w.heap[g]? = some (.cells cur 3 (0, 0)) ∧ zs.length ≤ cap ∧ cap ≤ maxLen ∧ cur.size = cap * 1 ∧ cur.toList.take zs.length = zs.map (Value.int .i64) := by
  rcases h.2 with ⟨hv, _⟩ | ⟨g', cap', cur, hv, hb, hh, hc, hM, hs, ht⟩
  · cases hv
  · injection hv with e1 _ e3
    injection e1 with e1
    injection e1 with e1
    subst e1 e3
    rw [Nat.mul_one] at ht
    exact ⟨cur, hb, hh, hc, hM, hs, ht⟩
theorem OwnI.cut {w : World} {base g cap : Nat} {n : Nat} {ts : List Int} (m : List Int) (h : w.ownsRow base 3 1 (.slice (some ⟨g, 0, none⟩) n cap) n ((m ++ ts).map (Value.int .i64))) (hm : m.length ≤ n) : OwnI w base g cap m := by
  have h1 := own_take h hm
  rw [Nat.mul_one, List.map_append, List.take_append, List.length_map, Nat.sub_self, List.take_zero, List.append_nil, List.take_of_length_le (by rw [List.length_map]; exact Nat.le_refl _)] at h1
  exact h1

theorem sort_own {w : World} {base g cap : Nat} {zs : List Int} (h : OwnI w base g cap zs) (hsz : zs.length < 4611686018427387904) :
    Calls Tryz.prog 157 #[.slice (some ⟨g, 0, none⟩) zs.length cap] w fun e w' => e = .returned (.tuple #[]) ∧ OwnI w' base g cap (zs.mergeSort fun x y => decide (x ≤ y)) ∧ w.grownBy w' (some g) := by
  obtain ⟨cur, hb, hh, hc, hM, hs, ht⟩ := h.block
  refine (Tryz.slices_Sort_int g 0 cap zs w (holds_of_blockI hh ht) (Array.getElem?_eq_some_iff.1 hh).1 hsz).mono ?_
  rintro e w' ⟨rfl, k, os, rfl⟩
  refine ⟨rfl, ?_, grownBy_sortedI _⟩
  have h1 := ownsRow_sortedI (n := k) (os := os) (ss := zs) (ts := zs.mergeSort fun x y => decide (x ≤ y)) (List.length_mergeSort _) hb hh hc hM hs
  unfold OwnI
  rw [List.length_mergeSort]
  exact h1

theorem compact_len : ∀ zs : List Int, (Lib.compact zs).length ≤ zs.length := fun zs => by
  have := Lib.compact_length_le zs
  exact this

theorem compact_own {w : World} {base g cap : Nat} {zs : List Int} (h : OwnI w base g cap zs) (hsz : zs.length ≤ 9223372036854775807) :
    Calls Tryz.prog 158 #[.slice (some ⟨g, 0, none⟩) zs.length cap] w fun e w' => e = .returned (.slice (some ⟨g, 0, none⟩) (Lib.compact zs).length cap) ∧ OwnI w' base g cap (Lib.compact zs) ∧ w.grownBy w' (some g) := by
  obtain ⟨cur, hb, hh, hc, hM, hs, ht⟩ := h.block
  refine (Tryz.slices_Compact_int g 0 cap zs w (holds_of_blockI hh ht) hsz hc).mono ?_
  rintro e w' ⟨rfl, k, rfl⟩
  have hl := compact_len zs
  have h1 := ownsRow_sortedI (n := k) (os := #[]) (ss := zs) (ts := Lib.compact zs ++ List.replicate (zs.length - (Lib.compact zs).length) 0) (by rw [List.length_append, List.length_replicate]; omega) hb hh hc hM hs
  have h2 := grownBy_sortedI (w := w) (g := g) (n := k) (os := #[]) (Lib.compact zs ++ List.replicate (zs.length - (Lib.compact zs).length) 0).toArray
  rw [grow_empty] at h1 h2
  exact ⟨rfl, OwnI.cut _ h1 hl, h2⟩

theorem neg_gives (x : Int) (W : World) : FnGives Tryz.prog 185 #[] #[.int .i64 x] (.bool (decide (x < 0))) W := by
  unfold FnGives
  go_enter Tryz.func185, Tryz.ntmps185
  go_wp2
  go_ret
  exact ⟨rfl, 0, rfl⟩

theorem delete_own {w : World} {base g cap : Nat} {zs : List Int} (h : OwnI w base g cap zs) (hsz : zs.length ≤ 9223372036854775807) :
    Calls Tryz.prog 184 #[.slice (some ⟨g, 0, none⟩) zs.length cap, .func (.func 185) #[] #[]] w fun e w' => e = .returned (.slice (some ⟨g, 0, none⟩) (zs.filter fun x => !decide (x < 0)).length cap) ∧ OwnI w' base g cap (zs.filter fun x => !decide (x < 0)) ∧ w.grownBy w' (some g) := by
  obtain ⟨cur, hb, hh, hc, hM, hs, ht⟩ := h.block
  have eg : ∀ args w, (callFunc 185 args).run Tryz.prog w = .ok (.enter 185 args) w := enters_of Tryz.func185 (by kernel_rfl) rfl
  have h0 := Tryz.slices_DeleteFunc_int (fun x => decide (x < 0)) 185 #[] eg g 0 cap zs.toArray w (fun W x _ => neg_gives x W) (fun _ _ _ x _ => neg_gives x _) (holds_of_blockI hh ht) (by simpa using hsz) (by simpa using hc)
  simp only [List.size_toArray] at h0
  refine h0.mono ?_
  rintro e w' ⟨rfl, k, rfl⟩
  have hl : (zs.filter fun x => !decide (x < 0)).length ≤ zs.length := List.length_filter_le _ _
  have h1 := ownsRow_sortedI (n := k) (os := #[]) (ss := zs) (ts := (zs.filter fun x => !decide (x < 0)) ++ List.replicate (zs.length - (zs.filter fun x => !decide (x < 0)).length) 0) (by rw [List.length_append, List.length_replicate]; omega) hb hh hc hM hs
  have h2 := grownBy_sortedI (w := w) (g := g) (n := k) (os := #[]) ((zs.filter fun x => !decide (x < 0)) ++ List.replicate (zs.length - (zs.filter fun x => !decide (x < 0)).length) 0).toArray
  rw [grow_empty] at h1 h2
  exact ⟨rfl, OwnI.cut _ h1 hl, h2⟩
end Go.Proofs.YtlipnnibagidiaaGreat

/- Grow, Concat. -/
namespace Go.Proofs.YtlipnnibagidiaaGreat
open Go.RowKit Go.Lib


theorem grow_ok {w : World} (n : Nat) (hn : n ≤ 1000000) :
    Calls Tryz.prog 201 #[.slice none 0 0, .int .i64 n] w fun e w' => ∃ v, e = .returned v ∧ w'.ownsRow w.heap.size 3 1 v 0 [] ∧ Below w.heap.size w w' := by
  obtain ⟨i0, hi, hz0, hz1, hz2⟩ := info_parts int_info
  by_cases h0 : n = 0
  · subst h0
    exact (Tryz.slices_Grow_room none 0 0 0 w (Nat.le_refl _) (by omega) (by omega) (Nat.le_refl _)).mono fun e w' ⟨h1, h2⟩ => ⟨_, h1, by rw [h2]; exact ⟨World.ownsRow_nil _ _ _ _, Below.refl _ _⟩⟩
  · refine (Tryz.slices_Grow_grow i0 (.int .i64 0) hi hz0 (by omega) n w (by omega) (by rw [hz2]; omega) (by omega)).mono ?_
    rintro e w' ⟨rfl, rfl⟩
    have hge := grownCap_ge w (0 + n) 0 3
    have hle := grownCap_le_maxLen w (0 + n) 0 3 (by unfold maxLen; omega)
    rw [Nat.zero_add] at hge hle ⊢
    refine ⟨_, rfl, ⟨rfl, .inr ⟨w.heap.size, _, _, rfl, Nat.le_refl _, heap_alloc_new w.drew _, Nat.zero_le _, hle, ?_, by simp⟩⟩, ((Below.refl _ w).drew).alloc (Nat.le_refl _) _⟩
    simp [Builtin.zeroCells, Value.cells]
    omega

/-- append of nothing. -/
theorem list_append_none {P : Program} (w : World) {ops : Array Oper} {rest : List Oper} {o : Oper} {a : Act} {Q : Exit → Act → World → Prop} (hgd : o.guard = none) (s x : Operand) (t : TypeId)
    (ho : o.op = .call { callee := .builtin .append, args := #[s, x], argTypes := #[t, t] }) (base : Nat) (e : TypeId) (i : TypeInfo) (size : Nat) (ht : P.underlying t = some (.slice e)) (hi : P.info? e = some i)
    (v : Value) (n : Nat) (xs : List Value) (hs : a.eval s = v) (hown : w.ownsRow base e size v n xs) (hx : a.eval x = .slice none 0 0)
    (h : wpList P ops Q rest (a.put o.dst v) w) : wpList P ops Q (o :: rest) a w := by
  refine wpList_plain hgd fun K hK' => ?_
  have hrun := run_append_owned_none (P := P) (w := w) base t o.type e i size ht hi v n xs hown
  unfold Oper.wp
  simp [execOp, ho, resolve, invoke, builtin, hs, hx, hrun, Result.andThen]
  exact hK' _ _ h

/-- A row of rows, as it lies in memory. -/
def RowsAt (w : World) (gr : Nat) (rows : List (Option Addr × Nat × List Int)) : Prop :=
  gr < w.heap.size ∧ ∀ k (h : k < rows.length), w.cell? ⟨gr, k, none⟩ = some (.slice rows[k].1 rows[k].2.2.length rows[k].2.1) ∧ Row w rows[k].1 rows[k].2.2 ∧ (rows[k].1 = none → rows[k].2.1 = 0)
theorem RowsAt.below {w w' : World} {gr : Nat} {rows : List (Option Addr × Nat × List Int)} (h : RowsAt w gr rows) (hb : Below w.heap.size w w') : RowsAt w' gr rows :=
  ⟨Nat.lt_of_lt_of_le h.1 hb.size, fun k hk => ⟨(hb.cell (p := ⟨gr, k, none⟩) h.1).trans (h.2 k hk).1, (h.2 k hk).2.1.below hb, (h.2 k hk).2.2⟩⟩
def total (rows : List (Option Addr × Nat × List Int)) : Nat := (rows.map fun r => r.2.2.length).sum
def allOf (rows : List (Option Addr × Nat × List Int)) : List Int := rows.flatMap fun r => r.2.2
theorem total_take (rows : List (Option Addr × Nat × List Int)) (k : Nat) (hk : k < rows.length) : total (rows.take (k + 1)) = total (rows.take k) + rows[k].2.2.length := by
  unfold total
  rw [List.take_succ_eq_append_getElem hk, List.map_append, List.sum_append]
  simp
theorem total_le (rows : List (Option Addr × Nat × List Int)) (k : Nat) : total (rows.take k) ≤ total rows := by
  have h : rows = rows.take k ++ rows.drop k := (List.take_append_drop k rows).symm
  conv => rhs; rw [h]
  unfold total
  rw [List.map_append, List.sum_append]
  omega
theorem allOf_take (rows : List (Option Addr × Nat × List Int)) (k : Nat) (hk : k < rows.length) : allOf (rows.take (k + 1)) = allOf (rows.take k) ++ rows[k].2.2 := by
  unfold allOf
  rw [List.take_succ_eq_append_getElem hk, List.flatMap_append]
  simp
theorem allOf_len (rows : List (Option Addr × Nat × List Int)) : (allOf rows).length = total rows := by
  unfold allOf total
  rw [List.length_flatMap]

set_option maxHeartbeats 1000000 in
set_option maxRecDepth 100000 in
theorem concat_ok {w : World} {gr : Nat} {rows : List (Option Addr × Nat × List Int)} (cap : Nat) (h : RowsAt w gr rows) (ht : total rows ≤ 1000000) (hr : rows.length ≤ 1000) :
    Calls Tryz.prog 183 #[.slice (some ⟨gr, 0, none⟩) rows.length cap] w fun e w' => ∃ v, e = .returned v ∧ w'.ownsRow w.heap.size 3 1 v (total rows) ((allOf rows).map (Value.int .i64)) ∧ Below w.heap.size w w' := by
  have H := Lib.hid h
  clear h
  go_enter Tryz.func183, Tryz.ntmps183
  go_wp2
  go_loopg [11, 3] rows.length (fun g v vs wx => w = wx ∧ ∃ i : Nat, i + g = rows.length ∧ v = .int .i64 i ∧ vs = .int .i64 (total (rows.take i) : Nat))
  case atStart => exact ⟨rfl, 0, by omega, rfl, rfl⟩
  case round =>
    obtain ⟨rfl, i, hig, rfl, rfl⟩ := hrel
    have hti := total_le rows i
    cases gk with
    | succ k =>
      have hin : i < rows.length := by omega
      have d1 : decide ((i : Int) < rows.length) = true := by simp; omega
      have c0 := (H.out.2 i hin).1
      have hts := total_take rows i hin
      have hti1 := total_le rows (i + 1)
      have Hts := Lib.hid hts
      have hb : total (rows.take i) + rows[i].2.2.length ≤ 1000000 := by omega
      clear hts hti1
      generalize total (rows.take i) = ti at *
      generalize rows[i].2.2.length = li at *
      have d2 : decide ((ti : Int) + li < 0) = false := decide_eq_false (by omega)
      go_wp2
      go_roundg k
      case measure => omega
      case rel => exact ⟨rfl, i + 1, by omega, by go_num, by rw [Hts.out]; go_num⟩
    | zero =>
      have d1 : decide ((i : Int) < rows.length) = false := by simp; omega
      obtain rfl : i = rows.length := by omega
      rw [List.take_length]
      clear hti
      go_wp2_with (go_at_call 201; refine (grow_ok _ ht).mono ?_; rintro e w1 ⟨v1, rfl, ho1, hb1⟩; have Ho1 := Lib.hid ho1; have Hb1 := Lib.hid hb1; clear ho1 hb1)
      obtain ⟨i0, hi, hz0, hz1, hz2⟩ := info_parts int_info
      go_loopw [27, 6] (fun vi v wr => ∃ i : Nat, i ≤ rows.length ∧ vi = .int .i64 i ∧ wr.ownsRow w.heap.size 3 1 v (total (rows.take i)) ((allOf (rows.take i)).map (Value.int .i64)) ∧ Below w.heap.size w wr) (fun vi _ _ => (rows.length - intOf vi).toNat)
      case atStart => exact ⟨0, Nat.zero_le _, rfl, Ho1.out, Hb1.out⟩
      case round =>
        obtain ⟨i, hi2, rfl, hown, hbw⟩ := hrel
        by_cases hin : i < rows.length
        · have d2 : decide ((i : Int) < rows.length) = true := by simp; omega
          obtain ⟨c0, hrow, hnone⟩ := (H.out.below hbw).2 i hin
          have Htt := Lib.hid (total_take rows i hin)
          have Hat := Lib.hid (allOf_take rows i hin)
          have hle2 := total_le rows (i + 1)
          rw [Htt.out] at hle2
          have hsz := hbw.size
          have Hbw := Lib.hid hbw
          clear hbw
          generalize rows[i].1 = A at *
          generalize rows[i].2.1 = cp at *
          generalize rows[i].2.2 = zs at *
          generalize total (rows.take i) = ti at *
          generalize allOf (rows.take i) = al at *
          cases A with
          | none =>
            obtain rfl := hnone rfl
            have hz0 : zs.length = 0 := by
              rcases hrow.at_ with h1 | ⟨b, off, h1, _⟩
              · exact h1
              · cases h1
            have hz : zs = [] := List.eq_nil_of_length_eq_zero hz0
            subst hz
            have Hown := Lib.hid hown
            clear hown hrow hz0 hnone
            go_wp2_with (at_builtin; refine list_append_none _ rfl _ _ 27 rfl w.heap.size 3 i0 1 Tryz.underlying27 hi u6 ti _ rfl Hown.out rfl ?_)
            go_roundw
            case rel => exact ⟨i + 1, by omega, by go_num, by rw [Htt.out, Hat.out, List.append_nil]; exact Hown.out, Hbw.out⟩
            case measure => simp only [intOf]; omega
          | some ad =>
            have hnews : ∀ j u, (zs.map (Value.int .i64))[j]? = some u → wr.cell? (ad.add j) = some u := by
              intro j u hj
              rw [List.getElem?_map] at hj
              have hjl : j < zs.length := by
                rcases Nat.lt_or_ge j zs.length with h1 | h1
                · exact h1
                · rw [List.getElem?_eq_none h1] at hj; cases hj
              rw [List.getElem?_eq_getElem hjl] at hj
              injection hj with hj
              rcases hrow.at_ with h1 | ⟨b, off, h1, _, hc⟩
              · omega
              · injection h1 with h1
                subst h1
                have h2 : (⟨b, off, none⟩ : Addr).add j = ⟨b, off + j, none⟩ := by unfold Addr.add; split <;> simp_all
                rw [h2, hc j hjl, ← hj]
            have h1c : ∀ u ∈ zs.map (Value.int .i64), u.oneCell' = true := by
              intro u hu
              obtain ⟨x, _, rfl⟩ := List.mem_map.1 hu
              rfl
            have Hown := Lib.hid hown
            have Hnews := Lib.hid hnews
            have H1c := Lib.hid h1c
            clear hown hnews h1c hrow hnone
            go_wp2_with (at_builtin; refine wpList_append_own _ rfl _ _ 27 rfl w.heap.size 3 i0 (.int .i64 0) 1 8 Tryz.underlying27 hi hz0 hz1 hz2 rfl (by decide) u6 ti _ rfl Hown.out ad zs.length cp (zs.map (Value.int .i64)) rfl (by simp) Hnews.out H1c.out ?_ ?_ hsz (fun v2 w2 ho2 hg2 _ => ?_))
            · unfold maxLen; omega
            · omega
            · refine ⟨⟨i + 1, by omega, by go_num, by rw [Htt.out, Hat.out, List.map_append]; exact ho2, Below.grown Hbw.out hg2 hsz (fun j hj => (Hown.out.lt j hj).1)⟩, by simp only [intOf]; omega⟩
        · have d2 : decide ((i : Int) < rows.length) = false := by simp; omega
          obtain rfl : i = rows.length := by omega
          rw [List.take_length] at hown
          have Hown := Lib.hid hown
          have Hbw := Lib.hid hbw
          clear hown hbw
          go_wp2
          go_ret
          exact ⟨_, rfl, Hown.out, Hbw.out⟩
end Go.Proofs.YtlipnnibagidiaaGreat

/- join, Make. -/
namespace Go.Proofs.YtlipnnibagidiaaGreat
open Go.RowKit Go.Lib

/-- The clause of some literals. -/

theorem indexf_nil {w : World} (f : Value) :
    Calls Tryz.prog 202 #[.slice none 0 0, f] w fun e w' => e = .returned (.int .i64 (-1)) ∧ w = w' := by
  go_enter Tryz.func202, Tryz.ntmps202
  go_wp2
  go_loopg [8] 0 (fun g v wx => w = wx ∧ g = 0 ∧ v = .int .i64 0)
  case atStart => exact ⟨rfl, rfl, rfl⟩
  case round =>
    obtain ⟨rfl, rfl, rfl⟩ := hrel
    go_wp2
    go_ret
    exact ⟨rfl, rfl⟩

theorem delete_nil {w : World} (g : Nat) (lb : Array Value) :
    Calls Tryz.prog 184 #[.slice none 0 0, .func (.func g) #[] lb] w fun e w' => e = .returned (.slice none 0 0) ∧ w = w' := by
  go_enter Tryz.func184, Tryz.ntmps184
  go_wp2_with (go_at_call 202; refine (indexf_nil _).mono ?_; rintro e w1 ⟨rfl, rfl⟩)
  go_ret
  exact ⟨rfl, rfl⟩

theorem own_cases {w : World} {base n : Nat} {v : Value} {zs : List Int} (h : w.ownsRow base 3 1 v n (zs.map (Value.int .i64))) (hn : n = zs.length) : (v = .slice none 0 0 ∧ zs = []) ∨ ∃ g cap, v = .slice (some ⟨g, 0, none⟩) zs.length cap ∧ OwnI w base g cap zs ∧ base ≤ g ∧ zs.length ≤ cap := by
  subst hn
  rcases h.2 with ⟨hv, h0⟩ | ⟨g, cap, cur, hv, hb, hh, hc, hM, hs, ht⟩
  · exact .inl ⟨hv, List.eq_nil_of_length_eq_zero h0⟩
  · subst hv
    exact .inr ⟨g, cap, rfl, h, hb, hc⟩

theorem below_grow {B : Nat} {w w1 w2 : World} {g : Nat} (h : Below B w w1) (hg : w1.grownBy w2 (some g)) (hB : B ≤ w1.heap.size) (hgb : B ≤ g) : Below B w w2 :=
  Below.grown h hg hB (fun j hj => by injection hj with hj; omega)

set_option maxHeartbeats 1000000 in
theorem join_ok {w : World} {gr : Nat} {rows : List (Option Addr × Nat × List Int)} (cap : Nat) (h : RowsAt w gr rows) (ht : total rows ≤ 1000000) (hr : rows.length ≤ 1000) :
    Calls Tryz.prog 173 #[.slice (some ⟨gr, 0, none⟩) rows.length cap] w fun e w' => ∃ v, e = .returned v ∧ w'.ownsRow w.heap.size 3 1 v (makeM (allOf rows)).length ((makeM (allOf rows)).map (Value.int .i64)) ∧ Below w.heap.size w w' := by
  have H := Lib.hid h
  have hal := allOf_len rows
  generalize hM : makeM (allOf rows) = M
  have HM := Lib.hid hM
  clear h hM
  go_enter Tryz.func173, Tryz.ntmps173
  go_upto_region 2 with (go_at_call 183; refine (concat_ok cap H.out ht hr).mono ?_; rintro e w1 ⟨v1, rfl, ho1, hb1⟩; have Ho1 := Lib.hid ho1; have Hb1 := Lib.hid hb1; clear ho1 hb1)
  have hsz1 := Hb1.out.size
  rcases own_cases Ho1.out hal.symm with ⟨rfl, h0⟩ | ⟨g, c, rfl, hown, hgb, hc⟩
  · obtain rfl : M = [] := by
      rw [← HM.out, h0]
      unfold makeM
      simp only [List.filter_nil, List.mergeSort_nil]
      rfl
    clear h0 hal
    go_wp2_with (first | (go_at_call 184; refine (delete_nil _ _).mono ?_; rintro e w2 ⟨rfl, rfl⟩) | (go_at_call 157; refine (Tryz.slices_Sort_int_none none 0 _).mono ?_; rintro e w2 ⟨rfl, rfl⟩) | (go_at_call 158; refine (Tryz.slices_Compact_int_empty none 0 _).mono ?_; rintro e w2 ⟨rfl, rfl⟩))
    go_ret
    exact ⟨_, rfl, World.ownsRow_nil _ _ _ _, Hb1.out⟩
  · have hl1 : (allOf rows).length ≤ 1000000 := by omega
    have hM2 := HM.out
    unfold makeM at hM2
    clear HM
    generalize allOf rows = zs at *
    have Hown := Lib.hid hown
    clear hown Ho1 hal
    go_upto_region 3 with (go_at_call 184; refine (delete_own Hown.out (by omega)).mono ?_; rintro e w2 ⟨rfl, ho2, hg2⟩; have Ho2 := Lib.hid ho2; have Hb2 := Lib.hid (below_grow Hb1.out hg2 hsz1 hgb); clear ho2 hg2)
    have hl2 : (zs.filter fun x => !decide (x < 0)).length ≤ zs.length := List.length_filter_le _ _
    generalize (zs.filter fun x => !decide (x < 0)) = fs at *
    have hsz2 := Hb2.out.size
    go_upto_region 4 with (go_at_call 157; refine (sort_own Ho2.out (by omega)).mono ?_; rintro e w3 ⟨rfl, ho3, hg3⟩; have Ho3 := Lib.hid ho3; have Hb3 := Lib.hid (below_grow Hb2.out hg3 hsz2 hgb); clear ho3 hg3)
    have hl3 : (fs.mergeSort fun x y => decide (x ≤ y)).length = fs.length := List.length_mergeSort _
    have Hl3 := Lib.hid hl3
    have hsz3 := Hb3.out.size
    clear hl3
    have hl33 := Hl3.out
    rw [← hl33]
    clear hl33
    generalize (fs.mergeSort fun x y => decide (x ≤ y)) = ms at *
    have hl4 : ms.length ≤ 1000000 := by rw [Hl3.out]; omega
    have HM3 := Lib.hid hM2
    clear hM2
    go_wp2_with (go_at_call 158; refine (compact_own Ho3.out (by omega)).mono ?_; rintro e w4 ⟨rfl, ho4, hg4⟩; have Ho4 := Lib.hid ho4; have Hb4 := Lib.hid (below_grow Hb3.out hg4 hsz3 hgb); clear ho4 hg4)
    go_ret
    rw [← HM3.out]
    exact ⟨_, rfl, Ho4.out, Hb4.out⟩
end Go.Proofs.YtlipnnibagidiaaGreat

/- Make. -/
namespace Go.Proofs.YtlipnnibagidiaaGreat
open Go.RowKit Go.Lib

theorem make_ok {w : World} {A : Option Addr} {zs : List Int} (cap : Nat) (h : Row w A zs) (hn : A = none → cap = 0) :
    Calls Tryz.prog 153 #[.slice A zs.length cap] w fun e w' => ∃ v, e = .returned v ∧ w'.ownsRow w.heap.size 3 1 v (makeM zs).length ((makeM zs).map (Value.int .i64)) ∧ Below w.heap.size w w' := by
  have hb : Below w.heap.size w (w.alloc (.cells #[.slice A zs.length cap] 27)) := (Below.refl _ w).alloc (Nat.le_refl _) _
  have hlen : zs.length ≤ 1000000 := Nat.le_trans h.len (by decide)
  have hrows : RowsAt (w.alloc (.cells #[.slice A zs.length cap] 27)) w.heap.size [(A, cap, zs)] := by
    refine ⟨by simp, fun k hk => ?_⟩
    have hk0 : k = 0 := by simpa using hk
    subst hk0
    exact ⟨(Blk.new w _ _).cell 0, h.below hb, hn⟩
  have Hb := Lib.hid hb
  have Hrows := Lib.hid hrows
  have hall : allOf [(A, cap, zs)] = zs := by simp [allOf]
  have htot : total [(A, cap, zs)] ≤ 1000000 := by simp [total]; exact hlen
  have Hall := Lib.hid hall
  clear h hb hrows hall hn
  go_enter Tryz.func153, Tryz.ntmps153
  go_wp2_with (go_at_call 173; refine (join_ok (rows := [(A, cap, zs)]) 1 Hrows.out htot (by simp)).mono ?_; rintro e w1 ⟨v, rfl, ho, hb1⟩; rw [Hall.out] at ho; have Ho := Lib.hid (own_base ho (fun g hg => Nat.le_trans Hb.out.size (ho.lt g hg).1)); have Hb1 := Lib.hid (Hb.out.trans (hb1.mono Hb.out.size)); clear ho hb1)
  go_ret
  exact ⟨_, rfl, Ho.out, Hb1.out⟩
end Go.Proofs.YtlipnnibagidiaaGreat

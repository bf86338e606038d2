/- Grow, Concat. -/
import Derived.Test.YtmbekchnfbmhbaaGreatClC
namespace Go.Proofs.YtmbekchnfbmhbaaGreat
open Go.RowKit Go.Lib

theorem int_info : (Tryz.prog.info? 3).map (fun i => (i.zero, i.size, i.bytes)) = some (some (.int .i64 0), 1, 8) := by kernel_rfl

theorem grow_ok {w : World} (n : Nat) (hn : n ≤ 1000000) :
    Calls Tryz.prog 88 #[.slice none 0 0, .int .i64 n] w fun e w' => ∃ v, e = .returned v ∧ w'.ownsRow w.heap.size 3 1 v 0 [] ∧ Below w.heap.size w w' := by
  obtain ⟨i0, hi, hz0, hz1, hz2⟩ := info_parts int_info
  by_cases h0 : n = 0
  · subst h0
    exact (Tryz.slices_Grow_room none 0 0 0 w (Nat.le_refl _) (by omega) (by omega) (Nat.le_refl _)).mono fun e w' ⟨h1, h2⟩ => ⟨_, h1, by rw [h2]; exact ⟨World.ownsRow_nil _ _ _ _, Below.refl _ _⟩⟩
  · refine (Tryz.slices_Grow_grow i0 (.int .i64 0) hi hz0 (by omega) n w (by omega) (by rw [hz2]; omega) (by omega)).mono ?_
    rintro e w' ⟨rfl, rfl⟩
    have hge := grownCap_ge w (0 + n) 0 3
    have hle := grownCap_le_maxLen w (0 + n) 0 3 (by unfold maxLen; omega)
    rw [Nat.zero_add] at hge hle ⊢
    refine ⟨_, rfl, ⟨rfl, .inr ⟨w.heap.size, _, _, rfl, Nat.le_refl _, heap_alloc_new w.drew _, Nat.zero_le _, hle, ?_, by simp⟩⟩, ((Below.refl _ w).drew).alloc (Nat.le_refl _) _⟩
    simp [Builtin.zeroCells, Value.cells]
    omega

/-- append of nothing. -/
theorem list_append_none {P : Program} (w : World) {ops : Array Oper} {rest : List Oper} {o : Oper} {a : Act} {Q : Exit → Act → World → Prop} (hgd : o.guard = none) (s x : Operand) (t : TypeId)
    (ho : o.op = .call { callee := .builtin .append, args := #[s, x], argTypes := #[t, t] }) (base : Nat) (e : TypeId) (i : TypeInfo) (size : Nat) (ht : P.underlying t = some (.slice e)) (hi : P.info? e = some i)
    (v : Value) (n : Nat) (xs : List Value) (hs : a.eval s = v) (hown : w.ownsRow base e size v n xs) (hx : a.eval x = .slice none 0 0)
    (h : wpList P ops Q rest (a.put o.dst v) w) : wpList P ops Q (o :: rest) a w := by
  refine wpList_plain hgd fun K hK' => ?_
  have hrun := run_append_owned_none (P := P) (w := w) base t o.type e i size ht hi v n xs hown
  unfold Oper.wp
  simp [execOp, ho, resolve, invoke, builtin, hs, hx, hrun, Result.andThen]
  exact hK' _ _ h

/-- A row of rows, as it lies in memory. -/
def RowsAt (w : World) (gr : Nat) (rows : List (Option Addr × Nat × List Int)) : Prop :=
  gr < w.heap.size ∧ ∀ k (h : k < rows.length), w.cell? ⟨gr, k, none⟩ = some (.slice rows[k].1 rows[k].2.2.length rows[k].2.1) ∧ Row .i64 w rows[k].1 rows[k].2.2 ∧ (rows[k].1 = none → rows[k].2.1 = 0)
theorem RowsAt.below {w w' : World} {gr : Nat} {rows : List (Option Addr × Nat × List Int)} (h : RowsAt w gr rows) (hb : Below w.heap.size w w') : RowsAt w' gr rows :=
  ⟨Nat.lt_of_lt_of_le h.1 hb.size, fun k hk => ⟨(hb.cell (p := ⟨gr, k, none⟩) h.1).trans (h.2 k hk).1, (h.2 k hk).2.1.below hb, (h.2 k hk).2.2⟩⟩
def total (rows : List (Option Addr × Nat × List Int)) : Nat := (rows.map fun r => r.2.2.length).sum
def allOf (rows : List (Option Addr × Nat × List Int)) : List Int := rows.flatMap fun r => r.2.2
theorem total_take (rows : List (Option Addr × Nat × List Int)) (k : Nat) (hk : k < rows.length) : total (rows.take (k + 1)) = total (rows.take k) + rows[k].2.2.length := by
  unfold total
  rw [List.take_succ_eq_append_getElem hk, List.map_append, List.sum_append]
  simp
theorem total_le (rows : List (Option Addr × Nat × List Int)) (k : Nat) : total (rows.take k) ≤ total rows := by
  have h : rows = rows.take k ++ rows.drop k := (List.take_append_drop k rows).symm
  conv => rhs; rw [h]
  unfold total
  rw [List.map_append, List.sum_append]
  omega
theorem allOf_take (rows : List (Option Addr × Nat × List Int)) (k : Nat) (hk : k < rows.length) : allOf (rows.take (k + 1)) = allOf (rows.take k) ++ rows[k].2.2 := by
  unfold allOf
  rw [List.take_succ_eq_append_getElem hk, List.flatMap_append]
  simp
theorem allOf_len (rows : List (Option Addr × Nat × List Int)) : (allOf rows).length = total rows := by
  unfold allOf total
  rw [List.length_flatMap]

set_option maxRecDepth 100000 in
set_option maxHeartbeats 1000000 in
theorem concat_ok {w : World} {gr : Nat} {rows : List (Option Addr × Nat × List Int)} (cap : Nat) (h : RowsAt w gr rows) (ht : total rows ≤ 1000000) (hr : rows.length ≤ 1000) :
    Calls Tryz.prog 71 #[.slice (some ⟨gr, 0, none⟩) rows.length cap] w fun e w' => ∃ v, e = .returned v ∧ w'.ownsRow w.heap.size 3 1 v (total rows) ((allOf rows).map (Value.int .i64)) ∧ Below w.heap.size w w' := by
  have H := Lib.hid h
  clear h
  go_enter Tryz.func71, Tryz.ntmps71
  go_wp2
  go_loopg [11, 3] rows.length (fun g v vs wx => w = wx ∧ ∃ i : Nat, i + g = rows.length ∧ v = .int .i64 i ∧ vs = .int .i64 (total (rows.take i) : Nat))
  case atStart => exact ⟨rfl, 0, by omega, rfl, rfl⟩
  case round =>
    obtain ⟨rfl, i, hig, rfl, rfl⟩ := hrel
    have hti := total_le rows i
    cases gk with
    | succ k =>
      have hin : i < rows.length := by omega
      have d1 : decide ((i : Int) < rows.length) = true := by simp; omega
      have c0 := (H.out.2 i hin).1
      have hts := total_take rows i hin
      have hti1 := total_le rows (i + 1)
      have Hts := Lib.hid hts
      have hb : total (rows.take i) + rows[i].2.2.length ≤ 1000000 := by omega
      clear hts hti1
      generalize total (rows.take i) = ti at *
      generalize rows[i].2.2.length = li at *
      have d2 : decide ((ti : Int) + li < 0) = false := decide_eq_false (by omega)
      go_wp2
      go_roundg k
      case measure => omega
      case rel => exact ⟨rfl, i + 1, by omega, by go_num, by rw [Hts.out]; go_num⟩
    | zero =>
      have d1 : decide ((i : Int) < rows.length) = false := by simp; omega
      obtain rfl : i = rows.length := by omega
      rw [List.take_length]
      clear hti
      go_wp2_with (go_at_call 88; refine (grow_ok _ ht).mono ?_; rintro e w1 ⟨v1, rfl, ho1, hb1⟩; have Ho1 := Lib.hid ho1; have Hb1 := Lib.hid hb1; clear ho1 hb1)
      obtain ⟨i0, hi, hz0, hz1, hz2⟩ := info_parts int_info
      go_loopw [27, 6] (fun vi v wr => ∃ i : Nat, i ≤ rows.length ∧ vi = .int .i64 i ∧ wr.ownsRow w.heap.size 3 1 v (total (rows.take i)) ((allOf (rows.take i)).map (Value.int .i64)) ∧ Below w.heap.size w wr) (fun vi _ _ => (rows.length - intOf vi).toNat)
      case atStart => exact ⟨0, Nat.zero_le _, rfl, Ho1.out, Hb1.out⟩
      case round =>
        obtain ⟨i, hi2, rfl, hown, hbw⟩ := hrel
        by_cases hin : i < rows.length
        · have d2 : decide ((i : Int) < rows.length) = true := by simp; omega
          obtain ⟨c0, hrow, hnone⟩ := (H.out.below hbw).2 i hin
          have Htt := Lib.hid (total_take rows i hin)
          have Hat := Lib.hid (allOf_take rows i hin)
          have hle2 := total_le rows (i + 1)
          rw [Htt.out] at hle2
          have hsz := hbw.size
          have Hbw := Lib.hid hbw
          clear hbw
          generalize rows[i].1 = A at *
          generalize rows[i].2.1 = cp at *
          generalize rows[i].2.2 = zs at *
          generalize total (rows.take i) = ti at *
          generalize allOf (rows.take i) = al at *
          cases A with
          | none =>
            obtain rfl := hnone rfl
            have hz0 : zs.length = 0 := by
              rcases hrow.at_ with h1 | ⟨b, off, h1, _⟩
              · exact h1
              · cases h1
            have hz : zs = [] := List.eq_nil_of_length_eq_zero hz0
            subst hz
            have Hown := Lib.hid hown
            clear hown hrow hz0 hnone
            go_wp2_with (at_builtin; refine list_append_none _ rfl _ _ 23 rfl w.heap.size 3 i0 1 Tryz.underlying23 hi u6 ti _ rfl Hown.out rfl ?_)
            go_roundw
            case rel => exact ⟨i + 1, by omega, by go_num, by rw [Htt.out, Hat.out, List.append_nil]; exact Hown.out, Hbw.out⟩
            case measure => simp only [intOf]; omega
          | some ad =>
            have hnews : ∀ j u, (zs.map (Value.int .i64))[j]? = some u → wr.cell? (ad.add j) = some u := by
              intro j u hj
              rw [List.getElem?_map] at hj
              have hjl : j < zs.length := by
                rcases Nat.lt_or_ge j zs.length with h1 | h1
                · exact h1
                · rw [List.getElem?_eq_none h1] at hj; cases hj
              rw [List.getElem?_eq_getElem hjl] at hj
              injection hj with hj
              rcases hrow.at_ with h1 | ⟨b, off, h1, _, hc⟩
              · omega
              · injection h1 with h1
                subst h1
                have h2 : (⟨b, off, none⟩ : Addr).add j = ⟨b, off + j, none⟩ := by unfold Addr.add; split <;> simp_all
                rw [h2, hc j hjl, ← hj]
            have h1c : ∀ u ∈ zs.map (Value.int .i64), u.oneCell' = true := by
              intro u hu
              obtain ⟨x, _, rfl⟩ := List.mem_map.1 hu
              rfl
            have Hown := Lib.hid hown
            have Hnews := Lib.hid hnews
            have H1c := Lib.hid h1c
            clear hown hnews h1c hrow hnone
            go_wp2_with (at_builtin; refine wpList_append_own _ rfl _ _ 23 rfl w.heap.size 3 i0 (.int .i64 0) 1 8 Tryz.underlying23 hi hz0 hz1 hz2 rfl (by decide) u6 ti _ rfl Hown.out ad zs.length cp (zs.map (Value.int .i64)) rfl (by simp) Hnews.out H1c.out ?_ ?_ hsz (fun v2 w2 ho2 hg2 _ => ?_))
            · unfold maxLen; omega
            · omega
            · refine ⟨⟨i + 1, by omega, by go_num, by rw [Htt.out, Hat.out, List.map_append]; exact ho2, Below.grown Hbw.out hg2 hsz (fun j hj => (Hown.out.lt j hj).1)⟩, by simp only [intOf]; omega⟩
        · have d2 : decide ((i : Int) < rows.length) = false := by simp; omega
          obtain rfl : i = rows.length := by omega
          rw [List.take_length] at hown
          have Hown := Lib.hid hown
          have Hbw := Lib.hid hbw
          clear hown hbw
          go_wp2
          go_ret
          exact ⟨_, rfl, Hown.out, Hbw.out⟩
end Go.Proofs.YtmbekchnfbmhbaaGreat

/- join, Make. -/
namespace Go.Proofs.YtmbekchnfbmhbaaGreat
open Go.RowKit Go.Lib

/-- The clause of some literals. -/
def makeM (l : List Int) : List Int := Lib.compact ((l.filter fun x => !decide (x < 0)).mergeSort fun x y => decide (x ≤ y))

theorem indexf_nil {w : World} (f : Value) :
    Calls Tryz.prog 48 #[.slice none 0 0, f] w fun e w' => e = .returned (.int .i64 (-1)) ∧ w = w' := by
  go_enter Tryz.func48, Tryz.ntmps48
  go_wp2
  go_loopg [8] 0 (fun g v wx => w = wx ∧ g = 0 ∧ v = .int .i64 0)
  case atStart => exact ⟨rfl, rfl, rfl⟩
  case round =>
    obtain ⟨rfl, rfl, rfl⟩ := hrel
    go_wp2
    go_ret
    exact ⟨rfl, rfl⟩

theorem delete_nil {w : World} (g : Nat) (lb : Array Value) :
    Calls Tryz.prog 72 #[.slice none 0 0, .func (.func g) #[] lb] w fun e w' => e = .returned (.slice none 0 0) ∧ w = w' := by
  go_enter Tryz.func72, Tryz.ntmps72
  go_wp2_with (go_at_call 48; refine (indexf_nil _).mono ?_; rintro e w1 ⟨rfl, rfl⟩)
  go_ret
  exact ⟨rfl, rfl⟩

theorem own_cases {w : World} {base n : Nat} {v : Value} {zs : List Int} (h : w.ownsRow base 3 1 v n (zs.map (Value.int .i64))) (hn : n = zs.length) : (v = .slice none 0 0 ∧ zs = []) ∨ ∃ g cap, v = .slice (some ⟨g, 0, none⟩) zs.length cap ∧ OwnI w base g cap zs ∧ base ≤ g ∧ zs.length ≤ cap := by
  subst hn
  rcases h.2 with ⟨hv, h0⟩ | ⟨g, cap, cur, hv, hb, hh, hc, hM, hs, ht⟩
  · exact .inl ⟨hv, List.eq_nil_of_length_eq_zero h0⟩
  · subst hv
    exact .inr ⟨g, cap, rfl, h, hb, hc⟩

theorem below_grow {B : Nat} {w w1 w2 : World} {g : Nat} (h : Below B w w1) (hg : w1.grownBy w2 (some g)) (hB : B ≤ w1.heap.size) (hgb : B ≤ g) : Below B w w2 :=
  Below.grown h hg hB (fun j hj => by injection hj with hj; omega)

set_option maxHeartbeats 1000000 in
theorem join_ok {w : World} {gr : Nat} {rows : List (Option Addr × Nat × List Int)} (cap : Nat) (h : RowsAt w gr rows) (ht : total rows ≤ 1000000) (hr : rows.length ≤ 1000) :
    Calls Tryz.prog 62 #[.slice (some ⟨gr, 0, none⟩) rows.length cap] w fun e w' => ∃ v, e = .returned v ∧ w'.ownsRow w.heap.size 3 1 v (makeM (allOf rows)).length ((makeM (allOf rows)).map (Value.int .i64)) ∧ Below w.heap.size w w' := by
  have H := Lib.hid h
  have hal := allOf_len rows
  generalize hM : makeM (allOf rows) = M
  have HM := Lib.hid hM
  clear h hM
  go_enter Tryz.func62, Tryz.ntmps62
  go_upto_region 2 with (go_at_call 71; refine (concat_ok cap H.out ht hr).mono ?_; rintro e w1 ⟨v1, rfl, ho1, hb1⟩; have Ho1 := Lib.hid ho1; have Hb1 := Lib.hid hb1; clear ho1 hb1)
  have hsz1 := Hb1.out.size
  rcases own_cases Ho1.out hal.symm with ⟨rfl, h0⟩ | ⟨g, c, rfl, hown, hgb, hc⟩
  · obtain rfl : M = [] := by
      rw [← HM.out, h0]
      unfold makeM
      simp only [List.filter_nil, List.mergeSort_nil]
      rfl
    clear h0 hal
    go_wp2_with (first | (go_at_call 72; refine (delete_nil _ _).mono ?_; rintro e w2 ⟨rfl, rfl⟩) | (go_at_call 74; refine (Tryz.slices_Sort_int_none none 0 _).mono ?_; rintro e w2 ⟨rfl, rfl⟩) | (go_at_call 75; refine (Tryz.slices_Compact_int_empty none 0 _).mono ?_; rintro e w2 ⟨rfl, rfl⟩))
    go_ret
    exact ⟨_, rfl, World.ownsRow_nil _ _ _ _, Hb1.out⟩
  · have hl1 : (allOf rows).length ≤ 1000000 := by omega
    have hM2 := HM.out
    unfold makeM at hM2
    clear HM
    generalize allOf rows = zs at *
    have Hown := Lib.hid hown
    clear hown Ho1 hal
    go_upto_region 3 with (go_at_call 72; refine (delete_own Hown.out (by omega)).mono ?_; rintro e w2 ⟨rfl, ho2, hg2⟩; have Ho2 := Lib.hid ho2; have Hb2 := Lib.hid (below_grow Hb1.out hg2 hsz1 hgb); clear ho2 hg2)
    have hl2 : (zs.filter fun x => !decide (x < 0)).length ≤ zs.length := List.length_filter_le _ _
    generalize (zs.filter fun x => !decide (x < 0)) = fs at *
    have hsz2 := Hb2.out.size
    go_upto_region 4 with (go_at_call 74; refine (sort_own Ho2.out (by omega)).mono ?_; rintro e w3 ⟨rfl, ho3, hg3⟩; have Ho3 := Lib.hid ho3; have Hb3 := Lib.hid (below_grow Hb2.out hg3 hsz2 hgb); clear ho3 hg3)
    have hl3 : (fs.mergeSort fun x y => decide (x ≤ y)).length = fs.length := List.length_mergeSort _
    have Hl3 := Lib.hid hl3
    have hsz3 := Hb3.out.size
    clear hl3
    have hl33 := Hl3.out
    rw [← hl33]
    clear hl33
    generalize (fs.mergeSort fun x y => decide (x ≤ y)) = ms at *
    have hl4 : ms.length ≤ 1000000 := by rw [Hl3.out]; omega
    have HM3 := Lib.hid hM2
    clear hM2
    go_wp2_with (go_at_call 75; refine (compact_own Ho3.out (by omega)).mono ?_; rintro e w4 ⟨rfl, ho4, hg4⟩; have Ho4 := Lib.hid ho4; have Hb4 := Lib.hid (below_grow Hb3.out hg4 hsz3 hgb); clear ho4 hg4)
    go_ret
    rw [← HM3.out]
    exact ⟨_, rfl, Ho4.out, Hb4.out⟩
end Go.Proofs.YtmbekchnfbmhbaaGreat

/- Make. -/
namespace Go.Proofs.YtmbekchnfbmhbaaGreat
open Go.RowKit Go.Lib

theorem make_ok {w : World} {A : Option Addr} {zs : List Int} (cap : Nat) (h : Row .i64 w A zs) (hn : A = none → cap = 0) :
    Calls Tryz.prog 47 #[.slice A zs.length cap] w fun e w' => ∃ v, e = .returned v ∧ w'.ownsRow w.heap.size 3 1 v (makeM zs).length ((makeM zs).map (Value.int .i64)) ∧ Below w.heap.size w w' := by
  have hb : Below w.heap.size w (w.alloc (.cells #[.slice A zs.length cap] 23)) := (Below.refl _ w).alloc (Nat.le_refl _) _
  have hlen := h.len
  have hrows : RowsAt (w.alloc (.cells #[.slice A zs.length cap] 23)) w.heap.size [(A, cap, zs)] := by
    refine ⟨by simp, fun k hk => ?_⟩
    have hk0 : k = 0 := by simpa using hk
    subst hk0
    exact ⟨(Blk.new w _ _).cell 0, h.below hb, hn⟩
  have Hb := Lib.hid hb
  have Hrows := Lib.hid hrows
  have hall : allOf [(A, cap, zs)] = zs := by simp [allOf]
  have htot : total [(A, cap, zs)] ≤ 1000000 := by simp [total]; exact hlen
  have Hall := Lib.hid hall
  clear h hb hrows hall hn
  go_enter Tryz.func47, Tryz.ntmps47
  go_wp2_with (go_at_call 62; refine (join_ok (rows := [(A, cap, zs)]) 1 Hrows.out htot (by simp)).mono ?_; rintro e w1 ⟨v, rfl, ho, hb1⟩; rw [Hall.out] at ho; have Ho := Lib.hid (own_base ho (fun g hg => Nat.le_trans Hb.out.size (ho.lt g hg).1)); have Hb1 := Lib.hid (Hb.out.trans (hb1.mono Hb.out.size)); clear ho hb1)
  go_ret
  exact ⟨_, rfl, Ho.out, Hb1.out⟩
end Go.Proofs.YtmbekchnfbmhbaaGreat

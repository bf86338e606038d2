/- Core. -/
import Derived.Test.YthnakfdiikidaaaRupK
namespace Go.Proofs.Ythnakfdiikidaaa
open Go.RowKit Go.Lib

def pickM (ls : List (List Int)) (ps : List Nat) : List (List Int) := ps.map fun i => ls.getD i []
theorem pick_rows (L : List (Option Addr × Nat × List Int)) (ps : List Nat) : rowsOf (pickR L ps) = pickM (rowsOf L) ps := by
  unfold rowsOf pickR pickM
  rw [List.map_map]
  refine List.map_congr_left fun _ _ => ?_
  simp only [Function.comp, List.getD_eq_getElem?_getD, List.getElem?_map]
  rename_i i _
  cases L[i]? <;> rfl
/-- The places of p below n. -/
def plc (n : Nat) (p : Nat → Bool) : List Nat := (List.range n).filter p
theorem plc_lt {n : Nat} {p : Nat → Bool} : ∀ i ∈ plc n p, i < n := fun _ hi => List.mem_range.1 (List.mem_filter.1 hi).1
theorem plc_len (n : Nat) (p : Nat → Bool) : (plc n p).length ≤ n := by
  have := List.length_filter_le p (List.range n)
  rwa [List.length_range] at this
theorem plc_all (n : Nat) : plc n (fun _ => true) = List.range n := by unfold plc; exact List.filter_eq_self.2 (fun _ _ => rfl)
theorem pickM_all (ls : List (List Int)) : pickM ls (plc ls.length fun _ => true) = ls := by
  rw [plc_all]
  unfold pickM
  refine List.ext_getElem (by simp) fun i h1 h2 => ?_
  simp [List.getD_eq_getElem?_getD, h2]
/-- One place is tried: it stays if without it the clause does not follow. -/
def tryP (ls : List (List Int)) (c : List Int) (i : Nat) (p : Nat → Bool) : Nat → Bool := fun k => p k && (k != i || !followsM (pickM ls (plc ls.length fun k => p k && k != i)) c)
def coreP (ls : List (List Int)) (c : List Int) : Nat → (Nat → Bool) → Nat → Bool
  | 0, p => p
  | i + 1, p => coreP ls c i (tryP ls c i p)
def coreM (ls : List (List Int)) (c : List Int) : List Nat := if followsM ls c = true then plc ls.length (coreP ls c ls.length fun _ => true) else []
theorem woM_plc (n i : Nat) (p : Nat → Bool) : woM (i : Int) ((plc n p).map fun i : Nat => (i : Int)) = (plc n fun k => p k && k != i).map fun i : Nat => (i : Int) := by
  unfold woM plc
  rw [List.filter_map, List.filter_filter]
  congr 1
  refine List.filter_congr fun k _ => ?_
  simp only [Function.comp]
  have : ((k : Int) == (i : Int)) = (k == i) := by
    by_cases h : k = i
    · subst h; simp
    · have h2 : ¬ (k : Int) = i := by omega
      rw [beq_eq_false_iff_ne.2 h, beq_eq_false_iff_ne.2 h2]
  rw [this, Bool.and_comm]
  rfl
theorem tryP_yes {ls : List (List Int)} {c : List Int} {i : Nat} {p : Nat → Bool} (h : followsM (pickM ls (plc ls.length fun k => p k && k != i)) c = true) : tryP ls c i p = fun k => p k && k != i := by
  unfold tryP
  rw [h]
  funext k
  simp
theorem tryP_no {ls : List (List Int)} {c : List Int} {i : Nat} {p : Nat → Bool} (h : followsM (pickM ls (plc ls.length fun k => p k && k != i)) c = false) : tryP ls c i p = p := by
  unfold tryP
  rw [h]
  funext k
  simp

/-- The row of places, its first i written. -/
def idxCells (n i : Nat) : Array Value := ((List.range n).map fun j => Value.int .i64 (if j < i then j else 0)).toArray
theorem idx_zero (n : Nat) : idxCells n 0 = (List.replicate n (Value.int .i64 0)).toArray := by
  unfold idxCells
  congr 1
  refine List.ext_getElem (by simp) fun i h1 h2 => ?_
  simp
theorem idx_set (n i : Nat) : (idxCells n i).setIfInBounds i (.int .i64 i) = idxCells n (i + 1) := by
  apply Array.ext
  · simp [idxCells]
  · intro j h1 h2
    rw [Array.getElem_setIfInBounds (by simpa using h1)]
    simp only [idxCells, List.getElem_toArray, List.getElem_map, List.getElem_range]
    by_cases h : i = j
    · subst h; simp
    · rw [if_neg h]
      by_cases h3 : j < i
      · rw [if_pos h3, if_pos (by omega)]
      · rw [if_neg h3, if_neg (by omega)]
theorem idx_row {w : World} {g n : Nat} (h : Blk w g 3 (idxCells n n)) (hn : n ≤ 1000000) : Row .i64 w (some ⟨g, 0, none⟩) ((plc n fun _ => true).map fun i : Nat => (i : Int)) := by
  rw [plc_all]
  refine ⟨by simpa using hn, .inr ⟨g, 0, rfl, h.lt, fun i hi => ?_⟩⟩
  rw [List.length_map, List.length_range] at hi
  rw [Nat.zero_add, h.cell, idxCells, List.getElem?_toArray, List.getElem?_map, List.getElem?_range hi]
  simp [hi]
theorem made_idx (n : Nat) : madeCells #[Value.int .i64 0] n = idxCells n 0 := by rw [made_one, idx_zero]

theorem make_idx (n : Nat) (hn : n ≤ 1000000) (w : World) : (Instr.makeSlice 28 (.int .i64 (n : Int)) (.int .i64 (n : Int))).run Try.prog w = .ok (.slice (some ⟨w.heap.size, 0, none⟩) n n) (w.alloc (.cells (idxCells n 0) 3)) := by
  obtain ⟨i0, hi, hz0, hz1, hz2⟩ := info_parts int_info
  have h := run_make_rowN (P := Try.prog) 28 3 i0 (.int .i64 0) Try.underlying28 hi hz0 .i64 .i64 n n (Nat.le_refl _) (by rw [hz2]; omega) (by omega) w
  rw [hz1, Nat.mul_one] at h
  rw [h, ← made_idx]
  rfl

theorem clone_plc {w : World} {VA : Option Addr} {ps : List Nat} (vc : Nat) (h : Row .i64 w VA (ps.map fun i : Nat => (i : Int))) :
    Calls Try.prog 30 #[.slice VA ps.length vc] w fun e w' => ∃ v, e = .returned v ∧ w'.ownsRow w.heap.size 3 1 v (ps.map fun i : Nat => (i : Int)).length ((ps.map fun i : Nat => (i : Int)).map (Value.int .i64)) ∧ Below w.heap.size w w' := by
  have K := clone_int vc h
  simp only [List.length_map] at K ⊢
  exact K

set_option maxHeartbeats 2000000 in
theorem core_ok {w : World} {LA CA : Option Addr} {L : List (Option Addr × Nat × List Int)} {c : List Int} (cl cc : Nat) (hg : Grid w LA L) (hL : L.length ≤ 1000) (hc : Row .i64 w CA c) (hm : ∀ x ∈ c, x ≤ 9223372036854775807) :
    Calls Try.prog 18 #[.slice LA L.length cl, .slice CA c.length cc] w fun e w' => ∃ VA d, e = .returned (.slice VA (coreM (rowsOf L) c).length d) ∧ Row .i64 w' VA ((coreM (rowsOf L) c).map fun i : Nat => (i : Int)) ∧ Below w.heap.size w w' := by
  obtain ⟨B, hB⟩ : ∃ B, w.heap.size = B := ⟨_, rfl⟩
  obtain ⟨w0, hw0⟩ : ∃ w0, (w.alloc (.cells #[.slice LA L.length cl] 22)).alloc (.cells #[.slice CA c.length cc] 28) = w0 := ⟨_, rfl⟩
  have hb0 : Below B w w0 := by rw [← hw0, ← hB]; exact ((Below.refl _ w).alloc (Nat.le_refl _) _).alloc (by simp) _
  have hbl : Blk w0 B 22 #[.slice LA L.length cl] := by rw [← hw0, ← hB]; exact (Blk.new w _ _).alloc _
  have hbc : Blk w0 (B + 1) 28 #[.slice CA c.length cc] := by rw [← hw0, ← hB]; exact Blk.new_at (by simp) _ _
  have x0 := hbl.cell 0
  have x1 := hbc.cell 0
  simp only [List.getElem?_toArray, List.getElem?_cons_zero] at x0 x1
  have hg0 := hg.below (hB ▸ hb0)
  have hc0 := hc.below (hB ▸ hb0)
  have K1 := follows_ok cl cc hg0 hc0 hm
  have hcl := hc.len
  have Hg := Lib.hid hg0
  have Hc := Lib.hid hc0
  have Hm := Lib.hid hm
  have Hb0 := Lib.hid hb0
  have Hbl := Lib.hid hbl
  have Hbc := Lib.hid hbc
  clear hg hc hm hb0 hbl hbc hg0 hc0
  by_cases hf : followsM (rowsOf L) c = true
  · have hcm : coreM (rowsOf L) c = plc L.length (coreP (rowsOf L) c L.length fun _ => true) := by
      unfold coreM
      rw [if_pos hf, show (rowsOf L).length = L.length from List.length_map _]
    rw [hf] at K1
    rw [hcm]
    clear hcm
    go_enter Try.func18, Try.ntmps18
    go_wp2_with (go_at_call 13; go_loud (with_reducible refine K1.mono ?_); rintro e w1 ⟨rfl, hb1⟩; have HB1 := Lib.hid hb1; have x2 := (hb1.cell (p := ⟨B, 0, none⟩) Hbl.out.lt).trans x0; have qm := make_idx L.length (by omega) w1; clear hb1)
    obtain ⟨g, hgs⟩ : ∃ g, w1.heap.size = g := ⟨_, rfl⟩
    rw [hgs]
    have hG : Blk (w1.alloc (.cells (idxCells L.length 0) 3)) g 3 (idxCells L.length 0) := hgs ▸ Blk.new w1 _ _
    have hB2 : Below g w1 (w1.alloc (.cells (idxCells L.length 0) 3)) := hgs ▸ (Below.refl _ w1).alloc (Nat.le_refl _) _
    have HG := Lib.hid hG
    have HB2 := Lib.hid hB2
    clear hG hB2 qm
    generalize w1.alloc (.cells (idxCells L.length 0) 3) = w2 at *
    go_loopw [19] (fun vi wr => ∃ i : Nat, i ≤ L.length ∧ vi = .int .i64 i ∧ Blk wr g 3 (idxCells L.length i) ∧ Below g w1 wr) (fun vi _ => (L.length - intOf vi).toNat)
    case atStart => exact ⟨0, Nat.zero_le _, rfl, HG.out, HB2.out⟩
    case round =>
      obtain ⟨i, hi, rfl, hbk, hbel⟩ := hrel
      by_cases hlt : i < L.length
      · have d1 : decide ((i : Int) < L.length) = true := by simp; omega
        have t1 : (0 : Int) ≤ (i : Int) := by omega
        have t2 : (i : Int) < (L.length : Int) := by omega
        obtain ⟨u, y0⟩ : ∃ u, wr.cell? ⟨g, i, none⟩ = some u := ⟨_, by rw [hbk.cell]; simp only [idxCells, List.getElem?_toArray, List.getElem?_map, List.getElem?_range hlt]; rfl⟩
        have f0 := hbk.frozen i
        have hset := hbk.set_ i (.int .i64 i)
        rw [idx_set] at hset
        have Hset := Lib.hid hset
        have Hbk := Lib.hid hbk
        clear hset hbk
        go_wp2
        go_roundw
        case rel => exact ⟨i + 1, by omega, by go_num, Hset.out, hbel.trans ((Kept.set1 wr g i (.int .i64 i)).below (by have := hbel.size; omega) (fun k hk => by omega))⟩
        case measure => simp only [intOf]; omega
      · obtain rfl : i = L.length := by omega
        have d1 : decide ((L.length : Int) < L.length) = false := by simp
        have hbw : Below w0.heap.size w0 wr := HB1.out.trans (hbel.mono (by have := HB1.out.size; omega))
        have x3 := (hbw.cell (p := ⟨B, 0, none⟩) Hbl.out.lt).trans x0
        have hr0 := idx_row hbk (by omega)
        have HR0 := Lib.hid hr0
        have HBW := Lib.hid hbw
        clear hbk hbel hr0 hbw
        have hls : (rowsOf L).length = L.length := List.length_map _
        obtain ⟨wo, rfl⟩ : ∃ wo : World, wo = wr := ⟨_, rfl⟩
        go_wp2
        go_loopg [8, 5] L.length (fun q v8 v5 wx => q ≤ L.length ∧ ∃ p g8 VA vc, v8 = .pointer (some ⟨g8, 0, none⟩) ∧ Blk wx g8 3 #[.int .i64 ((q : Int) - 1)] ∧ v5 = .slice VA (plc L.length p).length vc ∧ Row .i64 wx VA ((plc L.length p).map fun i : Nat => (i : Int)) ∧ Below w0.heap.size w0 wx ∧ coreP (rowsOf L) c L.length (fun _ => true) = coreP (rowsOf L) c q p)
        case atStart => exact ⟨Nat.le_refl _, fun _ => true, _, _, _, rfl, Blk.new wo _ _, by rw [plc_all, List.length_range], HR0.out.below ((Below.refl _ wo).alloc (Nat.le_refl _) _), HBW.out.alloc HBW.out.size _, rfl⟩
        case round =>
          obtain ⟨hql, p, g8, VA, vc, rfl, hb8, rfl, hrow, hbel, hcore⟩ := hrel
          have hpl := plc_len L.length p
          have y8 := hb8.cell 0
          simp only [List.getElem?_toArray, List.getElem?_cons_zero] at y8
          have Hcore := Lib.hid hcore
          have Hrow := Lib.hid hrow
          have Hbel := Lib.hid hbel
          cases gk with
          | zero =>
            have d1 : decide ((0 : Int) ≤ ((0 : Nat) : Int) - 1) = false := by decide
            clear hcore hrow hbel hb8
            go_wp2
            go_ret
            rw [Hcore.out]
            exact ⟨VA, vc, rfl, Hrow.out, hB ▸ Hb0.out.trans (Hbel.out.mono (by have := Hb0.out.size; omega))⟩
          | succ m =>
            rw [show (((m + 1 : Nat) : Int) - 1) = m by omega] at hb8 y8
            have d1 : decide ((0 : Int) ≤ (m : Int)) = true := by simp
            have KC := clone_plc vc hrow
            have hq := plc_len L.length (fun k => p k && k != m)
            have K3 := fun W VA2 d2 (hb : Below wr.heap.size wr W) (hr : Row .i64 W VA2 ((plc L.length fun k => p k && k != m).map fun i : Nat => (i : Int))) =>
              asks_ok cl cc d2 (Hg.out.below (Hbel.out.trans (hb.mono Hbel.out.size))) (Hc.out.below (Hbel.out.trans (hb.mono Hbel.out.size))) Hm.out hr plc_lt (Hbl.out.below (Hbel.out.trans (hb.mono Hbel.out.size)) Hbl.out.lt) (Hbc.out.below (Hbel.out.trans (hb.mono Hbel.out.size)) Hbc.out.lt)
            simp only [pick_rows] at K3
            have hty := fun r (h : followsM (pickM (rowsOf L) (plc L.length fun k => p k && k != m)) c = r) => (show coreP (rowsOf L) c (m + 1) p = coreP (rowsOf L) c m (if r = true then (fun k => p k && k != m) else p) from by
              cases r with
              | true => rw [if_pos rfl, ← tryP_yes (by rw [hls]; exact h)]; rfl
              | false => rw [if_neg (by simp), ← tryP_no (i := m) (p := p) (by rw [hls]; exact h)]; rw [tryP_no (by rw [hls]; exact h)]; conv => lhs; unfold coreP; rw [tryP_no (by rw [hls]; exact h)])
            have Hty := Lib.hid hty
            clear hty hcore hrow hbel
            cases hr : followsM (pickM (rowsOf L) (plc L.length fun k => p k && k != m)) c with
            | true =>
              have Hr := Lib.hid (Hty.out _ hr)
              rw [if_pos rfl] at Hr
              rw [hr] at K3
              clear hr
              go_wp2_with (first
                | (go_at_call 30; go_loud (with_reducible refine KC.mono ?_); rintro e w3 ⟨v3, rfl, ho3, hb3⟩; have Ho3 := Lib.hid ho3; have HB3 := Lib.hid hb3; clear ho3 hb3)
                | (go_at_call 29; go_loud (refine (delete_any (zs := (plc L.length p).map fun i : Nat => (i : Int)) (lit := (m : Int)) (B := g8) Ho3.out (by rw [List.length_map]; omega) HB3.out.size hb8.lt ((HB3.out.cell (p := ⟨g8, 0, none⟩) hb8.lt).trans y8)).mono ?_); rintro e w4 ⟨v4, rfl, ho4, hb4⟩; rw [woM_plc] at ho4; obtain ⟨VA2, d2, rfl, hr4, _⟩ := own_row ho4 rfl (by rw [List.length_map]; omega); rw [List.length_map]; have HR4 := Lib.hid hr4; have HB4 := Lib.hid (HB3.out.trans hb4); clear ho4 hb4 hr4)
                | (go_at_call 28; go_loud (with_reducible refine (K3 _ VA2 d2 HB4.out HR4.out).mono ?_); rintro e w5 ⟨rfl, hb5⟩; have HB5 := Lib.hid (below_then HB4.out (Nat.le_refl _) hb5); have HR5 := Lib.hid (HR4.out.below hb5); have y9 := ((below_then HB4.out (Nat.le_refl _) hb5).cell (p := ⟨g8, 0, none⟩) hb8.lt).trans y8; clear hb5))
              have HB6 := Lib.hid (Hbel.out.trans (HB5.out.mono Hbel.out.size))
              go_roundg m
              case measure => omega
              case rel => exact ⟨by omega, _, _, VA2, d2, rfl, Blk.new w5 _ _, rfl, HR5.out.below ((Below.refl _ w5).alloc (Nat.le_refl _) _), HB6.out.alloc HB6.out.size _, Hcore.out.trans Hr.out⟩
            | false =>
              have Hr := Lib.hid (Hty.out _ hr)
              rw [if_neg (by simp)] at Hr
              rw [hr] at K3
              clear hr
              go_wp2_with (first
                | (go_at_call 30; go_loud (with_reducible refine KC.mono ?_); rintro e w3 ⟨v3, rfl, ho3, hb3⟩; have Ho3 := Lib.hid ho3; have HB3 := Lib.hid hb3; clear ho3 hb3)
                | (go_at_call 29; go_loud (refine (delete_any (zs := (plc L.length p).map fun i : Nat => (i : Int)) (lit := (m : Int)) (B := g8) Ho3.out (by rw [List.length_map]; omega) HB3.out.size hb8.lt ((HB3.out.cell (p := ⟨g8, 0, none⟩) hb8.lt).trans y8)).mono ?_); rintro e w4 ⟨v4, rfl, ho4, hb4⟩; rw [woM_plc] at ho4; obtain ⟨VA2, d2, rfl, hr4, _⟩ := own_row ho4 rfl (by rw [List.length_map]; omega); rw [List.length_map]; have HR4 := Lib.hid hr4; have HB4 := Lib.hid (HB3.out.trans hb4); clear ho4 hb4 hr4)
                | (go_at_call 28; go_loud (with_reducible refine (K3 _ VA2 d2 HB4.out HR4.out).mono ?_); rintro e w5 ⟨rfl, hb5⟩; have HB5 := Lib.hid (below_then HB4.out (Nat.le_refl _) hb5); have HR5 := Lib.hid (HR4.out.below hb5); have y9 := ((below_then HB4.out (Nat.le_refl _) hb5).cell (p := ⟨g8, 0, none⟩) hb8.lt).trans y8; clear hb5))
              have HB6 := Lib.hid (Hbel.out.trans (HB5.out.mono Hbel.out.size))
              go_roundg m
              case measure => omega
              case rel => exact ⟨by omega, _, _, VA, vc, rfl, Blk.new w5 _ _, rfl, (Hrow.out.below HB5.out).below ((Below.refl _ w5).alloc (Nat.le_refl _) _), HB6.out.alloc HB6.out.size _, Hcore.out.trans Hr.out⟩
  · have hf := Bool.eq_false_iff.2 hf
    have hcm : coreM (rowsOf L) c = [] := by
      unfold coreM
      rw [if_neg (by rw [hf]; simp)]
    rw [hf] at K1
    rw [hcm]
    clear hcm
    go_enter Try.func18, Try.ntmps18
    go_wp2_with (go_at_call 13; go_loud (with_reducible refine K1.mono ?_); rintro e w1 ⟨rfl, hb1⟩; have HB1 := Lib.hid hb1; clear hb1)
    go_ret
    exact ⟨none, 0, rfl, ⟨by simp, .inl rfl⟩, hB ▸ Hb0.out.trans (HB1.out.mono (by have := Hb0.out.size; omega))⟩
end Go.Proofs.Ythnakfdiikidaaa

/- ClauseIdle's walk. -/
import Derived.Test.YtlganicnbcnngaaLaw15
import Derived.Deep.RegionHeld3
namespace Go.Proofs.Ytlganicnbcnngaa
open Go.RowKit Go.Lib

/-- Numbers of one byte, as cells. -/
def c8 (L : List Int) : Array Value := (L.map (Value.int .i8)).toArray
theorem c8_set (L : List Int) (i : Nat) (v : Int) : (c8 L).setIfInBounds i (.int .i8 v) = c8 (L.set i v) := by
  unfold c8
  rw [List.setIfInBounds_toArray, List.map_set]
theorem c8_get (L : List Int) (i : Nat) : (c8 L)[i]? = L[i]?.map (Value.int .i8) := by
  unfold c8
  rw [List.getElem?_toArray, List.getElem?_map]
theorem blk8_cell {w : World} {g i : Nat} {L : List Int} (h : Blk w g 26 (c8 L)) (hi : i < L.length) : w.cell? ⟨g, i, none⟩ = some (.int .i8 L[i]) := by
  rw [h.cell i, c8_get, List.getElem?_eq_getElem hi]; rfl
theorem blk8_set {w : World} {g : Nat} {L : List Int} (h : Blk w g 26 (c8 L)) (i : Nat) (v : Int) : Blk (w.setCell ⟨g, i, none⟩ (.int .i8 v)) g 26 (c8 (L.set i v)) := by
  rw [← c8_set]
  exact h.set_ i _
theorem blk8_row {w : World} {g : Nat} {L : List Int} (h : Blk w g 26 (c8 L)) (hl : L.length ≤ 1000000) : Row .i8 w (some ⟨g, 0, none⟩) L := by
  refine ⟨hl, .inr ⟨g, 0, rfl, h.lt, fun i hi => ?_⟩⟩
  rw [Nat.zero_add]
  exact blk8_cell h hi
theorem two_set {L : List Int} {k : Nat} (h : Two L k) (hk : k < 60) {v : Int} (hv : v = 1 ∨ v = 2) : Two (L.set k v) (k + 1) := by
  refine ⟨by rw [List.length_set]; exact h.1, fun i hi => ?_⟩
  by_cases e : i = k
  · subst e
    rw [List.getElem?_set_self (by rw [h.1]; exact hk)]
    rcases hv with rfl | rfl
    · exact .inl rfl
    · exact .inr rfl
  · rw [List.getElem?_set_ne (by omega)]
    exact h.2 i (by omega)
theorem two_again {L : List Int} {k : Nat} (h : Two L (k + 1)) {v : Int} (hv : v = 1 ∨ v = 2) : Two (L.set k v) (k + 1) := by
  refine ⟨by rw [List.length_set]; exact h.1, fun i hi => ?_⟩
  by_cases e : i = k
  · subst e
    rcases Nat.lt_or_ge i L.length with hl | hl
    · rw [List.getElem?_set_self hl]
      rcases hv with rfl | rfl
      · exact .inl rfl
      · exact .inr rfl
    · have := h.2 i hi
      rw [List.getElem?_eq_none hl] at this
      rcases this with h | h <;> cases h
  · rw [List.getElem?_set_ne (by omega)]
    exact h.2 i hi
theorem int8_info : (Try.prog.info? 26).map (fun i => (i.zero, i.size, i.bytes)) = some (some (.int .i8 0), 1, 1) := by kernel_rfl
def zeros60 : List Int := List.replicate 60 0
theorem two_zeros : Two zeros60 0 := ⟨by unfold zeros60; simp, fun i hi => by omega⟩
theorem make60 (w : World) : (Instr.makeSlice 25 (.int .i64 60) (.int .i64 60)).run Try.prog w = .ok (.slice (some ⟨w.heap.size, 0, none⟩) 60 60) (w.alloc (.cells (c8 zeros60) 26)) := by
  obtain ⟨i0, hi, hz0, hz1, hz2⟩ := info_parts int8_info
  have h := run_make_rowN (P := Try.prog) 25 26 i0 (.int .i8 0) Try.underlying25 hi hz0 .i64 .i64 60 60 (Nat.le_refl _) (by rw [hz2]; decide) (by decide) w
  refine Eq.trans h ?_
  rw [hz1]
  have e : madeCells (Value.int .i8 0).cells (60 * 1) = c8 zeros60 := by
    show madeCells #[Value.int .i8 0] 60 = _
    rw [made_one]
    unfold c8 zeros60
    rw [List.map_replicate]
  rw [e]
/-- The bit of a place. -/
def bitOf (l1 : Nat) (B : Nat → Bool) (i : Nat) : Bool := decide (i < l1) && B i

set_option maxRecDepth 100000 in
set_option maxHeartbeats 2000000 in
theorem clauseIdle_walk (A0 : Option Addr) (l0 c0 : Nat) (z0 : List Int) (A1 : Option Addr) (l1 c1 : Nat) (B1 : Nat → Bool) (w : World) (w0 : IsRow .i64 w A0 l0 c0 z0) (w1 : IsBools w A1 l1 c1 B1) :
    Calls Try.prog 3 #[.slice A0 l0 c0, .slice A1 l1 c1] w fun e w' => e = .returned (.bool true) ∧ Below w.heap.size w w' := by
  have hl0 : l0 ≤ maxLen := by
    rcases w0 with ⟨_, rfl, _⟩ | ⟨_, _, h1, h2, _⟩
    · exact Nat.zero_le _
    · omega
  have hl1 : l1 ≤ maxLen := by
    rcases w1 with ⟨_, rfl, _⟩ | ⟨_, _, h1, h2, _⟩
    · exact Nat.zero_le _
    · omega
  unfold maxLen at hl0 hl1
  by_cases h60 : 60 < l0
  · have d1 : decide ((60 : Int) < (l0 : Int)) = true := by simp; omega
    clear w0 w1
    go_enter Try.func3, Try.ntmps3
    go_wp2_with (go_at_call 7; refine (wakes_ok _).mono ?_; rintro e w2 ⟨rfl, b2⟩)
    go_ret
    exact ⟨rfl, b2⟩
  have d1 : decide ((60 : Int) < (l0 : Int)) = false := by simp; omega
  obtain ⟨zs, rfl, hrow, hnil, hc0, -, hwf⟩ := w0.row (by omega)
  have hm : ∀ x ∈ zs, x ≤ 9223372036854775807 := fun x hx => wf_le (hwf x hx)
  have Hrow := Lib.hid hrow
  have Hm := Lib.hid hm
  have W1 := Lib.hid w1
  have hmk := make60
  clear w0 w1 hrow hwf hm hnil hc0 z0
  go_enter Try.func3, Try.ntmps3
  go_wp2
  go_loopw [22] (fun vi wr => ∃ (k : Nat) (V A : List Int), k ≤ 60 ∧ vi = .int .i64 k ∧ Blk wr w.heap.size 26 (c8 V) ∧ Blk wr (w.heap.size + 1) 26 (c8 A) ∧ Two V k ∧ Two A k ∧ Below w.heap.size w wr) (fun vi _ => (60 - intOf vi).toNat)
  case atStart =>
    exact ⟨0, zeros60, zeros60, Nat.zero_le _, rfl, (Blk.new w _ _).alloc _, Blk.new_at (by simp) _ _, two_zeros, two_zeros, ((Below.refl _ w).alloc (Nat.le_refl _) _).alloc (by simp) _⟩
  case round =>
    obtain ⟨k, V, A, hk, rfl, hV, hA, hV2, hA2, hbel⟩ := hrel
    by_cases hlt : k < 60
    · have y0 := blk8_cell hV (show k < V.length by rw [hV2.1]; exact hlt)
      have f0 := hV.frozen k
      have y1 := blk8_cell hA (show k < A.length by rw [hA2.1]; exact hlt)
      have f1 := hA.frozen k
      generalize V[k]'(by rw [hV2.1]; exact hlt) = v0 at y0
      generalize A[k]'(by rw [hA2.1]; exact hlt) = v1 at y1
      have HV := Lib.hid hV
      have HA := Lib.hid hA
      have HV2 := Lib.hid hV2
      have HA2 := Lib.hid hA2
      have HB := Lib.hid hbel
      clear hV hA hV2 hA2
      have t1 : (k : Int) < 60 := by omega
      have t2 : (0 : Int) ≤ (k : Int) := by omega
      have cl1 : ∀ (u v : Int), (u = 1 ∨ u = 2) → (v = 1 ∨ v = 2) → ∀ W2 : World, W2 = (wr.setCell ⟨w.heap.size, k, none⟩ (.int .i8 u)).setCell ⟨w.heap.size + 1, k, none⟩ (.int .i8 v) → Blk W2 w.heap.size 26 (c8 (V.set k u)) ∧ Blk W2 (w.heap.size + 1) 26 (c8 (A.set k v)) ∧ Two (V.set k u) (k + 1) ∧ Two (A.set k v) (k + 1) ∧ Below w.heap.size w W2 := by
        intro u v hu hv W2 e
        subst e
        exact ⟨(blk8_set HV.out k u).far (by simp) _, blk8_set (HA.out.far (by simp) _) k v, two_set HV2.out hlt hu, two_set HA2.out hlt hv, (HB.out.setCell (Nat.le_refl _) _).setCell (Nat.le_succ _) _⟩
      have Cl1 := Lib.hid cl1
      clear cl1
      by_cases hb1 : k < l1
      · have d2 : decide ((k : Int) < (l1 : Int)) = true := by simp; exact hb1
        obtain ⟨x, rfl, hz⟩ : ∃ x, A1 = some x ∧ w.cell? (x.add k) = some (.bool (B1 k)) := by
          rcases W1.out with ⟨_, h, _⟩ | ⟨x, hx, h1, _, h3⟩
          · omega
          · exact ⟨x, hx, h3 k (by omega)⟩
        have y2 : ((wr.setCell ⟨w.heap.size, k, none⟩ (.int .i8 2)).setCell ⟨w.heap.size + 1, k, none⟩ (.int .i8 2)).cell? (x.add k) = some (.bool (B1 k)) := (((hbel.setCell (Nat.le_refl _) _).setCell (Nat.le_succ _) _).cell (World.block_lt_of_cell? _ _ hz)).trans hz
        have hxb : x.block < w.heap.size := by have := World.block_lt_of_cell? _ _ hz; rwa [block_of_add] at this
        have t3 : (k : Int) < (l1 : Int) := by omega
        clear hz hbel
        cases hB : B1 k with
        | true =>
          rw [hB] at y2
          clear hB
          go_wp2
          go_roundw
          case rel =>
            obtain ⟨q1, q2, q3, q4, q5⟩ := Cl1.out 2 2 (.inr rfl) (.inr rfl) _ rfl
            exact ⟨k + 1, _, _, by omega, by go_num, (blk8_set q1 k 1).far (by simp) _, blk8_set (q2.far (by simp) _) k 1, two_again q3 (.inl rfl), two_again q4 (.inl rfl), (q5.setCell (Nat.le_refl _) _).setCell (Nat.le_succ _) _⟩
          case measure => simp only [intOf]; omega
        | false =>
          rw [hB] at y2
          clear hB
          go_wp2
          go_roundw
          case rel => exact ⟨k + 1, _, _, by omega, by go_num, Cl1.out 2 2 (.inr rfl) (.inr rfl) _ rfl⟩
          case measure => simp only [intOf]; omega
      · have d2 : decide ((k : Int) < (l1 : Int)) = false := by simp; omega
        go_wp2
        go_roundw
        case rel => exact ⟨k + 1, _, _, by omega, by go_num, Cl1.out 2 2 (.inr rfl) (.inr rfl) _ rfl⟩
        case measure => simp only [intOf]; omega
    · obtain rfl : k = 60 := by omega
      have HV := Lib.hid hV
      have HV2 := Lib.hid hV2
      have HA := Lib.hid hA
      have HA2 := Lib.hid hA2
      have HB := Lib.hid hbel
      clear hV hV2 hA hA2 hbel
      have hlen : zs.length ≤ 60 := by omega
      clear h60 hl0 hk hlt
      go_wp2
      go_loopw [50] (fun vi wy => ∃ k : Nat, k ≤ zs.length ∧ vi = .int .i64 k ∧ Blk wy w.heap.size 26 (c8 V) ∧ Blk wy (w.heap.size + 1) 26 (c8 ((zs.take k).foldl against A)) ∧ (∀ x ∈ zs.take k, 0 ≤ x ∧ x < 120) ∧ Below w.heap.size w wy) (fun vi _ => (zs.length - intOf vi).toNat)
      case atStart => exact ⟨0, Nat.zero_le _, rfl, HV.out, HA.out, (fun x hx => by cases hx), HB.out⟩
      case round =>
        obtain ⟨k, hk, rfl, hV, hA, hin, hbel⟩ := hrel
        by_cases hlt : k < zs.length
        · have d2 : decide ((k : Int) < (zs.length : Int)) = true := by simp; omega
          have e0 : (zs.take (k + 1)).foldl against A = against ((zs.take k).foldl against A) zs[k] := by rw [List.take_succ_eq_append_getElem hlt, List.foldl_append]; rfl
          have hl2 : ((zs.take k).foldl against A).length = 60 := by rw [against_len]; exact HA2.out.1
          have hin1 : 0 ≤ zs[k] → zs[k] < 120 → ∀ x ∈ zs.take (k + 1), 0 ≤ x ∧ x < 120 := by
            intro g1 g2 x hx
            rw [List.take_succ_eq_append_getElem hlt] at hx
            rcases List.mem_append.1 hx with hx | hx
            · exact hin x hx
            · rw [List.mem_singleton.1 hx]
              exact ⟨g1, g2⟩
          obtain ⟨b, off, rfl, hb, hcell⟩ := Hrow.out.at_.resolve_left (by omega)
          have y0 := (hbel.cell (p := ⟨b, off + k, none⟩) hb).trans (hcell k hlt)
          have Hin1 := Lib.hid hin1
          have E0 := Lib.hid e0
          have HV1 := Lib.hid hV
          have HA1 := Lib.hid hA
          have HB1 := Lib.hid hbel
          have Hl2 := Lib.hid hl2
          clear hcell hin hin1 e0 hV hA hbel hl2
          generalize zs[k] = x at *
          generalize (zs.take k).foldl against A = A2 at *
          by_cases g1 : x < 0
          · have d3 : decide (x < (0 : Int)) = true := decide_eq_true g1
            clear g1
            go_wp2_with (go_at_call 7; refine (wakes_ok _).mono ?_; rintro e w2 ⟨rfl, b2⟩)
            go_ret
            exact ⟨rfl, below_then HB1.out (Nat.le_refl _) b2⟩
          have d3 : decide (x < (0 : Int)) = false := decide_eq_false g1
          by_cases g2 : 120 ≤ x
          · have d4 : decide ((120 : Int) ≤ x) = true := decide_eq_true g2
            clear g1 g2
            go_wp2_with (go_at_call 7; refine (wakes_ok _).mono ?_; rintro e w2 ⟨rfl, b2⟩)
            go_ret
            exact ⟨rfl, below_then HB1.out (Nat.le_refl _) b2⟩
          have d4 : decide ((120 : Int) ≤ x) = false := decide_eq_false g2
          obtain ⟨q, hq⟩ : ∃ q : Nat, x / 2 = q := ⟨(x / 2).toNat, by omega⟩
          have hq60 : q < 60 := by omega
          have z1 := blk8_cell HA1.out (show q < A2.length by rw [Hl2.out]; exact hq60)
          have f1 := HA1.out.frozen q
          generalize A2[q]'(by rw [Hl2.out]; exact hq60) = v1 at z1
          have hand : bits .and .i64 x 1 = x % 2 := i64_and_one x (by omega) (by omega)
          have t1 : (q : Int) < 60 := by omega
          have t2 : (0 : Int) ≤ (q : Int) := by omega
          have hqn : (x / 2).toNat = q := by omega
          have Hqn := Lib.hid hqn
          have hin2 := Lib.hid (Hin1.out (by omega) (by omega))
          clear g1 g2 hqn
          by_cases hp : x % 2 = 1
          · rw [hp] at hand
            have e1 : against A2 x = (A2.set q 2).set q 1 := by unfold against; rw [Hqn.out, if_pos hp, List.set_set]
            have E1 := Lib.hid e1
            clear e1 hp
            go_wp2
            go_roundw
            case rel => exact ⟨k + 1, by omega, by go_num, (HV1.out.far (by simp) _).far (by simp) _, by rw [E0.out, E1.out]; exact blk8_set (blk8_set HA1.out q 2) q 1, hin2.out, (HB1.out.setCell (Nat.le_succ _) _).setCell (Nat.le_succ _) _⟩
            case measure => simp only [intOf]; omega
          · have hp0 : x % 2 = 0 := by omega
            rw [hp0] at hand
            have e1 : against A2 x = A2.set q 2 := by unfold against; rw [Hqn.out, if_neg hp]
            have E1 := Lib.hid e1
            clear e1 hp hp0
            go_wp2
            go_roundw
            case rel => exact ⟨k + 1, by omega, by go_num, HV1.out.far (by simp) _, by rw [E0.out, E1.out]; exact blk8_set HA1.out q 2, hin2.out, HB1.out.setCell (Nat.le_succ _) _⟩
            case measure => simp only [intOf]; omega
        · obtain rfl : k = zs.length := by omega
          have d2 : decide ((zs.length : Int) < (zs.length : Int)) = false := by simp
          rw [List.take_length] at hin hA
          have hl2 : (zs.foldl against A).length = 60 := by rw [against_len]; exact HA2.out.1
          have hVR := Lib.hid (blk8_row hV (by rw [HV2.out.1]; decide))
          have hAR := Lib.hid (blk8_row hA (by rw [hl2]; decide))
          have hZR := Lib.hid (Hrow.out.below hbel)
          have HB1 := Lib.hid hbel
          have e1 : V.length = 60 := HV2.out.1
          have E1 := Lib.hid e1
          have E2 := Lib.hid hl2
          clear hk hlt hbel hl2 e1 hV hA
          cases hid : zs.any (idleP zs) with
          | true =>
            have h1 := idle_true hin HV2.out hid
            have K1 := state_ok c0 60 hZR.out hVR.out Hm.out
            have K2 := state_ok c0 60 hZR.out hAR.out Hm.out
            have K3 := idle_ok c0 hZR.out Hm.out
            rw [E1.out] at K1
            rw [E2.out] at K2
            rw [hid] at K3
            generalize stM V zs 0 (-1) = s1 at h1 K1
            generalize stM (zs.foldl against A) zs 0 (-1) = s2 at K2
            obtain ⟨p1, p2⟩ := s1
            obtain ⟨r1, r2⟩ := s2
            simp only at h1 K1 K2
            subst h1
            clear hid hin
            go_wp2_with (first
              | (go_at_call 8; (with_reducible refine K1.mono ?_); rintro e w2 ⟨rfl, rfl⟩)
              | (go_at_call 8; (with_reducible refine K2.mono ?_); rintro e w2 ⟨rfl, rfl⟩)
              | (go_at_call 9; (with_reducible refine K3.mono ?_); rintro e w3 ⟨rfl, hb3⟩; have HB3 := Lib.hid (below_then HB1.out (Nat.le_refl _) hb3); clear hb3)
              | (go_at_call 7; refine (wakes_ok _).mono ?_; rintro e w4 ⟨rfl, hb4⟩; have HB4 := Lib.hid (below_then HB3.out (Nat.le_refl _) hb4); clear hb4))
            go_ret
            exact ⟨rfl, HB4.out⟩
          | false =>
            have h2 := against_false hin HA2.out.1 hid
            have K1 := state_ok c0 60 hZR.out hVR.out Hm.out
            have K2 := state_ok c0 60 hZR.out hAR.out Hm.out
            have K3 := idle_ok c0 hZR.out Hm.out
            rw [E1.out] at K1
            rw [E2.out, h2] at K2
            rw [hid] at K3
            generalize stM V zs 0 (-1) = s1 at K1
            obtain ⟨p1, p2⟩ := s1
            simp only at K1 K2
            clear hid hin h2
            go_wp2_with (first
              | (go_at_call 8; (with_reducible refine K1.mono ?_); rintro e w2 ⟨rfl, rfl⟩)
              | (go_at_call 8; (with_reducible refine K2.mono ?_); rintro e w2 ⟨rfl, rfl⟩)
              | (go_at_call 9; (with_reducible refine K3.mono ?_); rintro e w3 ⟨rfl, hb3⟩; have HB3 := Lib.hid (below_then HB1.out (Nat.le_refl _) hb3); clear hb3)
              | (go_at_call 7; refine (wakes_ok _).mono ?_; rintro e w4 ⟨rfl, hb4⟩; have HB4 := Lib.hid (below_then HB3.out (Nat.le_refl _) hb4); clear hb4))
            go_ret
            exact ⟨rfl, HB4.out⟩
end Go.Proofs.Ytlganicnbcnngaa

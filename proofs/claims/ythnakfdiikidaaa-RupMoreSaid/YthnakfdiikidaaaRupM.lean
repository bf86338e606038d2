/- The reference's Core. -/
import Derived.Test.YthnakfdiikidaaaRupL
namespace Go.Proofs.Ythnakfdiikidaaa
open Go.RowKit Go.Lib

theorem bool_info17 : (Try.prog.info? 4).map (fun i => (i.zero, i.size, i.bytes)) = some (some (.bool false), 1, 1) := by kernel_rfl
/-- A row of booleans. -/
def bitCells (n : Nat) (p : Nat → Bool) : Array Value := ((List.range n).map fun k => Value.bool (p k)).toArray
theorem bit_congr {n : Nat} {p q : Nat → Bool} (h : ∀ k, k < n → p k = q k) : bitCells n p = bitCells n q := by
  unfold bitCells
  congr 1
  refine List.map_congr_left fun k hk => ?_
  rw [h k (List.mem_range.1 hk)]
theorem bit_get {n : Nat} (p : Nat → Bool) {k : Nat} (h : k < n) : (bitCells n p)[k]? = some (.bool (p k)) := by
  unfold bitCells
  rw [List.getElem?_toArray, List.getElem?_map, List.getElem?_range h]
  rfl
theorem bit_set (n : Nat) (p : Nat → Bool) (i : Nat) (b : Bool) : (bitCells n p).setIfInBounds i (.bool b) = bitCells n (fun k => if k = i then b else p k) := by
  apply Array.ext
  · simp [bitCells]
  · intro j h1 h2
    rw [Array.getElem_setIfInBounds (by simpa using h1)]
    simp only [bitCells, List.getElem_toArray, List.getElem_map, List.getElem_range]
    by_cases h : i = j
    · subst h; simp
    · rw [if_neg h, if_neg (fun e => h e.symm)]
theorem make_bits (n : Nat) (hn : n ≤ 1000000) (w : World) : (Instr.makeSlice 23 (.int .i64 (n : Int)) (.int .i64 (n : Int))).run Try.prog w = .ok (.slice (some ⟨w.heap.size, 0, none⟩) n n) (w.alloc (.cells (bitCells n fun _ => false) 4)) := by
  obtain ⟨i0, hi, hz0, hz1, hz2⟩ := info_parts bool_info17
  have h := run_make_rowN (P := Try.prog) 23 4 i0 (.bool false) Try.underlying23 hi hz0 .i64 .i64 n n (Nat.le_refl _) (by rw [hz2]; omega) (by omega) w
  rw [hz1, Nat.mul_one] at h
  have : madeCells #[Value.bool false] n = bitCells n fun _ => false := by
    rw [made_one]
    unfold bitCells
    congr 1
    refine List.ext_getElem (by simp) fun i h1 h2 => ?_
    simp
  rw [h, ← this]
  rfl
theorem plc_succ (n : Nat) (p : Nat → Bool) : plc (n + 1) p = plc n p ++ (if p n = true then [n] else []) := by
  unfold plc
  rw [List.range_succ, List.filter_append]
  congr 1
  by_cases h : p n = true <;> simp [h]
theorem pickR_succ (L : List (Option Addr × Nat × List Int)) (p : Nat → Bool) {k : Nat} (hk : k < L.length) : pickR L (plc (k + 1) p) = pickR L (plc k p) ++ (if p k = true then [L[k]] else []) := by
  rw [plc_succ]
  unfold pickR
  rw [List.map_append]
  congr 1
  cases p k with
  | true => simp [List.getD_eq_getElem?_getD, List.getElem?_eq_getElem hk]
  | false => simp

set_option maxHeartbeats 2000000 in
theorem core17_ok {w : World} {LA CA : Option Addr} {L : List (Option Addr × Nat × List Int)} {c : List Int} (cl cc : Nat) (hg : Grid w LA L) (hL : L.length ≤ 1000) (he : ∀ r ∈ L, r.2.2.length ≤ 1000) (hmr : ∀ r ∈ L, ∀ x ∈ r.2.2, x ≤ 9223372036854775807) (hc : Row .i64 w CA c) (hm : ∀ x ∈ c, x ≤ 9223372036854775807) :
    Calls Try.prog 19 #[.slice LA L.length cl, .slice CA c.length cc] w fun e w' => ∃ VA d, e = .returned (.slice VA (coreM (rowsOf L) c).length d) ∧ Row .i64 w' VA ((coreM (rowsOf L) c).map fun i : Nat => (i : Int)) ∧ Below w.heap.size w w' := by
  have K1 := follows17_ok cl cc hg hL he hmr hc hm
  have hcl := hc.len
  have hls : (rowsOf L).length = L.length := List.length_map _
  have Hg := Lib.hid hg
  have He := Lib.hid he
  have Hmr := Lib.hid hmr
  have Hc := Lib.hid hc
  have Hm := Lib.hid hm
  clear hg hc hm he hmr
  by_cases hf : followsM (rowsOf L) c = true
  · have hcm : coreM (rowsOf L) c = plc L.length (coreP (rowsOf L) c L.length fun _ => true) := by
      unfold coreM
      rw [if_pos hf, hls]
    rw [hf] at K1
    rw [hcm]
    clear hcm
    go_enter Try.func19, Try.ntmps19
    go_wp2_with (go_at_call 14; go_loud (with_reducible refine K1.mono ?_); rintro e w1 ⟨rfl, hb1⟩; have HB1 := Lib.hid hb1; have qm := make_bits L.length (by omega) w1; clear hb1)
    obtain ⟨g, hgs⟩ : ∃ g, w1.heap.size = g := ⟨_, rfl⟩
    rw [hgs]
    have hG : Blk (w1.alloc (.cells (bitCells L.length fun _ => false) 4)) g 4 (bitCells L.length fun _ => false) := hgs ▸ Blk.new w1 _ _
    have hB2 : Below g w1 (w1.alloc (.cells (bitCells L.length fun _ => false) 4)) := hgs ▸ (Below.refl _ w1).alloc (Nat.le_refl _) _
    have HG := Lib.hid hG
    have HB2 := Lib.hid hB2
    clear hG hB2 qm
    generalize w1.alloc (.cells (bitCells L.length fun _ => false) 4) = w2 at *
    go_loopw [6] (fun vi wr => ∃ i : Nat, i ≤ L.length ∧ vi = .int .i64 i ∧ Blk wr g 4 (bitCells L.length fun k => decide (k < i)) ∧ Below g w1 wr) (fun vi _ => (L.length - intOf vi).toNat)
    case atStart => exact ⟨0, Nat.zero_le _, rfl, by rw [← bit_congr (p := fun _ => false) (fun k hk => by simp)]; exact HG.out, HB2.out⟩
    case round =>
      obtain ⟨i, hi, rfl, hbk, hbel⟩ := hrel
      by_cases hlt : i < L.length
      · have d1 : decide ((i : Int) < L.length) = true := by simp; omega
        have t1 : (0 : Int) ≤ (i : Int) := by omega
        have t2 : (i : Int) < (L.length : Int) := by omega
        have y0 : wr.cell? ⟨g, i, none⟩ = some (.bool (decide (i < i))) := by rw [hbk.cell, bit_get _ hlt]
        have f0 := hbk.frozen i
        have hset := hbk.set_ i (.bool true)
        rw [bit_set, bit_congr (q := fun k => decide (k < i + 1)) (fun k hk => by
          by_cases h : k = i
          · subst h; simp
          · rw [if_neg h]; congr 1; exact propext ⟨fun h2 => by omega, fun h2 => by omega⟩)] at hset
        have Hset := Lib.hid hset
        clear hset hbk
        go_wp2
        go_roundw
        case rel => exact ⟨i + 1, by omega, by go_num, Hset.out, hbel.trans ((Kept.set1 wr g i (.bool true)).below (by have := hbel.size; omega) (fun k hk => by omega))⟩
        case measure => simp only [intOf]; omega
      · obtain rfl : i = L.length := by omega
        have d1 : decide ((L.length : Int) < L.length) = false := by simp
        rw [bit_congr (q := fun _ => true) (fun k hk => by simpa using hk)] at hbk
        have HK := Lib.hid hbk
        have HBW := Lib.hid hbel
        clear hbk hbel
        obtain ⟨wo, rfl⟩ : ∃ wo : World, wo = wr := ⟨_, rfl⟩
        go_wp2
        go_loopg [7] L.length (fun q v7 wx => q ≤ L.length ∧ v7 = .int .i64 ((q : Int) - 1) ∧ ∃ p, Blk wx g 4 (bitCells L.length p) ∧ (∀ k, k < q → p k = true) ∧ Below g w1 wx ∧ coreP (rowsOf L) c L.length (fun _ => true) = coreP (rowsOf L) c q p)
        case atStart => exact ⟨Nat.le_refl _, by go_num, fun _ => true, HK.out, fun _ _ => rfl, HBW.out, rfl⟩
        case round =>
          obtain ⟨hql, rfl, p, hbk, hall, hbel, hcore⟩ := hrel
          have Hcore := Lib.hid hcore
          have Hbel := Lib.hid hbel
          have Hall := Lib.hid hall
          cases gk with
          | zero =>
            have d2 : decide ((0 : Int) ≤ ((0 : Nat) : Int) - 1) = false := by decide
            have Hbk := Lib.hid hbk
            clear hcore hbel hbk hall
            obtain ⟨wp, rfl⟩ : ∃ wp : World, wp = wr := ⟨_, rfl⟩
            obtain ⟨i0, hi0, hz0, hz1, hz2⟩ := info_parts int_info
            go_wp2
            go_loopw [11, 10] (fun v11 v10 wx => ∃ k : Nat, k ≤ L.length ∧ v11 = .int .i64 k ∧ wx.ownsRow wp.heap.size 3 1 v10 (plc k p).length (((plc k p).map fun i : Nat => (i : Int)).map (Value.int .i64)) ∧ Below wp.heap.size wp wx) (fun v11 _ _ => (L.length - intOf v11).toNat)
            case atStart => exact ⟨0, Nat.zero_le _, rfl, World.ownsRow_nil _ _ _ _, Below.refl _ _⟩
            case round =>
              obtain ⟨k, hk, rfl, hown, hby⟩ := hrel
              have Hown := Lib.hid hown
              have Hby := Lib.hid hby
              have hpl := plc_len k p
              by_cases hlt : k < L.length
              · have d3 : decide ((k : Int) < L.length) = true := by simp; omega
                have t1 : (0 : Int) ≤ (k : Int) := by omega
                have t2 : (k : Int) < (L.length : Int) := by omega
                have y1 : wr.cell? ⟨g, k, none⟩ = some (.bool (p k)) := by rw [(Hbk.out.below hby Hbk.out.lt).cell, bit_get _ hlt]
                have hsn := plc_succ k p
                cases hpk : p k with
                | true =>
                  rw [hpk] at y1 hsn
                  rw [if_pos rfl] at hsn
                  have Hsn := Lib.hid hsn
                  have X1 := Lib.hid (show ((plc k p).length + 1) * 8 ≤ 140737488355328 by omega)
                  have Hone : Hid (∀ u ∈ [Value.int .i64 (k : Int)], u.oneCell' = true) := Lib.hid (by intro u hu; rw [List.mem_singleton.1 hu]; rfl)
                  clear hsn hown hby hpl
                  generalize plc k p = ps at *
                  go_wp2_with (at_builtin; go_loud (refine list_push _ rfl (.tmp 72) (.tmp 74) 28 rfl wp.heap.size 3 i0 (.int .i64 0) 1 8 Try.underlying28 hi0 hz0 hz1 hz2 rfl (by decide) _ ps.length _ rfl (Hown.out.alloc _) wr.heap.size #[.int .i64 (k : Int)] rfl (Blk.new wr _ _) rfl Hone.out X1.out (by decide) Hby.out.size ?_); intro ga ca w9 ho9 hg9 _ _; have HO9 := Lib.hid ho9; have HB9 := Lib.hid (Below.grown (Hby.out.alloc Hby.out.size _) hg9 (Nat.le_trans Hby.out.size (by simp)) (own_base_le Hown.out)); clear ho9 hg9)
                  go_roundw
                  case rel => exact ⟨k + 1, by omega, by go_num, by have h9 := HO9.out; rw [List.map_map] at h9; rw [Hsn.out, List.length_append, List.map_append]; exact h9, HB9.out⟩
                  case measure => simp only [intOf]; omega
                | false =>
                  rw [hpk] at y1 hsn
                  rw [if_neg (by simp), List.append_nil] at hsn
                  have Hsn := Lib.hid hsn
                  clear hsn hown hby hpl
                  go_wp2
                  go_roundw
                  case rel => exact ⟨k + 1, by omega, by go_num, by rw [Hsn.out]; exact Hown.out, Hby.out⟩
                  case measure => simp only [intOf]; omega
              · obtain rfl : k = L.length := by omega
                have d3 : decide ((L.length : Int) < L.length) = false := by simp
                obtain ⟨VA, d, rfl, hrow, _⟩ := own_row hown (by rw [List.length_map]) (by rw [List.length_map]; omega)
                have Hrow := Lib.hid hrow
                have HB9 := Lib.hid (HB1.out.trans ((Hbel.out.trans (hby.mono (by have := Hbel.out.size; omega))).mono (by have := HB1.out.size; omega)))
                clear hown hby hrow hpl
                rw [List.length_map]
                go_wp2
                go_ret
                rw [Hcore.out]
                exact ⟨VA, d, rfl, Hrow.out, HB9.out⟩
          | succ m =>
            rw [show (((m + 1 : Nat) : Int) - 1) = m by omega]
            have d2 : decide ((0 : Int) ≤ (m : Int)) = true := by simp
            have hml : m < L.length := by omega
            have t1 : (0 : Int) ≤ (m : Int) := by omega
            have t2 : (m : Int) < (L.length : Int) := by omega
            have y0 : wr.cell? ⟨g, m, none⟩ = some (.bool (p m)) := by rw [hbk.cell, bit_get _ hml]
            have f0 := hbk.frozen m
            have hset := hbk.set_ m (.bool false)
            rw [bit_set, bit_congr (q := fun k => p k && k != m) (fun k hk => by
              by_cases h : k = m
              · subst h; simp
              · rw [if_neg h]; simp [h])] at hset
            have hb3 : Below g w1 (wr.setCell ⟨g, m, none⟩ (.bool false)) := hbel.trans ((Kept.set1 wr g m (.bool false)).below (by have := hbel.size; omega) (fun k hk => by omega))
            have HB3 := Lib.hid hb3
            have Hset := Lib.hid hset
            clear hb3 hset hbk hbel hcore hall
            go_wp2
            clear y0 f0
            generalize wr.setCell ⟨g, m, none⟩ (.bool false) = w3 at *
            go_loopw [9, 8] (fun v9 v8 wx => ∃ k : Nat, k ≤ L.length ∧ v9 = .int .i64 k ∧ Gath wx w3.heap.size v8 (pickR L (plc k fun k => p k && k != m)) ∧ Below w3.heap.size w3 wx) (fun v9 _ _ => (L.length - intOf v9).toNat)
            case atStart => exact ⟨0, Nat.zero_le _, rfl, .inl (World.ownsRow_nil _ _ _ _), Below.refl _ _⟩
            case round =>
              obtain ⟨k, hk, rfl, hga, hby⟩ := hrel
              have Hga := Lib.hid hga
              have Hby := Lib.hid hby
              have hb9 := Hset.out.below hby Hset.out.lt
              have hgw : Below w.heap.size w wr := HB1.out.trans ((HB3.out.trans (hby.mono (by have := HB3.out.size; omega))).mono (by have := HB1.out.size; omega))
              have hpl := plc_len k (fun k => p k && k != m)
              by_cases hlt : k < L.length
              · have d3 : decide ((k : Int) < L.length) = true := by simp; omega
                have t3 : (0 : Int) ≤ (k : Int) := by omega
                have t4 : (k : Int) < (L.length : Int) := by omega
                have y1 : wr.cell? ⟨g, k, none⟩ = some (.bool (p k && k != m)) := by rw [hb9.cell, bit_get _ hlt]
                obtain ⟨gb, goff, hA, hgb, hrow⟩ := (Hg.out.below hgw).at_.resolve_left (by omega)
                subst hA
                have z0 := (hrow k hlt).1
                have hsn := pickR_succ L (fun k => p k && k != m) hlt
                have hpk : (pickR L (plc k fun k => p k && k != m)).length ≤ k := by rw [pickR_len]; exact hpl
                have X2 := Lib.hid (show (pickR L (plc k fun k => p k && k != m)).length + 1 ≤ 1000000 by omega)
                clear hga hby hb9 hgw hpl hrow hpk
                generalize L[k] = sk at *
                generalize pickR L (plc k fun k => p k && k != m) = G at *
                cases hb : (p k && k != m) with
                | true =>
                  rw [hb] at y1
                  simp only [hb, if_true] at hsn
                  have Hsn := Lib.hid hsn
                  clear hsn hb
                  go_wp2_with (at_builtin; go_loud (refine list_gath _ rfl (.tmp 48) (.tmp 53) 22 rfl w3.heap.size _ G rfl (Hga.out.alloc _) sk wr.heap.size rfl (Blk.new wr _ _) Try.underlying22 X2.out (by have := Hby.out.size; simp; omega) ?_); intro v6 w6 hg6 hb6; have HG6 := Lib.hid hg6; have HB6 := Lib.hid ((Hby.out.alloc Hby.out.size _).trans hb6); clear hg6 hb6)
                  go_roundw
                  case rel => exact ⟨k + 1, by omega, by go_num, by rw [Hsn.out]; exact HG6.out, HB6.out⟩
                  case measure => simp only [intOf]; omega
                | false =>
                  rw [hb] at y1
                  simp only [hb] at hsn
                  rw [if_neg (by simp), List.append_nil] at hsn
                  have Hsn := Lib.hid hsn
                  clear hsn hb
                  go_wp2
                  go_roundw
                  case rel => exact ⟨k + 1, by omega, by go_num, by rw [Hsn.out]; exact Hga.out, Hby.out⟩
                  case measure => simp only [intOf]; omega
              · obtain rfl : k = L.length := by omega
                have d3 : decide ((L.length : Int) < L.length) = false := by simp
                have hsub : ∀ r ∈ pickR L (plc L.length fun k => p k && k != m), r ∈ L := pickR_mem plc_lt
                have hpk : (pickR L (plc L.length fun k => p k && k != m)).length ≤ L.length := by rw [pickR_len]; exact hpl
                obtain ⟨AA, ca, rfl, hgr⟩ := hga.grid (by omega) (fun r hr => (Hg.out.below hgw).each r (hsub r hr))
                have K3 := follows17_ok ca cc hgr (by omega) (fun r hr => He.out r (hsub r hr)) (fun r hr => Hmr.out r (hsub r hr)) (Hc.out.below hgw) Hm.out
                rw [pick_rows] at K3
                have hty : coreP (rowsOf L) c (m + 1) p = coreP (rowsOf L) c m (tryP (rowsOf L) c m p) := rfl
                have hbits := fun r (h : followsM (pickM (rowsOf L) (plc L.length fun k => p k && k != m)) c = r) => (show bitCells L.length (fun k => if k = m then !r else (p k && k != m)) = bitCells L.length (tryP (rowsOf L) c m p) from bit_congr fun k hk => by
                  unfold tryP
                  rw [hls, h]
                  by_cases e : k = m
                  · subst e; simp [Hall.out k (Nat.lt_succ_self _)]
                  · have e2 : (k != m) = true := bne_iff_ne.2 e
                    rw [if_neg e, e2, Bool.true_or])
                generalize hr : followsM (pickM (rowsOf L) (plc L.length fun k => p k && k != m)) c = r at *
                have Hbits := Lib.hid (hbits r rfl)
                have Hty := Lib.hid hty
                have Hall2 := Lib.hid (show ∀ k, k < m → tryP (rowsOf L) c m p k = true from fun k hk => by
                  unfold tryP
                  rw [Hall.out k (by omega)]
                  have : (k != m) = true := by simp; omega
                  rw [this]; rfl)
                have hlen := pickR_len L (plc L.length fun k => p k && k != m)
                clear hga hgr hb9 hbits hty hgw hpl hsub hlen hr
                generalize pickR L (plc L.length fun k => p k && k != m) = G at *
                go_wp2_with (go_at_call 14; go_loud (with_reducible refine K3.mono ?_); rintro e w5 ⟨rfl, hb5⟩; have hB5 : Below w3.heap.size w3 w5 := below_then Hby.out (Nat.le_refl _) hb5; have hb9 := Hset.out.below hB5 Hset.out.lt; have y2 : w5.cell? ⟨g, m, none⟩ = some (.bool (p m && m != m)) := (hb9.cell m).trans (bit_get _ hml); have f2 := hb9.frozen m; have hs9 := hb9.set_ m (.bool (!r)); rw [bit_set, Hbits.out] at hs9; have HS9 := Lib.hid hs9; have HB5 := Lib.hid hB5; clear hb5 hB5 hb9 hs9)
                have HB6 := Lib.hid ((HB3.out.trans (HB5.out.mono (by have := HB3.out.size; omega))).trans ((Kept.set1 w5 g m (.bool (!r))).below (by have := HB3.out.size; have := HB5.out.size; omega) (fun k hk => by omega)))
                go_roundg m
                case measure => omega
                case rel => exact ⟨by omega, by go_num, _, HS9.out, Hall2.out, HB6.out, Hcore.out.trans Hty.out⟩
  · have hf := Bool.eq_false_iff.2 hf
    have hcm : coreM (rowsOf L) c = [] := by
      unfold coreM
      rw [if_neg (by rw [hf]; simp)]
    rw [hf] at K1
    rw [hcm]
    clear hcm
    go_enter Try.func19, Try.ntmps19
    go_wp2_with (go_at_call 14; go_loud (with_reducible refine K1.mono ?_); rintro e w1 ⟨rfl, hb1⟩; have HB1 := Lib.hid hb1; clear hb1)
    go_ret
    exact ⟨none, 0, rfl, ⟨by simp, .inl rfl⟩, HB1.out⟩
end Go.Proofs.Ythnakfdiikidaaa

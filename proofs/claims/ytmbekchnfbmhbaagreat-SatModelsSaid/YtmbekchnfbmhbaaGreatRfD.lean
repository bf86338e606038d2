/- The reference's side (L16/UnL), for layer 21's seat. -/
import Derived.Test.YtmbekchnfbmhbaaGreatRfC
namespace Go.Proofs.YtmbekchnfbmhbaaGreat
section
open Go.RowKit Go.Lib
/-- The row made so far. -/
structure Outs (w wr : World) (zs : List Int) (i : Nat) (v : Value) (OA : Option Addr) (oc : Nat) (out : List Int) : Prop where
  val : v = .slice OA out.length oc
  is : out = makeM (zs.take i)
  row : Row .i64 wr OA out
  nil : OA = none → oc = 0
  cap : out.length ≤ oc
  capMax : oc ≤ 9223372036854775807
  blk : ∀ a, OA = some a → ∃ cs, Blk wr a.block 3 cs
  bel : Below w.heap.size w wr

theorem push_own {w : World} {base n : Nat} {v : Value} {l : List Int} {x : Int} (h : w.ownsRow base 3 1 v n (l.map (Value.int .i64) ++ #[Value.int .i64 x].toList)) : w.ownsRow base 3 1 v n ((l ++ [x]).map (Value.int .i64)) := by
  rw [List.map_append]; exact h
theorem take_succ_snoc {zs : List Int} {i : Nat} (h : i < zs.length) : zs.take (i + 1) = zs.take i ++ [zs[i]] := List.take_succ_eq_append_getElem h

set_option maxRecDepth 100000 in
set_option maxHeartbeats 4000000 in
theorem make15_ok {w : World} {A : Option Addr} {zs : List Int} (cap : Nat) (h : Row .i64 w A zs) (hz : zs.length ≤ 100000) :
    Calls Tryz.prog 41 #[.slice A zs.length cap] w fun e w' => ∃ B d, e = .returned (.slice B (makeM zs).length d) ∧ Row .i64 w' B (makeM zs) ∧ ((B = none → d = 0) ∧ ∀ a, B = some a → ∃ cs, Blk w' a.block 3 cs) ∧ Below w.heap.size w w' := by
  obtain ⟨i0, hi, hz0, hz1, hz2⟩ := info_parts int_info
  have H := Lib.hid h
  clear h
  go_enter Tryz.func41, Tryz.ntmps41
  go_wp2
  go_loopw [4, 3] (fun vi vo wr => ∃ (i : Nat) (OA : Option Addr) (oc : Nat) (out : List Int), i ≤ zs.length ∧ vi = .int .i64 i ∧ Outs w wr zs i vo OA oc out) (fun vi _ _ => (zs.length - intOf vi).toNat)
  case atStart => exact ⟨0, none, 0, [], Nat.zero_le _, rfl, rfl, (by rw [List.take_zero]; unfold makeM; simp only [List.filter_nil, List.mergeSort_nil]; rfl), ⟨by simp, .inl rfl⟩, fun _ => rfl, Nat.le_refl _, by simp, (fun a ha => by cases ha), Below.refl _ _⟩
  case round =>
    obtain ⟨i, OA, oc, out, hi2, rfl, hO⟩ := hrel
    obtain ⟨rfl, his, hrow, hnil, hcap, hcm, hbk, hbel⟩ := hO
    have Hbk := Lib.hid hbk
    clear hbk
    have hol : out.length ≤ i := by
      rw [his]
      have := makeM_len (zs.take i)
      rw [List.length_take] at this
      omega
    have Hrow := Lib.hid hrow
    have Hnil := Lib.hid hnil
    have Hbel := Lib.hid hbel
    have His := Lib.hid his
    have Hcm := Lib.hid hcm
    clear hrow hnil hbel his hcm
    by_cases hlt : i < zs.length
    · have d1 : decide ((i : Int) < zs.length) = true := by simp; omega
      obtain ⟨b, off, hA, hb, hcell⟩ := H.out.at_.resolve_left (by omega)
      subst hA
      have hcx : ∀ W, Below w.heap.size w W → W.cell? ⟨b, off + i, none⟩ = some (.int .i64 zs[i]) := fun W hW => (hW.cell (p := ⟨b, off + i, none⟩) hb).trans (hcell i hlt)
      have Htk := Lib.hid (take_succ_snoc hlt)
      have y0 := hcx _ Hbel.out
      have t1 : (0 : Int) ≤ (i : Int) := by omega
      have t2 : (i : Int) < (zs.length : Int) := by omega
      clear hcell
      generalize zs[i] = x at *
      have Hcx := Lib.hid hcx
      clear hcx
      by_cases g1 : x < 0
      · have d2 : decide (x < (0 : Int)) = true := decide_eq_true g1
        have e1 := Lib.hid (show out = makeM (zs.take (i + 1)) by rw [Htk.out, make_skip (.inl g1)]; exact His.out)
        clear g1
        go_wp2
        go_roundw
        case rel => exact ⟨i + 1, OA, oc, out, by omega, by go_num, rfl, e1.out, Hrow.out, Hnil.out, hcap, Hcm.out, Hbk.out, Hbel.out⟩
        case measure => simp only [intOf]; omega
      have d2 : decide (x < (0 : Int)) = false := decide_eq_false g1
      have Kh := has_ok oc Hrow.out x
      by_cases g2 : x ∈ out
      · have e1 := Lib.hid (show out = makeM (zs.take (i + 1)) by rw [Htk.out, make_skip (.inr (by rw [← His.out]; exact g2))]; exact His.out)
        rw [decide_eq_true g2] at Kh
        clear g1 g2
        go_wp2_with (go_at_call 60; (with_reducible refine Kh.mono ?_); rintro e w1 ⟨rfl, rfl⟩)
        go_roundw
        case rel => exact ⟨i + 1, OA, oc, out, by omega, by go_num, rfl, e1.out, Hrow.out, Hnil.out, hcap, Hcm.out, Hbk.out, Hbel.out⟩
        case measure => simp only [intOf]; omega
      rw [decide_eq_false g2] at Kh
      have G1 := Lib.hid (show 0 ≤ x by omega)
      have G2 := Lib.hid g2
      clear g1 g2
      go_wp2_with (go_at_call 60; (with_reducible refine Kh.mono ?_); rintro e w1 ⟨rfl, rfl⟩)
      clear Kh
      obtain ⟨wo, rfl⟩ : ∃ wo : World, wo = wr := ⟨_, rfl⟩
      go_loopw [6, 5] (fun vk vn wy => ∃ k : Nat, k ≤ out.length ∧ vk = .int .i64 k ∧ wy.ownsRow wo.heap.size 3 1 vn k ((out.take k).map (Value.int .i64)) ∧ (∀ y ∈ out.take k, y < x) ∧ Below wo.heap.size wo wy) (fun vk _ _ => (out.length - intOf vk).toNat)
      case atStart => exact ⟨0, Nat.zero_le _, rfl, World.ownsRow_nil _ _ _ _, (fun y hy => by cases hy), Below.refl _ _⟩
      case round =>
        obtain ⟨k, hk, rfl, hown, hls, hby⟩ := hrel
        have Hown := Lib.hid hown
        have Hls := Lib.hid hls
        have Hby := Lib.hid hby
        have y0 := Hcx.out _ (below_then Hbel.out (Nat.le_refl _) hby)
        clear hown hls hby
        have hex : (k < out.length ∧ ∃ h : k < out.length, out[k] < x) ∨ (k < out.length → ∀ h : k < out.length, ¬ out[k] < x) := by
          by_cases h1 : k < out.length
          · by_cases h2 : out[k] < x
            · exact .inl ⟨h1, h1, h2⟩
            · exact .inr fun _ _ => h2
          · exact .inr fun h => absurd h h1
        rcases hex with ⟨hkl, _, hlx⟩ | hge
        · have d3 : decide ((k : Int) < out.length) = true := by simp; omega
          obtain ⟨ob, oo, hOA, hob, hoc⟩ := (Hrow.out.below Hby.out).at_.resolve_left (by omega)
          subst hOA
          have z0 := hoc k hkl
          have Htk2 := Lib.hid (take_succ_snoc hkl)
          have Hls2 := Lib.hid (show ∀ y ∈ out.take (k + 1), y < x from fun y hy => by
            rw [Htk2.out] at hy
            rcases List.mem_append.1 hy with hy | hy
            · exact Hls.out y hy
            · rw [List.mem_singleton.1 hy]; exact hlx)
          have t3 : (0 : Int) ≤ (k : Int) := by omega
          have t4 : (k : Int) < (out.length : Int) := by omega
          have d4 : decide (out[k] < x) = true := decide_eq_true hlx
          clear hoc hlx
          generalize out[k] = y at *
          have X1 := Lib.hid (show (k + 1) * 8 ≤ 140737488355328 by omega)
          go_wp2
          go_quiet (fail)
          have HW := Lib.hid (show Below wo.heap.size wo ((wr.drewN nq).alloc (.cells #[.int .i64 y] 3)) from (below_drewN Hby.out nq).alloc Hby.out.size _)
          go_wp2_with (at_builtin; refine list_push _ rfl (.tmp 41) (.tmp 46) 23 rfl wo.heap.size 3 i0 (.int .i64 0) 1 8 Tryz.underlying23 hi hz0 hz1 hz2 rfl (by decide) _ k ((out.take k).map (Value.int .i64)) rfl ((own_drewN Hown.out nq).alloc _) wr.heap.size #[.int .i64 y] rfl (Blk.new (wr.drewN nq) _ _) rfl (by intro u hu; rw [List.mem_singleton.1 hu]; rfl) X1.out (by decide) Hby.out.size ?_; intro ga ca w3 ho3 hg3 _ _; have HO3 := Lib.hid ho3; have HB3 := Lib.hid (Below.grown HW.out hg3 (Nat.le_trans HW.out.size (Nat.le_refl _)) (fun j hj => (Hown.out.lt j hj).1)); clear ho3 hg3)
          go_roundw
          case rel => exact ⟨k + 1, by omega, by go_num, by rw [Htk2.out, List.map_append]; exact HO3.out, Hls2.out, HB3.out⟩
          case measure => simp only [intOf]; omega
        · have X1 := Lib.hid (show (k + 1) * 8 ≤ 140737488355328 by omega)
          have hdl : (out.take k).length = k := by rw [List.length_take]; omega
          have X2 := Lib.hid (show k + 1 + (out.drop k).length ≤ 1000000 by rw [List.length_drop]; omega)
          have hmk : out.take k ++ [x] ++ out.drop k = makeM (zs.take (i + 1)) := by
            rw [Htk.out, ← make_ins (k := k) G1.out (by rw [← His.out]; exact G2.out) (by rw [← His.out]; exact Hls.out) (by rw [← His.out]; exact hge), ← His.out]
          obtain ⟨M, hM⟩ : ∃ M, out.take k ++ [x] ++ out.drop k = M := ⟨_, rfl⟩
          have X3 := Lib.hid (show k + 1 + (out.drop k).length = M.length by rw [← hM, List.length_append, List.length_append, hdl]; rfl)
          have X4 := Lib.hid (show M.length ≤ 1000000 by rw [← X3.out]; exact X2.out)
          rw [hM] at hmk
          have HMM := Lib.hid hM
          have HMk := Lib.hid hmk
          have HW := fun nq => Lib.hid (show Below wo.heap.size wo ((wr.drewN nq).alloc (.cells #[.int .i64 x] 3)) from (below_drewN Hby.out nq).alloc Hby.out.size _)
          clear hdl hmk hM
          by_cases hkl : k < out.length
          · have d3 : decide ((k : Int) < out.length) = true := by simp; omega
            obtain ⟨ob, oo, hOA, hob, hoc⟩ := (Hrow.out.below Hby.out).at_.resolve_left (by omega)
            subst hOA
            have z0 := hoc k hkl
            have t3 : (0 : Int) ≤ (k : Int) := by omega
            have t4 : (k : Int) < (out.length : Int) := by omega
            have t5 : (k : Int) ≤ (out.length : Int) := by omega
            have t6 : (out.length : Int) ≤ (oc : Int) := by omega
            have t7 : ((oc : Int) == (k : Int)) = false := by simp; omega
            have t8 : oc ≠ k := by omega
            have d4 : decide (out[k] < x) = false := decide_eq_false (hge hkl hkl)
            have Hdr := Lib.hid (fun W (h : Below wo.heap.size wo W) => row_drop (Hrow.out.below h) k hkl)
            clear hoc hge
            generalize out[k] = y at *
            go_wp2
            go_quiet (fail)
            go_wp2_with (first
              | (at_builtin; refine list_push _ rfl (.tmp 50) (.tmp 55) 23 rfl wo.heap.size 3 i0 (.int .i64 0) 1 8 Tryz.underlying23 hi hz0 hz1 hz2 rfl (by decide) _ k ((out.take k).map (Value.int .i64)) rfl ((own_drewN Hown.out nq).alloc _) wr.heap.size #[.int .i64 x] rfl (Blk.new (wr.drewN nq) _ _) rfl (by intro u hu; rw [List.mem_singleton.1 hu]; rfl) X1.out (by decide) Hby.out.size ?_; intro ga ca w3 ho3 hg3 _ _; have HO3 := Lib.hid (push_own ho3); have HB3 := Lib.hid (Below.grown (HW nq).out hg3 (Nat.le_trans (HW nq).out.size (Nat.le_refl _)) (fun j hj => (Hown.out.lt j hj).1)); clear ho3 hg3)
              | (at_builtin; refine list_append_row _ rfl (.tmp 57) (.tmp 60) rfl wo.heap.size _ (k + 1) (out.take k ++ [x]) rfl HO3.out (some ⟨ob, oo + k, none⟩) (oc - k) (out.drop k) (by rw [List.length_drop]; rfl) (Hdr.out _ HB3.out) (by intro h; cases h) X2.out HB3.out.size ?_; intro v4 w4 ho4 hg4; rw [HMM.out] at ho4; have HB4 := Lib.hid (Below.grown HB3.out hg4 HB3.out.size (fun j hj => (HO3.out.lt j hj).1)); obtain ⟨B5, d5, rfl, hr5, hn5, hc5, hm5, hk5⟩ := own_row3 ho4 X3.out X4.out; have HR5 := Lib.hid hr5; have HN5 := Lib.hid hn5; have HC5 := Lib.hid hc5; have HM5 := Lib.hid hm5; have HK5 := Lib.hid hk5; clear ho4 hg4 hr5 hn5 hc5 hm5 hk5))
            go_roundw
            case rel => exact ⟨i + 1, B5, d5, M, by omega, by go_num, rfl, HMk.out, HR5.out, HN5.out, HC5.out, HM5.out, HK5.out, below_then Hbel.out (Nat.le_refl _) HB4.out⟩
            case measure => simp only [intOf]; omega
          · obtain rfl : k = out.length := by omega
            have d3 : decide ((out.length : Int) < out.length) = false := by simp
            have hdn : out.drop out.length = [] := List.drop_length
            have Hdn := Lib.hid hdn
            have t5 : (out.length : Int) ≤ (oc : Int) := by omega
            clear hge hdn hkl
            cases OA with
            | none =>
              have ho0 := Hnil.out rfl
              subst ho0
              have hon : out = [] := List.eq_nil_of_length_eq_zero (by omega)
              subst hon
              simp only [List.length_nil, List.take_nil, List.drop_nil, List.nil_append, List.append_nil, Nat.zero_add, List.map_nil] at Hown X1 X2 X3 HMM d3
              go_wp2
              go_quiet (fail)
              go_wp2_with (first
                | (at_builtin; refine list_push _ rfl (.tmp 50) (.tmp 55) 23 rfl wo.heap.size 3 i0 (.int .i64 0) 1 8 Tryz.underlying23 hi hz0 hz1 hz2 rfl (by decide) _ 0 [] rfl ((own_drewN Hown.out nq).alloc _) wr.heap.size #[.int .i64 x] rfl (Blk.new (wr.drewN nq) _ _) rfl (by intro u hu; rw [List.mem_singleton.1 hu]; rfl) X1.out (by decide) Hby.out.size ?_; intro ga ca w3 ho3 hg3 _ _; have HO3 := Lib.hid (push_own (l := []) ho3); have HB3 := Lib.hid (Below.grown (HW nq).out hg3 (Nat.le_trans (HW nq).out.size (Nat.le_refl _)) (fun j hj => (Hown.out.lt j hj).1)); clear ho3 hg3)
                | (at_builtin; refine list_append_row _ rfl (.tmp 57) (.tmp 60) rfl wo.heap.size _ 1 ([] ++ [x]) rfl HO3.out none 0 [] rfl (row_none _) (fun _ => rfl) (by decide) HB3.out.size ?_; intro v4 w4 ho4 hg4; rw [List.append_nil, List.nil_append, HMM.out] at ho4; have HB4 := Lib.hid (Below.grown HB3.out hg4 HB3.out.size (fun j hj => (HO3.out.lt j hj).1)); obtain ⟨B5, d5, rfl, hr5, hn5, hc5, hm5, hk5⟩ := own_row3 ho4 X3.out X4.out; have HR5 := Lib.hid hr5; have HN5 := Lib.hid hn5; have HC5 := Lib.hid hc5; have HM5 := Lib.hid hm5; have HK5 := Lib.hid hk5; clear ho4 hg4 hr5 hn5 hc5 hm5 hk5))
              go_roundw
              case rel => exact ⟨i + 1, B5, d5, M, by omega, by go_num, rfl, HMk.out, HR5.out, HN5.out, HC5.out, HM5.out, HK5.out, below_then Hbel.out (Nat.le_refl _) HB4.out⟩
              case measure => simp only [intOf]; omega
            | some oa =>
              by_cases hoe : oc = out.length
              · subst hoe
                go_wp2
                go_quiet (fail)
                go_wp2_with (first
                  | (at_builtin; refine list_push _ rfl (.tmp 50) (.tmp 55) 23 rfl wo.heap.size 3 i0 (.int .i64 0) 1 8 Tryz.underlying23 hi hz0 hz1 hz2 rfl (by decide) _ out.length ((out.take out.length).map (Value.int .i64)) rfl ((own_drewN Hown.out nq).alloc _) wr.heap.size #[.int .i64 x] rfl (Blk.new (wr.drewN nq) _ _) rfl (by intro u hu; rw [List.mem_singleton.1 hu]; rfl) X1.out (by decide) Hby.out.size ?_; intro ga ca w3 ho3 hg3 _ _; have HO3 := Lib.hid (push_own ho3); have HB3 := Lib.hid (Below.grown (HW nq).out hg3 (Nat.le_trans (HW nq).out.size (Nat.le_refl _)) (fun j hj => (Hown.out.lt j hj).1)); clear ho3 hg3)
                  | (at_builtin; refine list_append_row _ rfl (.tmp 57) (.tmp 60) rfl wo.heap.size _ (out.length + 1) (out.take out.length ++ [x]) rfl HO3.out (some oa) _ (out.drop out.length) (by rw [Hdn.out]; rfl) (Hdn.out ▸ row_none _) (by intro h; cases h) X2.out HB3.out.size ?_; intro v4 w4 ho4 hg4; rw [HMM.out] at ho4; have HB4 := Lib.hid (Below.grown HB3.out hg4 HB3.out.size (fun j hj => (HO3.out.lt j hj).1)); obtain ⟨B5, d5, rfl, hr5, hn5, hc5, hm5, hk5⟩ := own_row3 ho4 X3.out X4.out; have HR5 := Lib.hid hr5; have HN5 := Lib.hid hn5; have HC5 := Lib.hid hc5; have HM5 := Lib.hid hm5; have HK5 := Lib.hid hk5; clear ho4 hg4 hr5 hn5 hc5 hm5 hk5))
                go_roundw
                case rel => exact ⟨i + 1, B5, d5, M, by omega, by go_num, rfl, HMk.out, HR5.out, HN5.out, HC5.out, HM5.out, HK5.out, below_then Hbel.out (Nat.le_refl _) HB4.out⟩
                case measure => simp only [intOf]; omega
              · have t7 : ((oc : Int) == (out.length : Int)) = false := by simp; omega
                go_wp2
                go_quiet (fail)
                go_wp2_with (first
                  | (at_builtin; refine list_push _ rfl (.tmp 50) (.tmp 55) 23 rfl wo.heap.size 3 i0 (.int .i64 0) 1 8 Tryz.underlying23 hi hz0 hz1 hz2 rfl (by decide) _ out.length ((out.take out.length).map (Value.int .i64)) rfl ((own_drewN Hown.out nq).alloc _) wr.heap.size #[.int .i64 x] rfl (Blk.new (wr.drewN nq) _ _) rfl (by intro u hu; rw [List.mem_singleton.1 hu]; rfl) X1.out (by decide) Hby.out.size ?_; intro ga ca w3 ho3 hg3 _ _; have HO3 := Lib.hid (push_own ho3); have HB3 := Lib.hid (Below.grown (HW nq).out hg3 (Nat.le_trans (HW nq).out.size (Nat.le_refl _)) (fun j hj => (Hown.out.lt j hj).1)); clear ho3 hg3)
                  | (at_builtin; refine list_append_row _ rfl (.tmp 57) (.tmp 60) rfl wo.heap.size _ (out.length + 1) (out.take out.length ++ [x]) rfl HO3.out _ _ (out.drop out.length) (by rw [Hdn.out]; rfl) (Hdn.out ▸ row_none _) (by intro h; cases h) X2.out HB3.out.size ?_; intro v4 w4 ho4 hg4; rw [HMM.out] at ho4; have HB4 := Lib.hid (Below.grown HB3.out hg4 HB3.out.size (fun j hj => (HO3.out.lt j hj).1)); obtain ⟨B5, d5, rfl, hr5, hn5, hc5, hm5, hk5⟩ := own_row3 ho4 X3.out X4.out; have HR5 := Lib.hid hr5; have HN5 := Lib.hid hn5; have HC5 := Lib.hid hc5; have HM5 := Lib.hid hm5; have HK5 := Lib.hid hk5; clear ho4 hg4 hr5 hn5 hc5 hm5 hk5))
                go_roundw
                case rel => exact ⟨i + 1, B5, d5, M, by omega, by go_num, rfl, HMk.out, HR5.out, HN5.out, HC5.out, HM5.out, HK5.out, below_then Hbel.out (Nat.le_refl _) HB4.out⟩
                case measure => simp only [intOf]; omega
    · obtain rfl : i = zs.length := by omega
      have d1 : decide ((zs.length : Int) < zs.length) = false := by simp
      have e1 := His.out
      rw [List.take_length] at e1
      have E1 := Lib.hid e1
      clear e1
      go_wp2
      go_ret
      exact ⟨OA, oc, by rw [← E1.out]; rfl, by rw [← E1.out]; exact Hrow.out, ⟨Hnil.out, Hbk.out⟩, Hbel.out⟩
end
end Go.Proofs.YtmbekchnfbmhbaaGreat

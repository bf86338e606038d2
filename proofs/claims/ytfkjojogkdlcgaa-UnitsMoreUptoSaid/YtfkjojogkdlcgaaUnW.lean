/- The reference's plain: the walk. -/
import Derived.Test.YtfkjojogkdlcgaaUnV
namespace Go.Proofs.Ytfkjojogkdlcgaa
open Go.RowKit Go.Lib

theorem own_belowK {w w' : World} {base n : Nat} {e : TypeId} {v : Value} {xs : List Value} (h : w.ownsRow base e 1 v n xs) (hb : Below w.heap.size w w') : w'.ownsRow base e 1 v n xs :=
  own_kept h (Kept.of_below (S := fun _ => False) hb) fun _ _ hf => hf.elim
theorem own_grid2 {w : World} {B : Nat} {v : Value} {R : List (Option Addr × Nat × List Int)} (h : w.ownsRow B 23 1 v R.length (R.map encR)) (hl : R.length ≤ 1000000) (he : ∀ r ∈ R, Row .i64 w r.1 r.2.2 ∧ (r.1 = none → r.2.1 = 0)) : ∃ MA mc, v = .slice MA R.length mc ∧ Grid w MA R := by
  rcases h.2 with ⟨rfl, h0⟩ | ⟨ga, cap, cur, rfl, hb, hh, hc, hM, hs, ht⟩
  · exact ⟨none, 0, by rw [h0], hl, .inl h0⟩
  · refine ⟨_, cap, rfl, hl, .inr ⟨ga, 0, rfl, (Array.getElem?_eq_some_iff.1 hh).1, fun i hi => ⟨?_, he _ (List.getElem_mem hi)⟩⟩⟩
    rw [Nat.zero_add, h.cellAt i (by omega), List.getElem?_map, List.getElem?_eq_getElem hi]
    rfl

theorem filter_snoc (c : List Int) {k : Nat} (h : k < c.length) : (c.take (k + 1)).filter (fun x => !wideM x) = (c.take k).filter (fun x => !wideM x) ++ (if wideM c[k] = true then [] else [c[k]]) := by
  rw [List.take_succ_eq_append_getElem h, List.filter_append]
  congr 1
  cases hw : wideM c[k] <;> simp [hw]

set_option maxRecDepth 100000 in
set_option maxHeartbeats 4000000 in
theorem plain16_ok {w : World} {A : Option Addr} {rows : List (Option Addr × Nat × List Int)} (cap : Nat) (h : Grid w A rows) (hr : rows.length ≤ 1000) (he : ∀ r ∈ rows, r.2.2.length ≤ 1000) (hm : ∀ r ∈ rows, ∀ x ∈ r.2.2, x ≤ 9223372036854775807) :
    Calls Try.prog 37 #[.slice A rows.length cap] w fun e w' => ∃ P B d, e = .returned (.slice B P.length d) ∧ P.length = rows.length ∧ Grid w' B P ∧ rowsOf P = (rowsOf rows).map plainM ∧ Below w.heap.size w w' := by
  obtain ⟨i0, hi, hz0, hz1, hz2⟩ := info_parts int_info
  obtain ⟨j0, ji, jz0, jz1, jz2⟩ := info_parts slice_info
  have H := Lib.hid h
  have He := Lib.hid he
  have Hm := Lib.hid hm
  clear h he hm
  go_enter Try.func37, Try.ntmps37
  go_wp2
  go_loopw [4, 3] (fun vi vo wr => ∃ (i : Nat) (P : List (Option Addr × Nat × List Int)), i ≤ rows.length ∧ vi = .int .i64 i ∧ P.length = i ∧ wr.ownsRow w.heap.size 23 1 vo i (P.map encR) ∧ rowsOf P = (rowsOf (rows.take i)).map plainM ∧ (∀ r ∈ P, IRow wr r) ∧ Below w.heap.size w wr) (fun vi _ _ => (rows.length - intOf vi).toNat)
  case atStart => exact ⟨0, [], Nat.zero_le _, rfl, rfl, World.ownsRow_nil _ _ _ _, rfl, (fun r hr => by cases hr), Below.refl _ _⟩
  case round =>
    obtain ⟨i, P, hi2, rfl, hPl, hown, his, hea, hbel⟩ := hrel
    have Hown := Lib.hid hown
    have His := Lib.hid his
    have Hea := Lib.hid hea
    have Hbel := Lib.hid hbel
    have HPl := Lib.hid hPl
    by_cases hlt : i < rows.length
    · have d1 : decide ((i : Int) < rows.length) = true := by simp; omega
      obtain ⟨b, off, hA, hb, hcell⟩ := H.out.at_.resolve_left (by omega)
      subst hA
      have hc0 := (hcell i hlt).1
      have hrow := (hcell i hlt).2.1
      have hel := He.out rows[i] (List.getElem_mem hlt)
      have hmx := Hm.out rows[i] (List.getElem_mem hlt)
      have Hc := Lib.hid (fun W (h : Below w.heap.size w W) => (h.cell (p := ⟨b, off + i, none⟩) hb).trans hc0)
      have Htk := Lib.hid (show (rowsOf (rows.take (i + 1))).map plainM = (rowsOf (rows.take i)).map plainM ++ [plainM rows[i].2.2] by unfold rowsOf; rw [List.take_succ_eq_append_getElem hlt, List.map_append, List.map_append]; rfl)
      have Hrow := Lib.hid hrow
      have Hmx := Lib.hid hmx
      have t1 : (0 : Int) ≤ (i : Int) := by omega
      have t2 : (i : Int) < (rows.length : Int) := by omega
      clear hcell hc0 hrow hmx hown his hea hbel hPl
      generalize rows[i].1 = ra at *
      generalize rows[i].2.1 = rc at *
      generalize rows[i].2.2 = c at *
      go_wp2
      obtain ⟨wo, rfl⟩ : ∃ wo : World, wo = wr := ⟨_, rfl⟩
      go_loopw [6, 5] (fun vk vn wy => ∃ k : Nat, k ≤ c.length ∧ vk = .int .i64 k ∧ wy.ownsRow wo.heap.size 3 1 vn ((c.take k).filter fun x => !wideM x).length (((c.take k).filter fun x => !wideM x).map (Value.int .i64)) ∧ Below wo.heap.size wo wy) (fun vk _ _ => (c.length - intOf vk).toNat)
      case atStart => exact ⟨0, Nat.zero_le _, rfl, World.ownsRow_nil _ _ _ _, Below.refl _ _⟩
      case round =>
        obtain ⟨k, hk, rfl, hownk, hby⟩ := hrel
        have Hownk := Lib.hid hownk
        have Hby := Lib.hid hby
        have y0 := Hc.out _ (below_then Hbel.out (Nat.le_refl _) hby)
        have hfl : ((c.take k).filter fun x => !wideM x).length ≤ k := Nat.le_trans (List.length_filter_le _ _) (by rw [List.length_take]; omega)
        by_cases hkl : k < c.length
        · have d2 : decide ((k : Int) < c.length) = true := by simp; omega
          obtain ⟨ob, oo, hOA, hob, hoc⟩ := ((Hrow.out.below Hbel.out).below Hby.out).at_.resolve_left (by omega)
          subst hOA
          have z0 := hoc k hkl
          have Hfs := Lib.hid (filter_snoc c hkl)
          have hx := Hmx.out c[k] (List.getElem_mem hkl)
          have t3 : (0 : Int) ≤ (k : Int) := by omega
          have t4 : (k : Int) < (c.length : Int) := by omega
          clear hoc hownk hby
          generalize c[k] = x at *
          have Kf := fits_ok x wr
          cases hw : wideM x with
          | true =>
            rw [hw] at Kf
            have Hf2 := Lib.hid (show (c.take (k + 1)).filter (fun x => !wideM x) = (c.take k).filter (fun x => !wideM x) by rw [Hfs.out, if_pos hw, List.append_nil])
            clear hw hx
            go_wp2_with (go_at_call 34; (with_reducible refine Kf.mono ?_); rintro e w2 ⟨rfl, rfl⟩)
            go_roundw
            case rel => exact ⟨k + 1, by omega, by go_num, by rw [Hf2.out]; exact Hownk.out, Hby.out⟩
            case measure => simp only [intOf]; omega
          | false =>
            rw [hw] at Kf
            have Hf2 := Lib.hid (show (c.take (k + 1)).filter (fun x => !wideM x) = (c.take k).filter (fun x => !wideM x) ++ [x] by rw [Hfs.out, if_neg (by rw [hw]; decide)])
            generalize (c.take k).filter (fun x => !wideM x) = fs at *
            have X1 := Lib.hid (show (fs.length + 1) * 8 ≤ 140737488355328 by omega)
            clear hw hx hfl
            go_wp2_with (first
              | (go_at_call 34; (with_reducible refine Kf.mono ?_); rintro e w2 ⟨rfl, rfl⟩)
              | (at_builtin; refine list_push _ rfl (.tmp 30) (.tmp 38) 23 rfl wo.heap.size 3 i0 (.int .i64 0) 1 8 Try.underlying23 hi hz0 hz1 hz2 rfl (by decide) _ fs.length (fs.map (Value.int .i64)) rfl (Hownk.out.alloc _) wr.heap.size #[.int .i64 x] rfl (Blk.new wr _ _) rfl (by intro u hu; rw [List.mem_singleton.1 hu]; rfl) X1.out (by decide) Hby.out.size ?_; intro ga ca w3 ho3 hg3 _ _; have HO3 := Lib.hid ho3; have HB3 := Lib.hid (Below.grown (Hby.out.alloc Hby.out.size _) hg3 (Nat.le_trans Hby.out.size (by simp)) (own_base_le Hownk.out)); clear ho3 hg3))
            go_roundw
            case rel => exact ⟨k + 1, by omega, by go_num, by rw [Hf2.out, List.length_append, List.map_append]; exact HO3.out, HB3.out⟩
            case measure => simp only [intOf]; omega
        · obtain rfl : k = c.length := by omega
          have d2 : decide ((c.length : Int) < c.length) = false := by simp
          rw [List.take_length] at hownk hfl
          have hmp := ref_plain c
          generalize (c.filter fun x => !wideM x) = fs at *
          obtain ⟨FB, fd, rfl, hfr⟩ := own_irow hownk rfl (by omega)
          have Km := make15_ok fd hfr.1 (by show fs.length ≤ 100000; omega)
          rw [hmp] at Km
          have X1 := Lib.hid (show (i + 1) * 24 ≤ 140737488355328 by omega)
          have Xw := Lib.hid (show w.heap.size ≤ wr.heap.size from Nat.le_trans Hbel.out.size Hby.out.size)
          have Hby2 := Lib.hid hby
          clear hownk hfl hmp hfr hby
          generalize plainM c = pc at *
          go_wp2_with (first
            | (go_at_call 32; (with_reducible refine Km.mono ?_); rintro e w2 ⟨MB, md, rfl, hmr, hmn, hmb⟩; have HMR := Lib.hid (show IRow w2 (MB, md, pc) from ⟨hmr, hmn.1, hmn.2⟩); have HMB := Lib.hid (below_then Hby2.out (Nat.le_refl _) hmb); have HMs := Lib.hid (Nat.le_trans Xw.out hmb.size); clear hmr hmn hmb)
            | (at_builtin; refine list_push _ rfl (.tmp 40) (.tmp 43) 22 rfl w.heap.size 23 j0 (.slice none 0 0) 1 24 Try.underlying22 ji jz0 jz1 jz2 rfl (by decide) _ i (P.map encR) rfl ((own_belowK Hown.out HMB.out).alloc _) w2.heap.size #[.slice MB pc.length md] rfl (Blk.new w2 _ _) rfl (by intro u hu; rw [List.mem_singleton.1 hu]; rfl) X1.out (by decide) HMs.out ?_; intro ga ca w3 ho3 hg3 _ _; have HO3 := Lib.hid ho3; have HG3 := Lib.hid hg3; clear ho3 hg3))
          go_roundw
          case rel =>
            have ho2 := (own_belowK Hown.out HMB.out).alloc (.cells #[.slice MB pc.length md] 23)
            have hal : Below w2.heap.size w2 (w2.alloc (.cells #[.slice MB pc.length md] 23)) := (Below.refl _ w2).alloc (Nat.le_refl _) _
            refine ⟨i + 1, P ++ [(MB, md, pc)], by omega, by go_num, by rw [List.length_append, HPl.out]; rfl, by rw [List.map_append]; exact HO3.out, ?_, fun r hr => ?_, ?_⟩
            · rw [Htk.out, ← His.out]; simp [rowsOf]
            · rcases List.mem_append.1 hr with hr | hr
              · exact (((Hea.out r hr).below HMB.out).below hal).grown ho2 HG3.out
              · rw [List.mem_singleton.1 hr]
                exact (HMR.out.below hal).grown ho2 HG3.out
            · exact Below.grown ((below_then Hbel.out (Nat.le_refl _) HMB.out).trans (hal.mono HMs.out)) HG3.out (Nat.le_trans HMs.out (by simp)) (own_base_le Hown.out)
          case measure => simp only [intOf]; omega
    · obtain rfl : i = rows.length := by omega
      have d1 : decide ((rows.length : Int) < rows.length) = false := by simp
      rw [List.take_length] at his
      rw [← hPl] at hown
      obtain ⟨MA, mc, hv, hmg⟩ := own_grid2 hown (by omega) (fun r hr => ⟨(hea r hr).1, (hea r hr).2.1⟩)
      subst hv
      have HG := Lib.hid hmg
      have HI := Lib.hid his
      clear hown his hea hbel Hown hmg hPl
      go_wp2
      go_ret
      exact ⟨P, MA, mc, rfl, HPl.out, HG.out, HI.out, Hbel.out⟩
end Go.Proofs.Ytfkjojogkdlcgaa

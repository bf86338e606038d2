/- The reference's side (L16/UnV L16/UnW), for layer 21's seat. -/
import Derived.Test.YtmbekchnfbmhbaaGreatRfE
namespace Go.Proofs.YtmbekchnfbmhbaaGreat
section
open Go.RowKit Go.Lib
theorem ref_plain (c : List Int) : makeM (c.filter fun x => !wideM x) = plainM c := by
  unfold plainM
  refine ord_ext (make_ord _) ((make_ord _).filter _) fun x => ?_
  rw [mem_make, List.mem_filter, List.mem_filter, mem_make]
  constructor
  · rintro ⟨⟨h1, h2⟩, h3⟩; exact ⟨⟨h1, h3⟩, h2⟩
  · rintro ⟨⟨h1, h3⟩, h2⟩; exact ⟨⟨h1, h2⟩, h3⟩

/-- A row of ints in a block of ints. -/
def IRow (w : World) (r : Option Addr × Nat × List Int) : Prop := Row .i64 w r.1 r.2.2 ∧ (r.1 = none → r.2.1 = 0) ∧ ∀ a, r.1 = some a → ∃ cs, Blk w a.block 3 cs
theorem IRow.grown {w w' : World} {base n : Nat} {v : Value} {xs : List Value} {r : Option Addr × Nat × List Int} (h : IRow w r) (ho : w.ownsRow base 23 1 v n xs) (hg : w.grownBy w' v.ownBlock) : IRow w' r := by
  obtain ⟨h1, h2, h3⟩ := h
  refine ⟨⟨h1.len, ?_⟩, h2, fun a ha => ?_⟩
  · rcases h1.at_ with h0 | ⟨b, off, e, hb, hc⟩
    · exact .inl h0
    · obtain ⟨cs, hcs⟩ := h3 _ e
      have hne : some b ≠ v.ownBlock := fun he => own_blk_ne ho hcs (by decide) he.symm
      refine .inr ⟨b, off, e, Nat.lt_of_lt_of_le hb hg.size, fun i hi => ?_⟩
      rw [World.cell?_of_block (w := w) (hg.block b hb hne)]
      exact hc i hi
  · obtain ⟨cs, hcs⟩ := h3 a ha
    exact ⟨cs, hcs.grown hg fun he => own_blk_ne ho hcs (by decide) he.symm⟩
theorem IRow.below {w w' : World} {r : Option Addr × Nat × List Int} (h : IRow w r) (hb : Below w.heap.size w w') : IRow w' r :=
  ⟨h.1.below hb, h.2.1, fun a ha => by obtain ⟨cs, hcs⟩ := h.2.2 a ha; exact ⟨cs, hcs.below hb hcs.lt⟩⟩
theorem own_irow {w : World} {base n : Nat} {v : Value} {zs : List Int} (h : w.ownsRow base 3 1 v n (zs.map (Value.int .i64))) (hn : n = zs.length) (hl : zs.length ≤ 1000000) :
    ∃ B d, v = .slice B zs.length d ∧ IRow w (B, d, zs) := by
  rcases own_cases h hn with ⟨rfl, h0⟩ | ⟨g, c, rfl, hown, _, _⟩
  · refine ⟨none, 0, by rw [h0]; rfl, ?_, fun _ => rfl, fun a ha => by cases ha⟩
    rw [h0]
    exact row_none none
  · obtain ⟨cur, hb, hh, _⟩ := hown.block
    exact ⟨_, c, rfl, hown.row hl, (fun h => by cases h), fun a ha => by injection ha with ha; subst ha; exact ⟨cur, hh⟩⟩

def firstM (val : Int → Int) (st : Int) : List (List Int) → Int → Int × Int
  | [], _ => (-1, -1)
  | c :: r, i => if (stF val c 0 (-1)).1 = st then (i, (stF val c 0 (-1)).2) else firstM val st r (i + 1)
theorem first_wrong (val : Int → Int) : ∀ (cs : List (List Int)) (i u l : Int), (firstM val 1 cs i).1 = (lookF val cs i u l).1
  | [], _, _, _ => rfl
  | c :: r, i, u, l => by
    unfold firstM lookF
    by_cases h1 : (stF val c 0 (-1)).1 = 1
    · rw [if_pos h1, if_pos h1]
    · rw [if_neg h1, if_neg h1]
      split
      · split
        · exact first_wrong val r _ _ _
        · exact first_wrong val r _ _ _
      · exact first_wrong val r _ _ _
theorem first_index (val : Int → Int) (st : Int) : ∀ (cs : List (List Int)) (i : Int), 0 ≤ i → (firstM val st cs i).1 = -1 ∨ 0 ≤ (firstM val st cs i).1
  | [], _, _ => .inl rfl
  | c :: r, i, hi => by
    unfold firstM
    split
    · exact .inr hi
    · exact first_index val st r (i + 1) (by omega)
theorem first_unit (val : Int → Int) : ∀ (cs : List (List Int)) (i l : Int), 0 ≤ i → (lookF val cs i (-1) l).1 = -1 → (lookF val cs i (-1) l).2 = if (firstM val 2 cs i).1 = -1 then (-1, l) else firstM val 2 cs i
  | [], _, _, _, _ => rfl
  | c :: r, i, l, hi, h => by
    unfold lookF at h ⊢
    unfold firstM
    by_cases h1 : (stF val c 0 (-1)).1 = 1
    · rw [if_pos h1] at h
      have : i = -1 := h
      omega
    · rw [if_neg h1] at h ⊢
      by_cases h2 : (stF val c 0 (-1)).1 = 2
      · rw [if_pos h2, if_pos rfl] at h ⊢
        have k := look_unit r (i + 1) i (stF val c 0 (-1)).2 (by omega) h
        rw [if_neg (by omega)] at k
        rw [k, if_pos h2, if_neg (by show ¬ i = -1; omega)]
      · rw [if_neg h2] at h ⊢
        rw [if_neg h2]
        exact first_unit val r (i + 1) l (by omega) h

theorem first_ok {w : World} {A B : Option Addr} {rows : List (Option Addr × Nat × List Int)} {vals : List Int} {val : Int → Int} (cap cap2 : Nat) (st : Int) (h : Grid w A rows) (hv : Row .i8 w B vals) (hval : ∀ r ∈ rows, ∀ x ∈ r.2.2, valM vals x = val x) (hm : ∀ r ∈ rows, ∀ x ∈ r.2.2, x ≤ 9223372036854775807) :
    Calls Tryz.prog 87 #[.slice A rows.length cap, .slice B vals.length cap2, .int .i8 st] w fun e w' => e = .returned (.tuple #[.int .i64 (firstM val st (rowsOf rows) 0).1, .int .i64 (firstM val st (rowsOf rows) 0).2]) ∧ w = w' := by
  have hlen := h.len
  have H := Lib.hid h
  have Hval := Lib.hid hval
  have Hm := Lib.hid hm
  have Hv := Lib.hid hv
  clear h hm hv hval
  go_enter Tryz.func87, Tryz.ntmps87
  go_wp2
  go_loopg [8] rows.length (fun g v wx => w = wx ∧ ∃ i : Nat, i + g = rows.length ∧ v = .int .i64 i ∧ firstM val st ((rowsOf rows).drop i) i = firstM val st (rowsOf rows) 0)
  case atStart => exact ⟨rfl, 0, by omega, rfl, rfl⟩
  case round =>
    obtain ⟨rfl, i, hig, rfl, hinv⟩ := hrel
    have HI := Lib.hid hinv
    clear hinv
    cases gk with
    | zero =>
      have d1 : decide ((i : Int) < rows.length) = false := by simp; omega
      have HN := Lib.hid (show (rowsOf rows).drop i = [] from List.drop_eq_nil_of_le (by unfold rowsOf; rw [List.length_map]; omega))
      go_wp2
      go_ret2
      rw [← HI.out, HN.out]
      exact ⟨rfl, rfl⟩
    | succ k =>
      have hin : i < rows.length := by omega
      have d1 : decide ((i : Int) < rows.length) = true := by simp; omega
      obtain ⟨b, off, hA, hb, hcell⟩ := H.out.at_.resolve_left (by omega)
      subst hA
      obtain ⟨c0, hrow, _⟩ := hcell i hin
      have hx := Hm.out rows[i] (List.getElem_mem hin)
      have hvx := Hval.out rows[i] (List.getElem_mem hin)
      have hdr : (rowsOf rows).drop i = rows[i].2.2 :: (rowsOf rows).drop (i + 1) := by
        have hi2 : i < (rowsOf rows).length := by unfold rowsOf; rw [List.length_map]; exact hin
        rw [List.drop_eq_getElem_cons hi2]
        simp [rowsOf]
      have Hdr := Lib.hid hdr
      have t1 : (0 : Int) ≤ (i : Int) := by omega
      have t2 : (i : Int) < (rows.length : Int) := by omega
      clear hcell hdr
      generalize rows[i].1 = xa at *
      generalize rows[i].2.1 = xc at *
      generalize rows[i].2.2 = c at *
      have K := state15_ok xc cap2 hrow Hv.out hx
      rw [st_rep c 0 (-1) hvx] at K
      have hstep : firstM val st (c :: (rowsOf rows).drop (i + 1)) i = (if (stF val c 0 (-1)).1 = st then ((i : Int), (stF val c 0 (-1)).2) else firstM val st ((rowsOf rows).drop (i + 1)) (i + 1)) := by
        conv => lhs; unfold firstM
      generalize stF val c 0 (-1) = s at K hstep
      obtain ⟨p1, p2⟩ := s
      have Hstep := Lib.hid hstep
      clear hx hvx hrow hstep
      simp only at K
      by_cases h1 : p1 = st
      · have b1 : (p1 == st) = true := by simp [h1]
        have H1 := Lib.hid h1
        clear h1
        go_wp2_with (go_at_call 25; (with_reducible refine K.mono ?_); rintro e w1 ⟨rfl, rfl⟩)
        go_ret2
        rw [← HI.out, Hdr.out, Hstep.out, if_pos H1.out]
        exact ⟨rfl, rfl⟩
      · have b1 : (p1 == st) = false := beq_eq_false_iff_ne.2 h1
        have H1 := Lib.hid h1
        clear h1
        go_wp2_with (go_at_call 25; (with_reducible refine K.mono ?_); rintro e w1 ⟨rfl, rfl⟩)
        go_roundg k
        case measure => omega
        case rel => exact ⟨rfl, i + 1, by omega, by go_num, by rw [← HI.out, Hdr.out, Hstep.out, if_neg H1.out]; rfl⟩
end
section
open Go.RowKit Go.Lib
theorem own_belowK {w w' : World} {base n : Nat} {e : TypeId} {v : Value} {xs : List Value} (h : w.ownsRow base e 1 v n xs) (hb : Below w.heap.size w w') : w'.ownsRow base e 1 v n xs :=
  own_kept h (Kept.of_below (S := fun _ => False) hb) fun _ _ hf => hf.elim
theorem own_grid2 {w : World} {B : Nat} {v : Value} {R : List (Option Addr × Nat × List Int)} (h : w.ownsRow B 23 1 v R.length (R.map encR)) (hl : R.length ≤ 1000000) (he : ∀ r ∈ R, Row .i64 w r.1 r.2.2 ∧ (r.1 = none → r.2.1 = 0)) : ∃ MA mc, v = .slice MA R.length mc ∧ Grid w MA R := by
  rcases h.2 with ⟨rfl, h0⟩ | ⟨ga, cap, cur, rfl, hb, hh, hc, hM, hs, ht⟩
  · exact ⟨none, 0, by rw [h0], hl, .inl h0⟩
  · refine ⟨_, cap, rfl, hl, .inr ⟨ga, 0, rfl, (Array.getElem?_eq_some_iff.1 hh).1, fun i hi => ⟨?_, he _ (List.getElem_mem hi)⟩⟩⟩
    rw [Nat.zero_add, h.cellAt i (by omega), List.getElem?_map, List.getElem?_eq_getElem hi]
    rfl

theorem filter_snoc (c : List Int) {k : Nat} (h : k < c.length) : (c.take (k + 1)).filter (fun x => !wideM x) = (c.take k).filter (fun x => !wideM x) ++ (if wideM c[k] = true then [] else [c[k]]) := by
  rw [List.take_succ_eq_append_getElem h, List.filter_append]
  congr 1
  cases hw : wideM c[k] <;> simp [hw]

set_option maxRecDepth 100000 in
set_option maxHeartbeats 4000000 in
theorem plain16_ok {w : World} {A : Option Addr} {rows : List (Option Addr × Nat × List Int)} (cap : Nat) (h : Grid w A rows) (hr : rows.length ≤ 20000) (he : ∀ r ∈ rows, r.2.2.length ≤ 50) (hm : ∀ r ∈ rows, ∀ x ∈ r.2.2, x ≤ 9223372036854775807) :
    Calls Tryz.prog 84 #[.slice A rows.length cap] w fun e w' => ∃ P B d, e = .returned (.slice B P.length d) ∧ P.length = rows.length ∧ Grid w' B P ∧ rowsOf P = (rowsOf rows).map plainM ∧ Below w.heap.size w w' := by
  obtain ⟨i0, hi, hz0, hz1, hz2⟩ := info_parts int_info
  obtain ⟨j0, ji, jz0, jz1, jz2⟩ := info_parts slice_info
  have H := Lib.hid h
  have He := Lib.hid he
  have Hm := Lib.hid hm
  clear h he hm
  go_enter Tryz.func84, Tryz.ntmps84
  go_wp2
  go_loopw [4, 3] (fun vi vo wr => ∃ (i : Nat) (P : List (Option Addr × Nat × List Int)), i ≤ rows.length ∧ vi = .int .i64 i ∧ P.length = i ∧ wr.ownsRow w.heap.size 23 1 vo i (P.map encR) ∧ rowsOf P = (rowsOf (rows.take i)).map plainM ∧ (∀ r ∈ P, IRow wr r) ∧ Below w.heap.size w wr) (fun vi _ _ => (rows.length - intOf vi).toNat)
  case atStart => exact ⟨0, [], Nat.zero_le _, rfl, rfl, World.ownsRow_nil _ _ _ _, rfl, (fun r hr => by cases hr), Below.refl _ _⟩
  case round =>
    obtain ⟨i, P, hi2, rfl, hPl, hown, his, hea, hbel⟩ := hrel
    have Hown := Lib.hid hown
    have His := Lib.hid his
    have Hea := Lib.hid hea
    have Hbel := Lib.hid hbel
    have HPl := Lib.hid hPl
    by_cases hlt : i < rows.length
    · have d1 : decide ((i : Int) < rows.length) = true := by simp; omega
      obtain ⟨b, off, hA, hb, hcell⟩ := H.out.at_.resolve_left (by omega)
      subst hA
      have hc0 := (hcell i hlt).1
      have hrow := (hcell i hlt).2.1
      have hel := He.out rows[i] (List.getElem_mem hlt)
      have hmx := Hm.out rows[i] (List.getElem_mem hlt)
      have Hc := Lib.hid (fun W (h : Below w.heap.size w W) => (h.cell (p := ⟨b, off + i, none⟩) hb).trans hc0)
      have Htk := Lib.hid (show (rowsOf (rows.take (i + 1))).map plainM = (rowsOf (rows.take i)).map plainM ++ [plainM rows[i].2.2] by unfold rowsOf; rw [List.take_succ_eq_append_getElem hlt, List.map_append, List.map_append]; rfl)
      have Hrow := Lib.hid hrow
      have Hmx := Lib.hid hmx
      have t1 : (0 : Int) ≤ (i : Int) := by omega
      have t2 : (i : Int) < (rows.length : Int) := by omega
      clear hcell hc0 hrow hmx hown his hea hbel hPl
      generalize rows[i].1 = ra at *
      generalize rows[i].2.1 = rc at *
      generalize rows[i].2.2 = c at *
      go_wp2
      obtain ⟨wo, rfl⟩ : ∃ wo : World, wo = wr := ⟨_, rfl⟩
      go_loopw [6, 5] (fun vk vn wy => ∃ k : Nat, k ≤ c.length ∧ vk = .int .i64 k ∧ wy.ownsRow wo.heap.size 3 1 vn ((c.take k).filter fun x => !wideM x).length (((c.take k).filter fun x => !wideM x).map (Value.int .i64)) ∧ Below wo.heap.size wo wy) (fun vk _ _ => (c.length - intOf vk).toNat)
      case atStart => exact ⟨0, Nat.zero_le _, rfl, World.ownsRow_nil _ _ _ _, Below.refl _ _⟩
      case round =>
        obtain ⟨k, hk, rfl, hownk, hby⟩ := hrel
        have Hownk := Lib.hid hownk
        have Hby := Lib.hid hby
        have y0 := Hc.out _ (below_then Hbel.out (Nat.le_refl _) hby)
        have hfl : ((c.take k).filter fun x => !wideM x).length ≤ k := Nat.le_trans (List.length_filter_le _ _) (by rw [List.length_take]; omega)
        by_cases hkl : k < c.length
        · have d2 : decide ((k : Int) < c.length) = true := by simp; omega
          obtain ⟨ob, oo, hOA, hob, hoc⟩ := ((Hrow.out.below Hbel.out).below Hby.out).at_.resolve_left (by omega)
          subst hOA
          have z0 := hoc k hkl
          have Hfs := Lib.hid (filter_snoc c hkl)
          have hx := Hmx.out c[k] (List.getElem_mem hkl)
          have t3 : (0 : Int) ≤ (k : Int) := by omega
          have t4 : (k : Int) < (c.length : Int) := by omega
          clear hoc hownk hby
          generalize c[k] = x at *
          have Kf := fits_ok x wr
          cases hw : wideM x with
          | true =>
            rw [hw] at Kf
            have Hf2 := Lib.hid (show (c.take (k + 1)).filter (fun x => !wideM x) = (c.take k).filter (fun x => !wideM x) by rw [Hfs.out, if_pos hw, List.append_nil])
            clear hw hx
            go_wp2_with (go_at_call 85; (with_reducible refine Kf.mono ?_); rintro e w2 ⟨rfl, rfl⟩)
            go_roundw
            case rel => exact ⟨k + 1, by omega, by go_num, by rw [Hf2.out]; exact Hownk.out, Hby.out⟩
            case measure => simp only [intOf]; omega
          | false =>
            rw [hw] at Kf
            have Hf2 := Lib.hid (show (c.take (k + 1)).filter (fun x => !wideM x) = (c.take k).filter (fun x => !wideM x) ++ [x] by rw [Hfs.out, if_neg (by rw [hw]; decide)])
            generalize (c.take k).filter (fun x => !wideM x) = fs at *
            have X1 := Lib.hid (show (fs.length + 1) * 8 ≤ 140737488355328 by omega)
            clear hw hx hfl
            go_wp2_with (first
              | (go_at_call 85; (with_reducible refine Kf.mono ?_); rintro e w2 ⟨rfl, rfl⟩)
              | (at_builtin; refine list_push _ rfl (.tmp 30) (.tmp 38) 23 rfl wo.heap.size 3 i0 (.int .i64 0) 1 8 Tryz.underlying23 hi hz0 hz1 hz2 rfl (by decide) _ fs.length (fs.map (Value.int .i64)) rfl (Hownk.out.alloc _) wr.heap.size #[.int .i64 x] rfl (Blk.new wr _ _) rfl (by intro u hu; rw [List.mem_singleton.1 hu]; rfl) X1.out (by decide) Hby.out.size ?_; intro ga ca w3 ho3 hg3 _ _; have HO3 := Lib.hid ho3; have HB3 := Lib.hid (Below.grown (Hby.out.alloc Hby.out.size _) hg3 (Nat.le_trans Hby.out.size (by simp)) (own_base_le Hownk.out)); clear ho3 hg3))
            go_roundw
            case rel => exact ⟨k + 1, by omega, by go_num, by rw [Hf2.out, List.length_append, List.map_append]; exact HO3.out, HB3.out⟩
            case measure => simp only [intOf]; omega
        · obtain rfl : k = c.length := by omega
          have d2 : decide ((c.length : Int) < c.length) = false := by simp
          rw [List.take_length] at hownk hfl
          have hmp := ref_plain c
          generalize (c.filter fun x => !wideM x) = fs at *
          obtain ⟨FB, fd, rfl, hfr⟩ := own_irow hownk rfl (by omega)
          have Km := make15_ok fd hfr.1 (by show fs.length ≤ 100000; omega)
          rw [hmp] at Km
          have X1 := Lib.hid (show (i + 1) * 24 ≤ 140737488355328 by omega)
          have Xw := Lib.hid (show w.heap.size ≤ wr.heap.size from Nat.le_trans Hbel.out.size Hby.out.size)
          have Hby2 := Lib.hid hby
          clear hownk hfl hmp hfr hby
          generalize plainM c = pc at *
          go_wp2_with (first
            | (go_at_call 41; (with_reducible refine Km.mono ?_); rintro e w2 ⟨MB, md, rfl, hmr, hmn, hmb⟩; have HMR := Lib.hid (show IRow w2 (MB, md, pc) from ⟨hmr, hmn.1, hmn.2⟩); have HMB := Lib.hid (below_then Hby2.out (Nat.le_refl _) hmb); have HMs := Lib.hid (Nat.le_trans Xw.out hmb.size); clear hmr hmn hmb)
            | (at_builtin; refine list_push _ rfl (.tmp 40) (.tmp 43) 22 rfl w.heap.size 23 j0 (.slice none 0 0) 1 24 Tryz.underlying22 ji jz0 jz1 jz2 rfl (by decide) _ i (P.map encR) rfl ((own_belowK Hown.out HMB.out).alloc _) w2.heap.size #[.slice MB pc.length md] rfl (Blk.new w2 _ _) rfl (by intro u hu; rw [List.mem_singleton.1 hu]; rfl) X1.out (by decide) HMs.out ?_; intro ga ca w3 ho3 hg3 _ _; have HO3 := Lib.hid ho3; have HG3 := Lib.hid hg3; clear ho3 hg3))
          go_roundw
          case rel =>
            have ho2 := (own_belowK Hown.out HMB.out).alloc (.cells #[.slice MB pc.length md] 23)
            have hal : Below w2.heap.size w2 (w2.alloc (.cells #[.slice MB pc.length md] 23)) := (Below.refl _ w2).alloc (Nat.le_refl _) _
            refine ⟨i + 1, P ++ [(MB, md, pc)], by omega, by go_num, by rw [List.length_append, HPl.out]; rfl, by rw [List.map_append]; exact HO3.out, ?_, fun r hr => ?_, ?_⟩
            · rw [Htk.out, ← His.out]; simp [rowsOf]
            · rcases List.mem_append.1 hr with hr | hr
              · exact (((Hea.out r hr).below HMB.out).below hal).grown ho2 HG3.out
              · rw [List.mem_singleton.1 hr]
                exact (HMR.out.below hal).grown ho2 HG3.out
            · exact Below.grown ((below_then Hbel.out (Nat.le_refl _) HMB.out).trans (hal.mono HMs.out)) HG3.out (Nat.le_trans HMs.out (by simp)) (own_base_le Hown.out)
          case measure => simp only [intOf]; omega
    · obtain rfl : i = rows.length := by omega
      have d1 : decide ((rows.length : Int) < rows.length) = false := by simp
      rw [List.take_length] at his
      rw [← hPl] at hown
      obtain ⟨MA, mc, hv, hmg⟩ := own_grid2 hown (by omega) (fun r hr => ⟨(hea r hr).1, (hea r hr).2.1⟩)
      subst hv
      have HG := Lib.hid hmg
      have HI := Lib.hid his
      clear hown his hea hbel Hown hmg hPl
      go_wp2
      go_ret
      exact ⟨P, MA, mc, rfl, HPl.out, HG.out, HI.out, Hbel.out⟩
end
end Go.Proofs.YtmbekchnfbmhbaaGreat

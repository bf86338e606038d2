/- learns. -/
import Derived.Test.YtmbekchnfbmhbaaGreatSrH
namespace Go.Proofs.YtmbekchnfbmhbaaGreat
open Go.RowKit Go.Lib

section
variable {w : World} {b : Bl} {n : Nat} {S : Nat → Prop} {vl vp vs : Value} {k : Int} {M M' : Tr} {R st : List RowT} {lr lr' : List Nat} {ph : List Int}
/-- A row that lies where one of the clauses does, or in new memory. -/
theorem SS.far {w1 : World} {A CA : Option Addr} {cc c0 : Nat} {p q : List Int} (h : SS w b n S vl vp vs k M R st lr ph) (hq : Off w (Zs w b S vl vp vs) (A, c0, q)) (h0 : 0 < p.length → 0 < q.length) (hb : Below w.heap.size w w1) (hrow : Row .i64 w1 CA p) (hn : CA = none → cc = 0) (hf : Far w.heap.size A CA p) : Off w1 (Zs w1 b S vl vp vs) (CA, cc, p) := by
  refine ⟨hrow, hn, fun hp a ha hz => ?_⟩
  have hp : 0 < p.length := hp
  have ha : CA = some a := ha
  obtain ⟨⟨cT, hbt⟩, _⟩ := h.t.typ
  have hz0 : Zs w b S vl vp vs a.block := hz.imp id (LB.kept (Kept.of_below (S := fun _ => False) hb) hbt.lt (fun e => e))
  rcases hf hp a ha with e | e
  · exact hq.off (h0 hp) a e hz0
  · have := (h.zlow hz0).2
    omega
def LearnsOut (w : World) (b : Bl) (n : Nat) (k : Int) (M : Tr) (R st : List RowT) (p : List Int) (bb : Nat) (e : Ending) (w' : World) : Prop :=
  Below b.H0 w w' ∧ ∃ S2 vl2 vp2 vs2 lr2 ph2 cr, cr.2.2 = p ∧ ((p = [] ∧ e = .returned (.bool false) ∧ SS w' b n S2 vl2 vp2 vs2 k M R (st ++ [cr]) lr2 ph2) ∨
    (p ≠ [] ∧ e = .returned (.bool true) ∧ ∃ b' : Nat, (b' = bb ∨ b' = 0) ∧ SS w' b n S2 vl2 vp2 vs2 k (backT M b') (R ++ [cr]) (st ++ [cr]) lr2 ph2 ∧ (∀ v : Nat, v < n → find (backT M b').L v = none → v ∈ lr2)))
def BumpAt (w : World) (b : Bl) (n : Nat) (vl vp vs : Value) (k : Int) (M : Tr) (R st : List RowT) (lr : List Nat) (ph : List Int) (m : Nat) (g : Nat) (v45 : Value) (wr : World) : Prop :=
  ∃ i S2 lr2, v45 = .int .i64 ((i : Nat) : Int) ∧ i + g = m ∧ SS wr b n S2 vl vp vs k M R st lr2 ph ∧ Below b.H0 w wr ∧ ∀ y, y ∈ lr2 ↔ y ∈ lr

set_option maxRecDepth 100000 in
set_option maxHeartbeats 8000000 in
theorem learns_fn (h : SS w b n S vl vp vs k M R st lr ph) (hpi : PI n M R lr) (hst : st.length ≤ 20000) {r : Nat} (hr : r < R.length) {p ch : List Int} {bb : Nat} (hl : learnM M (rowsOf R) R[r].2.2 = some (p, (bb : Int), ch)) (hpr : ∀ x ∈ p, 0 ≤ x ∧ x / 2 < n) (hne : p ≠ [] → R[r].2.2 ≠ []) (hbb : bb ≤ M.lv) (hplen : p.length ≤ 1000000) :
    Calls Tryz.prog 39 #[.pointer (some ⟨b.bs, 0, none⟩), .int .i64 r] w (LearnsOut w b n k M R st p bb) := by
  have hR := hpi.small
  have hn16 := hpi.nn
  obtain ⟨MA, mc, hvl, hgrid⟩ := h.grid (by omega)
  have hdr := below_drewN (Below.refl w.heap.size w) 1
  have hlen : ∀ q ∈ R, q.2.2.length ≤ 1000 := fun q hq => by
    have hc := hpi.cl q.2.2 (List.mem_map.2 ⟨q, hq, rfl⟩)
    have := isC_len hc.1 hc.2
    omega
  have hmx : ∀ q ∈ R, ∀ x ∈ q.2.2, x ≤ 1000000 := fun q hq x hx => by
    have hc := (hpi.cl q.2.2 (List.mem_map.2 ⟨q, hq, rfl⟩)).2 x hx
    omega
  have hgd := hgrid.below hdr
  obtain ⟨gb, off, hMA, hgb, hcell⟩ := hgrid.at_.resolve_left (by omega)
  subst hMA
  have y1 := (hcell r hr).1
  have hrow := (hcell r hr).2.1
  have hnil := (hcell r hr).2.2
  have c2 := h.blk.cell 2
  have c3 := h.blk.cell 3
  simp only [List.getElem?_toArray, List.getElem?_cons_zero, List.getElem?_cons_succ] at c2 c3
  have hRne : R ≠ [] := fun e => by subst e; simp at hr
  have hvn := h.vb_none hRne
  rw [hvn] at c2
  simp only [Option.getD_none] at c2
  rw [hvl] at c2
  have HVN := Lib.hid hvn
  have HRN := Lib.hid hRne
  clear hvn hRne
  have K0 := learn_of (run_fn (w := w.drew) (cl := mc) (cap := R[r].2.1) (h.t.drewN 1) hgd (hrow.below hdr) hnil (by omega) hlen hmx)
  rw [hl] at K0
  have K : Calls Tryz.prog 57 #[.pointer (some ⟨b.bt, 0, none⟩), .slice (some ⟨gb, off, none⟩) R.length mc, .slice R[r].1 R[r].2.2.length R[r].2.1] w.drew (LearnGot w.drew R[r].1 p (bb : Int) 0) := K0
  have hoff : Off w (Zs w b S vl vp vs) (R[r].1, R[r].2.1, R[r].2.2) := h.rows _ (List.mem_append_left _ (List.getElem_mem hr))
  have hpq : 0 < p.length → 0 < R[r].2.2.length := fun hp => List.length_pos_iff.2 (hne (List.length_pos_iff.1 hp))
  have hfin : ∀ (CA : Option Addr) (cc : Nat) (w1 : World), Row .i64 w1 CA p → (CA = none → cc = 0) → Below w.heap.size w w1 → Far w.heap.size R[r].1 CA p → SS w1 b n S vl vp vs k M R st lr ph ∧ Off w1 (Zs w1 b S vl vp vs) (CA, cc, p) ∧ Below b.H0 w w1 := fun _ _ _ h1 h2 h3 h4 =>
    ⟨h.below h3, h.far hoff hpq h3 h1 h2 h4, h3.mono (Nat.le_of_lt h.lt)⟩
  have HFIN := Lib.hid hfin
  have HPI := Lib.hid hpi
  have HPR := Lib.hid hpr
  have HBB := Lib.hid hbb
  have t1 : (0 : Int) ≤ (r : Int) := by omega
  have t2 : (r : Int) < (R.length : Int) := by omega
  have hnn := h.nn
  clear hfin hpi hgrid hgd hcell hrow hnil hvl hl K0 hlen hmx hpr hne hbb hoff hpq hdr h
  go_enter Tryz.func39, Tryz.ntmps39
  go_wp2
  refine wp_region_still_call 15 (by kernel_rfl) (by kernel_rfl) ?_
  simp only [List.take_succ_cons, List.take_zero, List.drop_succ_cons, List.drop_zero]
  change wpStill Tryz.prog _ w.drew (fun a' => wpOp _ _ _ _ _ a' w.drew) _ _
  iterate 15 still_step
  refine wpStill_nil ?_
  refine wpOp_of rfl rfl ?_
  go_simp
  refine K.mono ?_
  rintro e w1 ⟨CA, cc, rfl, hrow, hn, hb, hfar⟩
  obtain ⟨hs1, ho1, hb1⟩ := HFIN.out _ _ _ hrow hn ((below_drewN (Below.refl w.heap.size w) 1).trans hb) hfar
  have HS1 := Lib.hid hs1
  have HO1 := Lib.hid ho1
  have HB1 := Lib.hid hb1
  have HROW := Lib.hid hrow
  clear K hrow hn hb hfar hs1 ho1 hb1 c2 c3 y1 HFIN
  refine wpStill_of_quiet _ _ ?_
  repeat (go_big_quiet_step (fail))
  refine wpQuiet_nil ?_
  have c6 := HS1.out.blk.cell 6
  simp only [List.getElem?_toArray, List.getElem?_cons_zero, List.getElem?_cons_succ] at c6
  obtain ⟨i0, hi0, hz0, hz1, hz2⟩ := info_parts slice_info
  have X1 := Lib.hid (show (st.length + 1) * 24 ≤ 140737488355328 by omega)
  have hB1 : b.H0 ≤ w1.heap.size := Nat.le_of_lt HS1.out.lt
  go_wp2_with (at_builtin; refine list_push _ rfl (.tmp 34) (.tmp 36) 22 rfl b.H0 23 i0 (.slice none 0 0) 1 24 Tryz.underlying22 hi0 hz0 hz1 hz2 rfl (by decide) vs st.length (st.map encR) rfl (HS1.out.s.alloc _) w1.heap.size #[encR (CA, cc, p)] rfl (Blk.new w1 _ _) rfl (by intro u hu; rw [List.mem_singleton.1 hu]; rfl) X1.out (by decide) hB1 ?_; intro g cap w3 ho3 hg3 hat3 hlt3; have HPU := Lib.hid (HS1.out.step HO1.out ((Kept.refl (fun _ => False) w1).alloc (.cells #[encR (CA, cc, p)] 23)) ho3 hg3 hat3); obtain ⟨cs3, hb3, hc3⟩ := HPU.out.1; have y3 := (hb3.cell 6).trans hc3; have f3 := hb3.frozen 6; clear ho3 hg3 hat3 c6 hb3 hc3)
  · have hp0 : ((p.length : Int) == 0) = true := by assumption
    have hpe : p = [] := List.eq_nil_of_length_eq_zero (by simpa using hp0)
    go_ret
    exact ⟨HB1.out.trans HPU.out.2.2, _, _, _, _, _, _, (CA, cc, p), rfl, .inl ⟨hpe, rfl, HPU.out.2.1⟩⟩
  · have hp0 : ((p.length : Int) == 0) = false := by assumption
    have hpl : p.length ≠ 0 := by simpa using hp0
    have HS4 := Lib.hid HPU.out.2.1
    have HB4 := Lib.hid (HB1.out.trans HPU.out.2.2)
    rw [hp0]
    clear HPU y3 f3 hlt3 HS1 HO1 HB1 HROW X1 hB1 hp0
    generalize w3.setCell ⟨b.bs, 6, none⟩ (.slice (some ⟨g, 0, none⟩) (st.length + 1) cap) = w4 at *
    generalize (Value.slice (some ⟨g, 0, none⟩) (st.length + 1) cap) = vs4 at *
    go_loopg [45] p.length (BumpAt w b n vl vp vs4 k M R (st ++ [(CA, cc, p)]) lr ph p.length)
    case atStart => exact ⟨0, S, lr, rfl, by omega, HS4.out, HB4.out, fun _ => Iff.rfl⟩
    case round =>
      obtain ⟨i, S2, lr2, rfl, hig, hss, hbel, hmem⟩ := hrel
      clear HS4 HB4
      have hoff : Off wr (Zs wr b S2 vl vp vs4) (CA, cc, p) := hss.rows _ (by simp)
      cases gk with
      | succ gm =>
        have hi : i < p.length := by omega
        have d1 : decide (i < p.length) = true := decide_eq_true hi
        have hx := HPR.out p[i] (List.getElem_mem hi)
        obtain ⟨gg, off2, hGA, hgg, hcell⟩ := hoff.row.at_.resolve_left hpl
        have hGA : CA = some ⟨gg, off2, none⟩ := hGA
        subst hGA
        have y1 := hcell i hi
        simp only at y1
        generalize p[i] = x at *
        obtain ⟨m, hm⟩ : ∃ m : Nat, (x / 2).toNat = m := ⟨_, rfl⟩
        have hxm : x / 2 = (m : Int) := by omega
        have c4 := hss.blk.cell 4
        simp only [List.getElem?_toArray, List.getElem?_cons_zero, List.getElem?_cons_succ] at c4
        have KB := bump_H hss.h (x := m) (by omega)
        have t3 : (0 : Int) ≤ (i : Int) := by omega
        have t4 : (i : Int) < (p.length : Int) := by omega
        obtain ⟨hx0, hx1⟩ := hx
        have HSS := Lib.hid hss
        have HBE := Lib.hid hbel
        have HME := Lib.hid hmem
        clear hss hbel hmem hoff hcell hm
        go_wp2_with (go_at_call 58; (with_reducible refine KB.mono ?_); rintro e w5 ⟨S3, lr3, rfl, hh3, hm3, hk3, hs3⟩; have HSS3 := Lib.hid (HSS.out.heap hk3 hh3 hs3); have HB3 := Lib.hid (HBE.out.trans (hk3.below (Nat.le_of_lt HSS.out.lt) (fun i hi => (HSS.out.h.low hi).1))); have HM3 := Lib.hid hm3; clear hh3 hm3 hk3 hs3)
        go_roundg gm
        case measure => omega
        case rel => exact ⟨i + 1, S3, lr3, by go_num, by omega, HSS3.out, HB3.out, fun y => (HM3.out y).trans (HME.out y)⟩
      | zero =>
        obtain rfl : i = p.length := by omega
        have d1 : decide (p.length < p.length) = false := by simp
        have c2 := hss.blk.cell 2
        simp only [List.getElem?_toArray, List.getElem?_cons_zero, List.getElem?_cons_succ] at c2
        rw [HVN.out] at c2
        simp only [Option.getD_none] at c2
        obtain ⟨j0, hj0, jz0, jz1, jz2⟩ := info_parts slice_info
        have X2 := Lib.hid (show (R.length + 1) * 24 ≤ 140737488355328 by omega)
        have hB5 : b.H0 ≤ wr.heap.size := Nat.le_of_lt hss.lt
        have HSS := Lib.hid hss
        have HBE := Lib.hid hbel
        have HME := Lib.hid hmem
        have HOF := Lib.hid hoff
        clear hss hbel hmem hoff
        go_wp2_with (at_builtin; refine list_push _ rfl (.tmp 61) (.tmp 63) 22 rfl b.H0 23 j0 (.slice none 0 0) 1 24 Tryz.underlying22 hj0 jz0 jz1 jz2 rfl (by decide) vl R.length (R.map encR) rfl (HSS.out.l.alloc _) wr.heap.size #[encR (CA, cc, p)] rfl (Blk.new wr _ _) rfl (by intro u hu; rw [List.mem_singleton.1 hu]; rfl) X2.out (by decide) hB5 ?_; intro g6 cap6 w6 ho6 hg6 hat6 hlt6; have HP6 := Lib.hid (HSS.out.clause HRN.out HOF.out ((Kept.refl (fun _ => False) wr).alloc (.cells #[encR (CA, cc, p)] 23)) ho6 hg6 hat6); obtain ⟨cs6, hb6, hc6⟩ := HP6.out.1; have y6 := (hb6.cell 2).trans hc6; have f6 := hb6.frozen 2; have z7 := HP6.out.2.1.blk.cell 7; simp only [List.getElem?_toArray, List.getElem?_cons_zero, List.getElem?_cons_succ] at z7; clear ho6 hg6 hat6 c2 hb6 hc6)
        have HS7 := Lib.hid HP6.out.2.1
        have HB7 := Lib.hid (HBE.out.trans HP6.out.2.2)
        clear HP6 y6 f6 hlt6 HSS HBE HOF X2 hB5
        generalize w6.setCell ⟨b.bs, 2, none⟩ (.slice (some ⟨g6, 0, none⟩) (R.length + 1) cap6) = w7 at *
        generalize (Value.slice (some ⟨g6, 0, none⟩) (R.length + 1) cap6) = vl7 at *
        refine (restarts_ok HS7.out).mono ?_
        rintro e w8 ⟨rr, rfl, hs8, hb8⟩
        have HS8 := Lib.hid hs8
        have HB8 := Lib.hid (HB7.out.trans hb8)
        clear hs8 hb8 HS7 HB7
        have c2 := HS8.out.blk.cell 2
        cases rr with
        | false =>
          have K9 : Calls Tryz.prog 59 #[.pointer (some ⟨b.bs, 0, none⟩), .int .i64 (bb : Nat)] w8 _ := sback_ok HS8.out HPI.out.inv.mn (lev := bb) HBB.out
          clear c2 z7
          go_wp2_with (go_at_call 59; (with_reducible refine K9.mono ?_); rintro e w9 ⟨S9, lr9, ph9, rfl, hs9, hb9, hl9, hg9⟩; have HS9 := Lib.hid hs9; have HB9 := Lib.hid (HB8.out.trans hb9); have HL9 := Lib.hid hl9; have HG9 := Lib.hid hg9; clear hs9 hb9 hl9 hg9)
          go_ret
          refine ⟨HB9.out, S9, _, _, _, lr9, ph9, (CA, cc, p), rfl, .inr ⟨fun e => hpl (by rw [e]; rfl), rfl, bb, .inl rfl, HS9.out, fun v hv hn => ?_⟩⟩
          rcases back_open hn with h1 | ⟨x, hx, e⟩
          · exact HL9.out _ ((HME.out _).2 (HPI.out.heap v hv h1))
          · have := HG9.out x hx
            rw [e] at this
            exact this
        | true =>
          have K9 : Calls Tryz.prog 59 #[.pointer (some ⟨b.bs, 0, none⟩), .int .i64 0] w8 _ := sback_ok HS8.out HPI.out.inv.mn (lev := 0) (Nat.zero_le _)
          clear c2 z7
          go_wp2_with (go_at_call 59; (with_reducible refine K9.mono ?_); rintro e w9 ⟨S9, lr9, ph9, rfl, hs9, hb9, hl9, hg9⟩; have HS9 := Lib.hid hs9; have HB9 := Lib.hid (HB8.out.trans hb9); have HL9 := Lib.hid hl9; have HG9 := Lib.hid hg9; clear hs9 hb9 hl9 hg9)
          go_ret
          refine ⟨HB9.out, S9, _, _, _, lr9, ph9, (CA, cc, p), rfl, .inr ⟨fun e => hpl (by rw [e]; rfl), rfl, 0, .inr rfl, HS9.out, fun v hv hn => ?_⟩⟩
          rcases back_open hn with h1 | ⟨x, hx, e⟩
          · exact HL9.out _ ((HME.out _).2 (HPI.out.heap v hv h1))
          · have := HG9.out x hx
            rw [e] at this
            exact this
end
end Go.Proofs.YtmbekchnfbmhbaaGreat

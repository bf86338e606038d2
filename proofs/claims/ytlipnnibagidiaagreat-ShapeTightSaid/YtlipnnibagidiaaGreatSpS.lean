/- The plain side of layer 14: a connective turned about breaks a clause. -/
import Derived.Test.YtlipnnibagidiaaGreatVlX
namespace Go.Proofs.YtlipnnibagidiaaGreat
open Go.RowKit Go.Lib
def toldF (T : List Nd) (val : Int → Int) (i : Nat) : Int := if (ndAt T i).sort = 0 then 2 - val i else 0
def ToldIs (T : List Nd) (w : World) (e : Ending) (w' : World) : Prop :=
  ∃ v ok, e = .returned (.tuple #[v, .bool ok]) ∧ (ok = true → ∃ b val, v = .slice (some ⟨b, 0, none⟩) T.length T.length ∧ w.heap.size ≤ b ∧ Blk w' b 44 (i8Cells T.length (toldF T val)) ∧ ∀ i : Int, 0 ≤ i → i < T.length → NodeSem T val i) ∧ Below w.heap.size w w'
structure TX (w : World) (B : Nat) (A : Option Addr) (T : List Nd) (c : Nat) (q qc : Nat) (vals : List Int) (q2 qc2 : Nat) (overs : List Bool) (ab : Nat) (F : Nat → Int) (W : World) : Prop where
  tb : Blk W (B + 1 + 1) 33 #[.slice A T.length c]
  hB : w.heap.size = B
  own : W.ownsRow (B + 1 + 1 + 1) 3 1 (.slice (some ⟨q, 0, none⟩) T.length qc) T.length (vals.map (Value.int .i64))
  oown : W.ownsRow (B + 1 + 1 + 1) 4 1 (.slice (some ⟨q2, 0, none⟩) T.length qc2) T.length (overs.map Value.bool)
  a : Blk W ab 44 (i8Cells T.length F)
  lo : B + 1 + 1 + 1 ≤ ab
  bel : Below B w W
theorem TX.set {w W : World} {B : Nat} {A : Option Addr} {T : List Nd} {c q qc : Nat} {vals : List Int} {q2 qc2 : Nat} {overs : List Bool} {ab : Nat} {F : Nat → Int} (h : TX w B A T c q qc vals q2 qc2 overs ab F W) (i : Nat) (x : Int) : TX w B A T c q qc vals q2 qc2 overs ab (updI F i x) (W.setCell ⟨ab, i, none⟩ (.int .i8 x)) := by
  have hk := Kept.set1 W ab i (.int .i8 x)
  have ha := h.a.set_ i (.int .i8 x)
  rw [i8Cells_set] at ha
  have hlo := h.lo
  have hB := h.hB
  have hsz := h.bel.size
  exact ⟨h.tb.kept hk (by omega), h.hB, own_kept h.own hk (fun b e hb => own_blk_ne h.own h.a (by decide) (by rw [e, hb])), own_kept h.oown hk (fun b e hb => own_blk_ne h.oown h.a (by decide) (by rw [e, hb])), ha, h.lo, h.bel.trans (hk.below (by omega) (fun b e => by omega))⟩
set_option maxRecDepth 100000 in
set_option maxHeartbeats 16000000 in
theorem told_ok {g : SigV} {wl : WldV} {T : List Nd} {w : World} {A : Option Addr} (c : Nat) (hg : SigAt w g) (hd : SigDeep w g) (hw : WldAt w wl) (hwf : WldWf wl) (h : Tab w A T) :
    Calls Tryz.prog 15 #[.agg g.cells, .agg wl.cells, .agg #[.slice A T.length c]] w (ToldIs T w) := by
  have hlen := h.len
  obtain ⟨j0, ji0, jz0, jz1, jz2⟩ := info_parts int8_info
  obtain ⟨B, hB⟩ : ∃ B, w.heap.size = B := ⟨_, rfl⟩
  obtain ⟨w0, hw0⟩ : ∃ w0, ((w.alloc (.cells g.cells 26)).alloc (.cells wl.cells 30)).alloc (.cells #[.slice A T.length c] 33) = w0 := ⟨_, rfl⟩
  have HV0 : Hid (VX w B g wl A T c (.slice none 0 0) [] (.slice none 0 0) [] w0) := Lib.hid (by
    rw [← hw0, ← hB]
    exact ⟨((Blk.new w 26 g.cells).alloc _).alloc _, (Blk.new_at (by simp) _ _).alloc _, Blk.new_at (by simp) _ _, rfl, World.ownsRow_nil _ _ _ _, World.ownsRow_nil _ _ _ _, (((Below.refl _ w).alloc (Nat.le_refl _) _).alloc (by simp) _).alloc (by simp; omega) _⟩)
  have HS0 : Hid (w0.heap.size = B + 1 + 1 + 1) := Lib.hid (by rw [← hw0, ← hB]; simp)
  have HT := Lib.hid h
  have HBw : Hid (∀ W, Below B w W → Below w.heap.size w W) := Lib.hid (fun W hW => by rw [hB]; exact hW)
  have hb0 := HBw.out _ HV0.out.bel
  have KV := Lib.hid (values_ok c (hg.below hb0) (hd.below hb0) (hw.below hb0) hwf (h.below hb0))
  have HGC : Hid (g.cells = #[.slice g.A0 g.sorts.length g.c0, .slice g.A1 g.funs.length g.c1, .slice g.A2 g.macs.length g.c2]) := Lib.hid rfl
  have HVC : Hid (wl.cells = #[.slice wl.A0 wl.sizes.length wl.c0, .slice wl.A1 wl.funs.length wl.c1]) := Lib.hid rfl
  have HNo : Hid (∀ W, Below B w W → ToldIs T w (.returned (.tuple #[.slice none 0 0, .bool false])) W) := Lib.hid (fun W hW => ⟨_, false, rfl, (fun e => by cases e), HBw.out _ hW⟩)
  have HBs := Lib.hid hB
  rw [HGC.out, HVC.out] at hw0 KV ⊢
  have HW0 := Lib.hid hw0
  clear hw0 hg hd hw hwf h hb0
  go_enter Tryz.func15, Tryz.ntmps15
  go_upto_region 1 with fail
  rw [HW0.out]
  clear HW0 hB
  obtain ⟨x0, x1, x2⟩ := sig_blk HV0.out.sg
  obtain ⟨x3, x4⟩ := wld_blk HV0.out.wd
  have x5 := tab_box HV0.out.tb
  go_wp2_with fail
  refine KV.out.mono ?_
  rintro e w1 ⟨v1, v2, er, rfl, hyes, hb1⟩
  have HY := Lib.hid hyes
  have HV1 := Lib.hid (HV0.out.below hb1)
  clear hyes hb1 x0 x1 x2 x3 x4 x5 KV
  by_cases he : er = 0
  rotate_left
  · have e1 : (er != 0) = true := bne_iff_ne.2 he
    clear he
    go_wp2
    exact bodyPost_ret (v := .tuple #[.slice none 0 0, .bool false]) (by simp [results, Tryz.results15, go_sem]) rfl (HNo.out _ HV1.out.bel)
  have e1 : (er != 0) = false := by rw [he]; rfl
  obtain ⟨hTO, hMw, hRu, vals, overs, hF, ho1, ho2⟩ := HY.out he
  have h2 := hTO.len
  obtain ⟨q, qc, hv1, _, _, _⟩ := own_form ho1 (by omega)
  obtain ⟨q2, qc2, hv2, _, _, _⟩ := own_form ho2 (by omega)
  subst hv1 hv2
  have HF := Lib.hid hF
  have hms := run_make_rowN (P := Tryz.prog) 41 44 j0 (.int .i8 0) Tryz.underlying41 ji0 jz0 .i64 .i64 T.length T.length (Nat.le_refl _) (by rw [jz2]; omega) (by omega) w1
  rw [jz1, Nat.mul_one, show (Value.int .i8 0).cells = #[Value.int .i8 0] from rfl, i8Cells_made] at hms
  obtain ⟨ab, hab⟩ : ∃ ab, w1.heap.size = ab := ⟨_, rfl⟩
  rw [HS0.out] at ho1 ho2
  have HX0 : Hid (TX w B A T c q qc vals q2 qc2 overs ab (fun _ => 0) (w1.alloc (.cells (i8Cells T.length (fun _ => 0)) 44))) := Lib.hid (by
    have hal : Below w1.heap.size w1 (w1.alloc (.cells (i8Cells T.length (fun _ => 0)) 44)) := (Below.refl _ w1).alloc (Nat.le_refl _) _
    have hlt := HV1.out.tb.lt
    exact ⟨HV1.out.tb.alloc _, HV1.out.hB, ho1.alloc _, ho2.alloc _, hab ▸ Blk.new w1 _ _, by omega, HV1.out.bel.alloc (by rw [← HBs.out]; exact HV1.out.bel.size) _⟩)
  have HAb := Lib.hid hab
  rw [hab] at hms
  clear he hTO hMw hRu hF ho1 ho2 hab HY HV0
  go_wp2
  go_loopg [12] T.length (fun gg v W => ∃ (i : Nat) (F : Nat → Int), i + gg = T.length ∧ v = .int .i64 i ∧ (∀ k, k < i → overs.getD k true = false) ∧ (∀ k, k < T.length → F k = if k < i then toldF T (vf vals) k else 0) ∧ TX w B A T c q qc vals q2 qc2 overs ab F W)
  case atStart => exact ⟨0, fun _ => 0, by omega, rfl, fun k hk => absurd hk (by omega), fun k _ => rfl, HX0.out⟩
  case round =>
    obtain ⟨i, F, hig, rfl, hov, hFF, hx⟩ := hrel
    have HX := Lib.hid hx
    have HOv := Lib.hid hov
    have HFF := Lib.hid hFF
    have c0 := tab_box HX.out.tb
    clear hx hov hFF HX0
    cases gk with
    | zero =>
      obtain rfl : i = T.length := by omega
      have d1 : decide ((T.length : Int) < T.length) = false := by simp
      go_wp2
      refine bodyPost_ret (v := .tuple #[.slice (some ⟨ab, 0, none⟩) T.length T.length, .bool true]) (by simp [results, Tryz.results15, go_sem]) rfl ?_
      refine ⟨_, true, rfl, fun _ => ⟨ab, vf vals, rfl, ?_, ?_, ?_⟩, HBw.out _ HX.out.bel⟩
      · have := HX.out.lo
        rw [HBs.out]
        omega
      · have ha := HX.out.a
        rwa [show i8Cells T.length F = i8Cells T.length (toldF T (vf vals)) from by
          unfold i8Cells
          congr 1
          refine List.map_congr_left fun k hk => ?_
          have hk' := List.mem_range.1 hk
          rw [HFF.out k hk', if_pos hk']] at ha
      · intro k h0 h1
        obtain ⟨k', rfl⟩ : ∃ k' : Nat, k = k' := ⟨k.toNat, by omega⟩
        exact HF.out.sem k' (by omega) (HOv.out k' (by omega))
    | succ gk =>
      have hlt : i < T.length := by omega
      have d1 : decide ((i : Int) < T.length) = true := by simp; omega
      have t1 : (0 : Int) ≤ (i : Int) := by omega
      have t2 : (i : Int) < (T.length : Int) := by omega
      have y1 := own_int_at HX.out.own (k := i) (by rw [HF.out.l1]; exact hlt)
      have y2 := own_bool_at HX.out.oown (k := i) (by rw [HF.out.l2]; exact hlt)
      obtain ⟨ov, hovv⟩ : ∃ ov, overs.getD i true = ov := ⟨_, rfl⟩
      rw [hovv] at y2
      cases ov with
      | true =>
        clear hovv
        go_wp2
        exact bodyPost_ret (v := .tuple #[.slice none 0 0, .bool false]) (by simp [results, Tryz.results15, go_sem]) rfl (HNo.out _ HX.out.bel)
      | false =>
        have HO2 : Hid (∀ k, k < i + 1 → overs.getD k true = false) := Lib.hid (fun k hk => by
          by_cases e : k = i
          · rw [e]; exact hovv
          · exact HOv.out k (by omega))
        have HSem := Lib.hid (HF.out.sem i hlt hovv)
        obtain ⟨b, off, hA, hbb, hcell⟩ := (HT.out.below (HBw.out _ HX.out.bel)).at_.resolve_left (by omega)
        obtain ⟨z0, z1, z2, z3, z4, z5, z6, z7⟩ := (hcell i hlt).all
        have HNd := Lib.hid (ndAt_nat (T := T) hlt)
        subst hA
        clear hovv hcell hbb z0 z1 z2 z3 z4 z6 z7
        by_cases hs : T[i].sort = 0
        · have e2 : (T[i].sort == 0) = true := beq_iff_eq.2 hs
          have hb01 := HSem.out.bool (by rw [HNd.out]; exact hs)
          have ya : wr.cell? ⟨ab, i, none⟩ = some (.int .i8 (F i)) := by rw [HX.out.a.cell]; exact i8Cells_get hlt
          have yf := HX.out.a.frozen i
          have HNext : Hid (∀ x, x = 2 - vf vals (i : Int) → ∀ k, k < T.length → updI F i x k = if k < i + 1 then toldF T (vf vals) k else 0) := Lib.hid (fun x hx k hk => by
            unfold updI
            by_cases e : k = i
            · rw [if_pos e, if_pos (by omega), e]
              unfold toldF
              rw [HNd.out, if_pos hs, hx]
            · rw [if_neg e, HFF.out k hk]
              by_cases e2 : k < i
              · rw [if_pos e2, if_pos (by omega)]
              · rw [if_neg e2, if_neg (by omega)])
          generalize T[i] = n at *
          generalize F i = fi at *
          generalize vf vals (i : Int) = x at *
          clear hs
          rcases hb01 with rfl | rfl
          · have HX2 := Lib.hid (HX.out.set i 2)
            go_wp2
            go_roundg gk
            case measure => omega
            case rel => exact ⟨i + 1, _, by omega, by go_num, HO2.out, HNext.out 2 (by decide), HX2.out⟩
          · have HX2 := Lib.hid (HX.out.set i 1)
            go_wp2
            go_roundg gk
            case measure => omega
            case rel => exact ⟨i + 1, _, by omega, by go_num, HO2.out, HNext.out 1 (by decide), HX2.out⟩
        · have e2 : (T[i].sort == 0) = false := beq_eq_false_iff_ne.2 hs
          have HNext : Hid (∀ k, k < T.length → F k = if k < i + 1 then toldF T (vf vals) k else 0) := Lib.hid (fun k hk => by
            rw [HFF.out k hk]
            by_cases e : k = i
            · rw [if_neg (by omega), if_pos (by omega), e]
              unfold toldF
              rw [HNd.out, if_neg hs]
            · by_cases e2 : k < i
              · rw [if_pos e2, if_pos (by omega)]
              · rw [if_neg e2, if_neg (by omega)])
          generalize T[i] = n at *
          clear hs
          go_wp2
          go_roundg gk
          case measure => omega
          case rel => exact ⟨i + 1, _, by omega, by go_num, HO2.out, HNext.out, HX.out⟩
theorem Row8.below {w w' : World} {A : Option Addr} {zs : List Int} (h : Row8 w A zs) (hb : Below w.heap.size w w') : Row8 w' A zs := by
  refine ⟨h.len, h.at_.imp id fun ⟨b, off, h1, h2, h3⟩ => ⟨b, off, h1, Nat.lt_of_lt_of_le h2 hb.size, fun i hi => ?_⟩⟩
  rw [hb.cell (p := ⟨b, off + i, none⟩) h2]
  exact h3 i hi
def onA (vals : List Int) (x : Int) : Bool := decide (vals.getD (x / 2).toNat 0 = 1 + x % 2)
def HoldIs (rows : List (Option Addr × Nat × List Int)) (vals : List Int) (w : World) (e : Ending) (w' : World) : Prop := ∃ b, e = .returned (.bool b) ∧ (b = true ↔ ∀ r ∈ rows, ∃ x ∈ r.2.2, onA vals x = true) ∧ Below w.heap.size w w'
set_option maxRecDepth 100000 in
set_option maxHeartbeats 8000000 in
theorem holds14_ok {w : World} {B : Option Addr} {v : Value} {N : Nat → Prop} {rows : List (Option Addr × Nat × List Int)} {vals : List Int} (cap2 : Nat) (h : GridV N w v rows) (hv : Row8 w B vals) (hm : ∀ r ∈ rows, ∀ x ∈ r.2.2, 0 ≤ x ∧ x / 2 < vals.length) (h2 : ∀ x ∈ vals, 0 ≤ x ∧ x ≤ 2) :
    Calls Tryz.prog 18 #[v, .slice B vals.length cap2] w (HoldIs rows vals w) := by
  have hlen := h.len
  have hvl := hv.len
  obtain ⟨A, cap, rfl, _, _, hat⟩ := h.form
  have HAt := Lib.hid hat
  have HR := Lib.hid h.rows
  have Hm := Lib.hid hm
  have Hv := Lib.hid hv
  have H2 := Lib.hid h2
  have HPost : Hid (∀ b W, (b = true ↔ ∀ r ∈ rows, ∃ x ∈ r.2.2, onA vals x = true) → Below w.heap.size w W → HoldIs rows vals w (.returned (.bool b)) W) := Lib.hid (fun b W h1 h2 => ⟨b, rfl, h1, h2⟩)
  clear h hm hv hat h2
  go_enter Tryz.func18, Tryz.ntmps18
  go_wp2
  go_loopg [5] rows.length (fun g v wx => ∃ i : Nat, i + g = rows.length ∧ v = .int .i64 i ∧ (∀ r ∈ rows.take i, ∃ x ∈ r.2.2, onA vals x = true) ∧ Below w.heap.size w wx)
  case atStart => exact ⟨0, by omega, rfl, (fun r hr => by rw [List.take_zero] at hr; cases hr), Below.refl _ _⟩
  case round =>
    obtain ⟨i, hig, rfl, hall, hb⟩ := hrel
    have HA := Lib.hid hall
    have HB := Lib.hid hb
    clear hall hb
    cases gk with
    | zero =>
      have d1 : decide ((i : Int) < rows.length) = false := by simp; omega
      obtain rfl : i = rows.length := by omega
      go_wp2
      go_ret
      exact HPost.out _ _ ⟨fun _ r hr => HA.out r (by rw [List.take_length]; exact hr), fun _ => rfl⟩ HB.out
    | succ k =>
      have hin : i < rows.length := by omega
      have d1 : decide ((i : Int) < rows.length) = true := by simp; omega
      obtain ⟨b, off, hA, _, hb, hcell⟩ := HAt.out.resolve_left (by omega)
      subst hA
      have hmem : rows[i] ∈ rows := List.getElem_mem hin
      obtain ⟨hrow, _, _⟩ := HR.out rows[i] hmem
      have hx := Hm.out rows[i] hmem
      have HBad : Hid ((¬ ∃ x ∈ rows[i].2.2, onA vals x = true) → ¬ ∀ r ∈ rows, ∃ x ∈ r.2.2, onA vals x = true) := Lib.hid (fun hn ha => hn (ha _ hmem))
      have HGood : Hid ((∃ x ∈ rows[i].2.2, onA vals x = true) → ∀ r ∈ rows.take (i + 1), ∃ x ∈ r.2.2, onA vals x = true) := Lib.hid (fun hn r hr => by
        rw [List.take_add_one, List.getElem?_eq_getElem hin] at hr
        rcases List.mem_append.1 hr with hr | hr
        · exact HA.out r hr
        · simp at hr
          rw [hr]
          exact hn)
      have hc0 := hcell i hin
      unfold encR at hc0
      have t1 : (0 : Int) ≤ (i : Int) := by omega
      have t2 : (i : Int) < (rows.length : Int) := by omega
      clear hcell hmem
      generalize rows[i].1 = xa at *
      generalize rows[i].2.1 = xc at *
      generalize rows[i].2.2 = c at *
      have hcl := hrow.len
      have HRow := Lib.hid hrow.row
      have HC0 : Hid (∀ W, Below w.heap.size w W → W.cell? ⟨b, off + i, none⟩ = some (.slice xa c.length xc)) := Lib.hid (fun W hW => (hW.cell (p := ⟨b, off + i, none⟩) hb).trans hc0)
      have HX := Lib.hid hx
      clear hx hrow hc0 hb
      go_wp2
      go_loopg [7, 6] c.length (fun gg v vo wx => ∃ (j : Nat) (ok : Bool), j + gg = c.length ∧ v = .int .i64 j ∧ vo = .bool ok ∧ (ok = true ↔ ∃ x ∈ c.take j, onA vals x = true) ∧ Below w.heap.size w wx)
      case atStart => exact ⟨0, false, by omega, rfl, rfl, by simp, HB.out⟩
      case round =>
        obtain ⟨j, ok, hjg, rfl, rfl, hok, hb⟩ := hrel
        have HOk := Lib.hid hok
        have HB2 := Lib.hid hb
        have c0 := HC0.out _ hb
        clear hok hb
        cases gk with
        | zero =>
          obtain rfl : j = c.length := by omega
          have f1 : decide ((c.length : Int) < c.length) = false := by simp
          cases ok with
          | true =>
            have HG2 := Lib.hid (HGood.out (by have := HOk.out.1 rfl; rwa [List.take_length] at this))
            go_wp2
            go_roundg k
            case measure => omega
            case rel => exact ⟨i + 1, by omega, by go_num, HG2.out, HB2.out⟩
          | false =>
            have HG2 := Lib.hid (HBad.out (fun h => by have := HOk.out.2 (by rw [List.take_length]; exact h); cases this))
            go_wp2
            go_ret
            exact HPost.out _ _ ⟨(fun h => by cases h), fun h => absurd h HG2.out⟩ HB2.out
        | succ g2 =>
          have hjl : j < c.length := by omega
          have f1 : decide ((j : Int) < c.length) = true := by simp; omega
          obtain ⟨b2, off2, hA2, hb2, hc2⟩ := (HRow.out.below HB2.out).at_.resolve_left (by omega)
          have y0 := hc2 j hjl
          have hx := HX.out c[j] (List.getElem_mem hjl)
          have HOk2 : Hid (∀ o : Bool, o = (ok || onA vals c[j]) → (o = true ↔ ∃ x ∈ c.take (j + 1), onA vals x = true)) := Lib.hid (fun o ho => by
            rw [ho, Bool.or_eq_true, HOk.out, List.take_add_one, List.getElem?_eq_getElem hjl]
            simp only [Option.toList_some, List.mem_append, List.mem_singleton]
            constructor
            · rintro (⟨x, h1, h2⟩ | h)
              · exact ⟨x, .inl h1, h2⟩
              · exact ⟨_, .inr rfl, h⟩
            · rintro ⟨x, h1 | h1, h2⟩
              · exact .inl ⟨x, h1, h2⟩
              · rw [h1] at h2; exact .inr h2)
          subst hA2
          clear hc2 hb2
          generalize c[j] = x at *
          have s1 : (0 : Int) ≤ (j : Int) := by omega
          have s2 : (j : Int) < (c.length : Int) := by omega
          obtain ⟨q, hq⟩ : ∃ q : Nat, x / 2 = q := ⟨(x / 2).toNat, by omega⟩
          have hql : q < vals.length := by omega
          obtain ⟨b3, off3, hA3, hb3, hc3⟩ := (Hv.out.below HB2.out).at_.resolve_left (by omega)
          have y1 := hc3 q hql
          have hv2 := H2.out vals[q] (List.getElem_mem hql)
          have HOn : Hid (onA vals x = decide (vals[q] = 1 + x % 2)) := Lib.hid (by
            unfold onA
            rw [hq, Int.toNat_natCast, List.getD_eq_getElem?_getD, List.getElem?_eq_getElem hql]
            rfl)
          subst hA3
          clear hc3 hb3
          generalize vals[q] = a at *
          have q1 : x.tdiv 2 = q := by rw [Int.tdiv_eq_ediv_of_nonneg hx.1]; exact hq
          obtain ⟨r, hr⟩ : ∃ r : Int, x % 2 = r := ⟨_, rfl⟩
          have q2 : x.tmod 2 = r := by rw [Int.tmod_eq_emod_of_nonneg hx.1]; exact hr
          rw [hr] at HOn
          have u1 : (0 : Int) ≤ (q : Int) := by omega
          have u2 : (q : Int) < (vals.length : Int) := by omega
          have u3 : decide ((q : Int) < (vals.length : Int)) = true := decide_eq_true u2
          have u4 : wrap64 a = a := IntWalk.wrap64_in a ⟨by omega, by omega⟩
          have u5 : wrap64 (1 + r) = 1 + r := IntWalk.wrap64_in _ ⟨by omega, by omega⟩
          have u6 : IntKind.i64.wrap a = a := by unfold IntKind.wrap; simp [IntKind.bits, IntKind.signed]; omega
          obtain ⟨o, ho⟩ : ∃ o, (a == 1 + r) = o := ⟨_, rfl⟩
          have HOo : Hid (onA vals x = o) := Lib.hid (by rw [HOn.out, ← ho]; by_cases e : a = 1 + r <;> simp [e])
          clear hx hq hr hv2 HOn
          cases ok with
          | true =>
            go_wp2
            go_quiet (fail)
            go_wp2
            go_roundg g2
            case measure => omega
            case rel => exact ⟨j + 1, true, by omega, by go_num, rfl, HOk2.out true rfl, below_drewN HB2.out nq⟩
          | false =>
            go_wp2
            go_quiet (fail)
            go_wp2
            go_roundg g2
            case measure => omega
            case rel => exact ⟨j + 1, o, by omega, by go_num, rfl, HOk2.out o (by rw [HOo.out]; rfl), below_drewN HB2.out nq⟩
theorem sortM_out {T : List Nd} {x : Int} (h : x < 0 ∨ (T.length : Int) ≤ x) : sortM T x = -1 := by
  unfold sortM
  split
  · rfl
  · rw [List.getElem?_eq_none (by omega)]
theorem sortM_in {T : List Nd} {i : Nat} (h : i < T.length) : sortM T i = T[i].sort := by
  unfold sortM
  rw [if_neg (by omega), Int.toNat_natCast, List.getElem?_eq_getElem h]
theorem int_cases {T : List Nd} (x : Int) : (x < 0) ∨ (0 ≤ x ∧ (T.length : Int) ≤ x) ∨ ∃ i : Nat, x = i ∧ i < T.length := by
  by_cases h : x < 0
  · exact .inl h
  · by_cases h2 : (T.length : Int) ≤ x
    · exact .inr (.inl ⟨by omega, h2⟩)
    · exact .inr (.inr ⟨x.toNat, by omega, by omega⟩)
theorem rsort_ok {w : World} {A : Option Addr} {c : Nat} {T : List Nd} (h : Tab w A T) (x : Int) :
    Calls Tryz.prog 44 #[.agg #[.slice A T.length c], .int .i64 x] w fun e w' => e = .returned (.int .i64 (sortM T x)) ∧ Below w.heap.size w w' := by
  have HT := Lib.hid h
  have HB := Lib.hid (show Below w.heap.size w (w.alloc (.cells #[.slice A T.length c] 33)) from (Below.refl _ w).alloc (Nat.le_refl _) _)
  clear h
  rcases int_cases (T := T) x with h0 | ⟨h0, h1⟩ | ⟨i, rfl, hi⟩
  · have d0 : decide (x < 0) = true := decide_eq_true h0
    rw [sortM_out (.inl h0)]
    clear h0
    go_enter Tryz.func44, Tryz.ntmps44
    go_wp2
    go_ret
    exact ⟨rfl, HB.out⟩
  · have d0 : decide (x < 0) = false := decide_eq_false (by omega)
    have d1 : decide ((T.length : Int) ≤ x) = true := decide_eq_true h1
    rw [sortM_out (.inr h1)]
    clear h0 h1
    go_enter Tryz.func44, Tryz.ntmps44
    go_wp2
    go_ret
    exact ⟨rfl, HB.out⟩
  · have d0 : decide ((i : Int) < 0) = false := decide_eq_false (by omega)
    have d1 : decide ((T.length : Int) ≤ (i : Int)) = false := decide_eq_false (by omega)
    have d2 : decide (T.length ≤ i) = false := decide_eq_false (by omega)
    obtain ⟨b, off, hA, hbb, hcell⟩ := HT.out.at_.resolve_left (by omega)
    subst hA
    obtain ⟨_, _, _, _, _, y5, _, _⟩ := ((hcell i hi).below HB.out).all
    rw [sortM_in hi]
    generalize T[i].sort = s at *
    have t1 : (0 : Int) ≤ (i : Int) := by omega
    have t2 : (i : Int) < (T.length : Int) := by omega
    clear hcell
    go_enter Tryz.func44, Tryz.ntmps44
    go_wp2
    go_ret
    exact ⟨rfl, HB.out⟩
theorem kindM_no {T : List Nd} {x : Int} (h : ¬ sortM T x = 0) : kindM T x = 0 := by unfold kindM; rw [if_pos h]
theorem kindM_op {T : List Nd} {i : Nat} (hi : i < T.length) (h : T[i].sort = 0) (ho : ¬ T[i].op = 6) : kindM T i = kindOp T[i].op := by
  unfold kindM
  rw [if_neg (by rw [sortM_in hi]; simpa using h), Int.toNat_natCast, List.getElem?_eq_getElem hi]
  simp only
  rw [if_neg ho]
theorem kindM_eq {T : List Nd} {i : Nat} (hi : i < T.length) (h : T[i].sort = 0) (ho : T[i].op = 6) : kindM T i = kindEq (sortM T T[i].a0) := by
  unfold kindM
  rw [if_neg (by rw [sortM_in hi]; simpa using h), Int.toNat_natCast, List.getElem?_eq_getElem hi]
  simp only
  rw [if_pos ho]
theorem kindOp_far {op : Int} (h : op < 0 ∨ 13 < op) : kindOp op = 0 := by
  unfold kindOp
  repeat' split
  all_goals first | rfl | (exfalso; omega)
theorem kindEq_cases (s : Int) : (s = 0 ∧ kindEq s = 3) ∨ (s = 1 ∧ kindEq s = 5) ∨ (2 ≤ s ∧ kindEq s = 4) ∨ (s < 0 ∧ kindEq s = 0) := by
  unfold kindEq
  by_cases h0 : s = 0
  · rw [if_pos h0]; omega
  by_cases h1 : s = 1
  · rw [if_neg h0, if_pos h1]; omega
  by_cases h2 : 2 ≤ s
  · rw [if_neg h0, if_neg h1, if_pos h2]; omega
  · rw [if_neg h0, if_neg h1, if_neg h2]; omega
def KindIs (T : List Nd) (x : Int) (w : World) (e : Ending) (w' : World) : Prop := e = .returned (.int .i8 (kindM T x)) ∧ Below w.heap.size w w'
set_option maxRecDepth 100000 in
set_option maxHeartbeats 4000000 in
theorem rkind_ok {w : World} {A : Option Addr} {c : Nat} {T : List Nd} (h : Tab w A T) (x : Int) :
    Calls Tryz.prog 16 #[.agg #[.slice A T.length c], .int .i64 x] w (KindIs T x w) := by
  have HT := Lib.hid h
  have HB := Lib.hid (show Below w.heap.size w (w.alloc (.cells #[.slice A T.length c] 33)) from (Below.refl _ w).alloc (Nat.le_refl _) _)
  have KS := Lib.hid (fun y => rsort_ok (c := c) (h.below HB.out) y)
  clear h
  by_cases hs : sortM T x = 0
  rotate_left
  · have b0 : (sortM T x != 0) = true := by simp [hs]
    have HK := Lib.hid (kindM_no hs)
    clear hs
    go_enter Tryz.func16, Tryz.ntmps16
    go_wp2_with fail
    refine (KS.out x).mono ?_
    rintro e w1 ⟨rfl, hb1⟩
    have HB1 := Lib.hid (HB.out.trans (hb1.mono HB.out.size))
    clear hb1
    go_wp2
    go_ret
    exact ⟨by rw [HK.out]; rfl, HB1.out⟩
  rcases int_cases (T := T) x with h0 | ⟨h0, h1⟩ | ⟨i, rfl, hi⟩
  · rw [sortM_out (.inl h0)] at hs; cases hs
  · rw [sortM_out (.inr h1)] at hs; cases hs
  have KS0 := Lib.hid (show Calls Tryz.prog 44 #[.agg #[.slice A T.length c], .int .i64 (i : Int)] (w.alloc (.cells #[.slice A T.length c] 33)) (fun e w' => e = .returned (.int .i64 0) ∧ Below (w.alloc (.cells #[.slice A T.length c] 33)).heap.size (w.alloc (.cells #[.slice A T.length c] 33)) w') from by
    have := KS.out i
    rwa [hs] at this)
  rw [sortM_in hi] at hs
  obtain ⟨b, off, hA, hbb, hcell⟩ := HT.out.at_.resolve_left (by omega)
  subst hA
  have hn := hcell i hi
  have HE := Lib.hid (kindM_eq hi hs)
  have HO := Lib.hid (kindM_op hi hs)
  have t1 : (0 : Int) ≤ (i : Int) := by omega
  have t2 : (i : Int) < (T.length : Int) := by omega
  clear hcell hs
  generalize T[i] = n at *
  have hwf := hn.wf.op
  have HN := Lib.hid hn
  have HBX : Hid (Blk (w.alloc (.cells #[.slice (some ⟨b, off, none⟩) T.length c] 33)) w.heap.size 33 #[.slice (some ⟨b, off, none⟩) T.length c]) := Lib.hid (Blk.new w _ _)
  have HL1 : Hid (w.heap.size < (w.alloc (.cells #[.slice (some ⟨b, off, none⟩) T.length c] 33)).heap.size) := Lib.hid (by simp)
  clear hn
  obtain ⟨ov, hov⟩ : ∃ ov, n.op = ov := ⟨_, rfl⟩
  have HOV := Lib.hid hov
  rw [hov] at hwf
  by_cases h6 : ov = 6
  · subst h6
    have HK := Lib.hid (HE.out hov)
    clear hwf hov
    obtain ⟨sv, hsv⟩ : ∃ sv, sortM T n.a0 = sv := ⟨_, rfl⟩
    have HSV := Lib.hid hsv
    rw [hsv] at HK
    clear hsv
    rcases kindEq_cases sv with ⟨g, e⟩ | ⟨g, e⟩ | ⟨g, e⟩ | ⟨g, e⟩
    · subst g
      have HKE := Lib.hid (HK.out.trans e)
      clear e
      go_enter Tryz.func16, Tryz.ntmps16
      go_wp2_with fail
      refine KS0.out.mono ?_
      rintro e w1 ⟨rfl, hb1⟩
      have HB1 := Lib.hid (HB.out.trans (hb1.mono HB.out.size))
      have hbx := HBX.out.below hb1 HL1.out
      have c0 := hbx.cell 0
      simp only [List.getElem?_toArray, List.getElem?_cons_zero] at c0
      have hlt := hbx.lt
      obtain ⟨y0, y1, y2, y3, y4, y5, y6, y7⟩ := (HN.out.below HB1.out).all
      rw [HOV.out] at y0
      have hbs : b < w1.heap.size := Nat.lt_of_lt_of_le hbb HB1.out.size
      have HBXX := Lib.hid hbx
      clear hb1 hbx
      go_wp2_with fail
      refine (rsort_ok (c := c) (HT.out.below (HB1.out.alloc HB1.out.size _)) n.a0).mono ?_
      rintro e w2 ⟨rfl, hb2⟩
      rw [HSV.out]
      have HB2 := Lib.hid ((HB1.out.alloc HB1.out.size _).trans (hb2.mono (Nat.le_trans HB1.out.size (by simp))))
      clear hb2
      go_wp2
      go_ret
      exact ⟨by rw [HKE.out]; rfl, HB2.out⟩
    · subst g
      have HKE := Lib.hid (HK.out.trans e)
      clear e
      go_enter Tryz.func16, Tryz.ntmps16
      go_wp2_with fail
      refine KS0.out.mono ?_
      rintro e w1 ⟨rfl, hb1⟩
      have HB1 := Lib.hid (HB.out.trans (hb1.mono HB.out.size))
      have hbx := HBX.out.below hb1 HL1.out
      have c0 := hbx.cell 0
      simp only [List.getElem?_toArray, List.getElem?_cons_zero] at c0
      have hlt := hbx.lt
      obtain ⟨y0, y1, y2, y3, y4, y5, y6, y7⟩ := (HN.out.below HB1.out).all
      rw [HOV.out] at y0
      have hbs : b < w1.heap.size := Nat.lt_of_lt_of_le hbb HB1.out.size
      have HBXX := Lib.hid hbx
      clear hb1 hbx
      go_wp2_with fail
      refine (rsort_ok (c := c) (HT.out.below (HB1.out.alloc HB1.out.size _)) n.a0).mono ?_
      rintro e w2 ⟨rfl, hb2⟩
      rw [HSV.out]
      have HB2 := Lib.hid ((HB1.out.alloc HB1.out.size _).trans (hb2.mono (Nat.le_trans HB1.out.size (by simp))))
      clear hb2
      go_wp2
      go_ret
      exact ⟨by rw [HKE.out]; rfl, HB2.out⟩
    · have g0 : (sv == 0) = false := by simp; omega
      have g1 : (sv == 1) = false := by simp; omega
      have g2 : decide (2 ≤ sv) = true := decide_eq_true g
      have HKE := Lib.hid (HK.out.trans e)
      clear e g
      go_enter Tryz.func16, Tryz.ntmps16
      go_wp2_with fail
      refine KS0.out.mono ?_
      rintro e w1 ⟨rfl, hb1⟩
      have HB1 := Lib.hid (HB.out.trans (hb1.mono HB.out.size))
      have hbx := HBX.out.below hb1 HL1.out
      have c0 := hbx.cell 0
      simp only [List.getElem?_toArray, List.getElem?_cons_zero] at c0
      have hlt := hbx.lt
      obtain ⟨y0, y1, y2, y3, y4, y5, y6, y7⟩ := (HN.out.below HB1.out).all
      rw [HOV.out] at y0
      have hbs : b < w1.heap.size := Nat.lt_of_lt_of_le hbb HB1.out.size
      have HBXX := Lib.hid hbx
      clear hb1 hbx
      go_wp2_with fail
      refine (rsort_ok (c := c) (HT.out.below (HB1.out.alloc HB1.out.size _)) n.a0).mono ?_
      rintro e w2 ⟨rfl, hb2⟩
      rw [HSV.out]
      have HB2 := Lib.hid ((HB1.out.alloc HB1.out.size _).trans (hb2.mono (Nat.le_trans HB1.out.size (by simp))))
      clear hb2
      go_wp2
      go_ret
      exact ⟨by rw [HKE.out]; rfl, HB2.out⟩
    · have g0 : (sv == 0) = false := by simp; omega
      have g1 : (sv == 1) = false := by simp; omega
      have g2 : decide (2 ≤ sv) = false := decide_eq_false (by omega)
      have HKE := Lib.hid (HK.out.trans e)
      clear e g
      go_enter Tryz.func16, Tryz.ntmps16
      go_wp2_with fail
      refine KS0.out.mono ?_
      rintro e w1 ⟨rfl, hb1⟩
      have HB1 := Lib.hid (HB.out.trans (hb1.mono HB.out.size))
      have hbx := HBX.out.below hb1 HL1.out
      have c0 := hbx.cell 0
      simp only [List.getElem?_toArray, List.getElem?_cons_zero] at c0
      have hlt := hbx.lt
      obtain ⟨y0, y1, y2, y3, y4, y5, y6, y7⟩ := (HN.out.below HB1.out).all
      rw [HOV.out] at y0
      have hbs : b < w1.heap.size := Nat.lt_of_lt_of_le hbb HB1.out.size
      have HBXX := Lib.hid hbx
      clear hb1 hbx
      go_wp2_with fail
      refine (rsort_ok (c := c) (HT.out.below (HB1.out.alloc HB1.out.size _)) n.a0).mono ?_
      rintro e w2 ⟨rfl, hb2⟩
      rw [HSV.out]
      have HB2 := Lib.hid ((HB1.out.alloc HB1.out.size _).trans (hb2.mono (Nat.le_trans HB1.out.size (by simp))))
      clear hb2
      go_wp2
      go_ret
      exact ⟨by rw [HKE.out]; rfl, HB2.out⟩
  · have HK := Lib.hid (HO.out (by rw [hov]; exact h6))
    rw [hov] at HK
    clear hov
    by_cases q : ov < 0 ∨ 13 < ov
    · have e0 : (ov == 0) = false := by simp; omega
      have e1 : (ov == 1) = false := by simp; omega
      have e2 : (ov == 2) = false := by simp; omega
      have e3 : (ov == 3) = false := by simp; omega
      have e4 : (ov == 4) = false := by simp; omega
      have e5 : (ov == 5) = false := by simp; omega
      have e6 : (ov == 6) = false := by simp; omega
      have e7 : (ov == 7) = false := by simp; omega
      have e8 : (ov == 8) = false := by simp; omega
      have e9 : (ov == 9) = false := by simp; omega
      have e10 : (ov == 10) = false := by simp; omega
      have e11 : (ov == 11) = false := by simp; omega
      have e12 : (ov == 12) = false := by simp; omega
      have e13 : (ov == 13) = false := by simp; omega
      have HKE := Lib.hid (HK.out.trans (kindOp_far q))
      clear q h6 hwf
      go_enter Tryz.func16, Tryz.ntmps16
      go_wp2_with fail
      refine KS0.out.mono ?_
      rintro e w1 ⟨rfl, hb1⟩
      have HB1 := Lib.hid (HB.out.trans (hb1.mono HB.out.size))
      have hbx := HBX.out.below hb1 HL1.out
      have c0 := hbx.cell 0
      simp only [List.getElem?_toArray, List.getElem?_cons_zero] at c0
      have hlt := hbx.lt
      obtain ⟨y0, y1, y2, y3, y4, y5, y6, y7⟩ := (HN.out.below HB1.out).all
      rw [HOV.out] at y0
      have hbs : b < w1.heap.size := Nat.lt_of_lt_of_le hbb HB1.out.size
      have HBXX := Lib.hid hbx
      clear hb1 hbx
      go_wp2
      go_ret
      exact ⟨by rw [HKE.out]; rfl, HB1.out.alloc HB1.out.size _⟩
    have hc : ov = 0 ∨ ov = 1 ∨ ov = 2 ∨ ov = 3 ∨ ov = 4 ∨ ov = 5 ∨ ov = 7 ∨ ov = 8 ∨ ov = 9 ∨ ov = 10 ∨ ov = 11 ∨ ov = 12 ∨ ov = 13 := by omega
    clear q h6 hwf
    rcases hc with rfl | rfl | rfl | rfl | rfl | rfl | rfl | rfl | rfl | rfl | rfl | rfl | rfl
    all_goals
      go_enter Tryz.func16, Tryz.ntmps16
      go_wp2_with fail
      refine KS0.out.mono ?_
      rintro e w1 ⟨rfl, hb1⟩
      have HB1 := Lib.hid (HB.out.trans (hb1.mono HB.out.size))
      have hbx := HBX.out.below hb1 HL1.out
      have c0 := hbx.cell 0
      simp only [List.getElem?_toArray, List.getElem?_cons_zero] at c0
      have hlt := hbx.lt
      obtain ⟨y0, y1, y2, y3, y4, y5, y6, y7⟩ := (HN.out.below HB1.out).all
      rw [HOV.out] at y0
      have hbs : b < w1.heap.size := Nat.lt_of_lt_of_le hbb HB1.out.size
      have HBXX := Lib.hid hbx
      clear hb1 hbx
      go_wp2
      go_ret
      exact ⟨by rw [HK.out]; rfl, HB1.out.alloc HB1.out.size _⟩
end Go.Proofs.YtlipnnibagidiaaGreat
namespace Go.Proofs.YtlipnnibagidiaaGreat
def flipV (val : Int → Int) (id : Int) : Int → Int := fun i => if i = id then 1 - val i else val i
theorem flip_lit {val : Int → Int} {id x : Int} (h : x / 2 ≠ id) : onV (flipV val id) x ↔ onV val x := by
  unfold onV flipV
  rw [if_neg h]
theorem flip_own {val : Int → Int} {id : Int} (hv : val id = 0 ∨ val id = 1) : onV (flipV val id) (2 * id) ↔ val id = 0 := by
  unfold onV flipV
  rw [show 2 * id / 2 = id by omega, show 2 * id % 2 = 0 by omega, if_pos rfl]
  rcases hv with h | h <;> rw [h] <;> decide
theorem flip_neg {val : Int → Int} {id : Int} (h0 : 0 ≤ id) (hv : val id = 0 ∨ val id = 1) : onV (flipV val id) (negL (2 * id)) ↔ val id = 1 := by
  obtain ⟨_, e1, e2⟩ := negL_facts (x := 2 * id) (by omega)
  unfold onV flipV
  rw [e1, e2, show 2 * id / 2 = id by omega, show 2 * id % 2 = 0 by omega, if_pos rfl]
  rcases hv with h | h <;> rw [h] <;> decide
theorem flip_arg {T : List Nd} (h : Well T) {val : Int → Int} (hv : Sem T val) {id a : Int} (h0 : 0 ≤ a) (h1 : a < id) (h2 : id < T.length) (hs : (ndAt T a).sort = 0) : (onV (flipV val id) (litP T a) ↔ val a = 1) ∧ (onV (flipV val id) (negL (litP T a)) ↔ val a = 0) := by
  obtain ⟨g1, g2, g3, g4, g5, g6⟩ := litP_facts h h0 (by omega) hs
  have gl := litP_on h hv h0 (by omega) hs
  have hlt : litP T a / 2 < id := by
    by_cases ho : (ndAt T a).op = 1
    · obtain ⟨e, hl⟩ := g6 ho
      omega
    · have := g5 ho
      omega
  have hb := hv.bool a h0 (by omega) hs
  refine ⟨(flip_lit (by omega)).trans gl.1, (flip_lit (by rw [(negL_facts g1).2.1]; omega)).trans ((onV_neg g1 gl.2).trans ?_)⟩
  rw [gl.1]
  constructor <;> intro h' <;> omega
def Conn14 (T : List Nd) (id : Int) : Prop := (ndAt T id).op = 0 ∨ (ndAt T id).op = 2 ∨ (ndAt T id).op = 3 ∨ ((ndAt T id).op = 6 ∧ (ndAt T (ndAt T id).a0).sort = 0) ∨ ((ndAt T id).op = 7 ∧ (ndAt T id).sort = 0)
theorem clausesP_tight {T : List Nd} (h : Well T) {val : Int → Int} (hv : Sem T val) {id : Int} (h0 : 0 ≤ id) (h1 : id < T.length) (hk : Conn14 T id) : ∃ c ∈ clausesP T id, ∀ x ∈ c, ¬ onV (flipV val id) x := by
  have hst := at_of h h0 h1
  unfold clausesP
  dsimp only
  by_cases o0 : (ndAt T id).op = 0
  · rw [if_pos o0]
    have ht := hv.tru id h0 h1 o0
    refine ⟨_, List.mem_singleton.2 rfl, fun x hx => ?_⟩
    obtain rfl := List.mem_singleton.1 hx
    rw [flip_own (.inr ht), ht]
    decide
  rw [if_neg o0]
  by_cases o2 : (ndAt T id).op = 2
  · rw [if_pos o2]
    obtain ⟨s0, s1, s2⟩ := srt_and h h0 h1 (.inl o2)
    obtain ⟨⟨p0, p1⟩, q0, q1⟩ := hst.two (.inr (.inr (.inl o2)))
    obtain ⟨f1, f2⟩ := flip_arg h hv p0 p1 h1 s1
    obtain ⟨f3, f4⟩ := flip_arg h hv q0 q1 h1 s2
    have va := hv.bool _ p0 (by omega) s1
    have vb := hv.bool _ q0 (by omega) s2
    have ft := flip_own (hv.bool id h0 h1 s0)
    have fn := flip_neg h0 (hv.bool id h0 h1 s0)
    rw [show litP T id = 2 * id by unfold litP; rw [o2, if_neg (by decide)]]
    have vt := hv.and id h0 h1 o2
    generalize litP T (ndAt T id).a0 = a at *
    generalize litP T (ndAt T id).a1 = b at *
    generalize 2 * id = t at *
    rcases va with va | va <;> rcases vb with vb | vb <;> rw [va, vb] at vt <;> rw [va] at f1 f2 <;> rw [vb] at f3 f4 <;> rw [vt] at ft fn <;> first | (refine ⟨[negL t, a], by simp, fun x hx => ?_⟩; simp only [List.mem_cons, List.not_mem_nil, or_false] at hx; (rcases hx with rfl | rfl <;> simp [*]); done) | (refine ⟨[negL t, b], by simp, fun x hx => ?_⟩; simp only [List.mem_cons, List.not_mem_nil, or_false] at hx; (rcases hx with rfl | rfl <;> simp [*]); done) | (refine ⟨[t, negL a, negL b], by simp, fun x hx => ?_⟩; simp only [List.mem_cons, List.not_mem_nil, or_false] at hx; (rcases hx with rfl | rfl | rfl <;> simp [*]); done)
  rw [if_neg o2]
  by_cases o3 : (ndAt T id).op = 3
  · rw [if_pos o3]
    obtain ⟨s0, s1, s2⟩ := srt_and h h0 h1 (.inr o3)
    obtain ⟨⟨p0, p1⟩, q0, q1⟩ := hst.two (.inr (.inr (.inr o3)))
    obtain ⟨f1, f2⟩ := flip_arg h hv p0 p1 h1 s1
    obtain ⟨f3, f4⟩ := flip_arg h hv q0 q1 h1 s2
    have va := hv.bool _ p0 (by omega) s1
    have vb := hv.bool _ q0 (by omega) s2
    have ft := flip_own (hv.bool id h0 h1 s0)
    have fn := flip_neg h0 (hv.bool id h0 h1 s0)
    rw [show litP T id = 2 * id by unfold litP; rw [o3, if_neg (by decide)]]
    have vt := hv.or id h0 h1 o3
    generalize litP T (ndAt T id).a0 = a at *
    generalize litP T (ndAt T id).a1 = b at *
    generalize 2 * id = t at *
    have hmax : max (0 : Int) 0 = 0 ∧ max (0 : Int) 1 = 1 ∧ max (1 : Int) 0 = 1 ∧ max (1 : Int) 1 = 1 := by decide
    rcases va with va | va <;> rcases vb with vb | vb <;> rw [va, vb] at vt <;> simp only [hmax.1, hmax.2.1, hmax.2.2.1, hmax.2.2.2] at vt <;> rw [va] at f1 f2 <;> rw [vb] at f3 f4 <;> rw [vt] at ft fn <;> first | (refine ⟨[t, negL a], by simp, fun x hx => ?_⟩; simp only [List.mem_cons, List.not_mem_nil, or_false] at hx; (rcases hx with rfl | rfl <;> simp [*]); done) | (refine ⟨[t, negL b], by simp, fun x hx => ?_⟩; simp only [List.mem_cons, List.not_mem_nil, or_false] at hx; (rcases hx with rfl | rfl <;> simp [*]); done) | (refine ⟨[negL t, a, b], by simp, fun x hx => ?_⟩; simp only [List.mem_cons, List.not_mem_nil, or_false] at hx; (rcases hx with rfl | rfl | rfl <;> simp [*]); done)
  rw [if_neg o3]
  by_cases o6 : (ndAt T id).op = 6
  · rw [if_pos o6]
    have s1 : (ndAt T (ndAt T id).a0).sort = 0 := by
      rcases hk with k | k | k | ⟨_, k⟩ | ⟨k, _⟩
      · omega
      · omega
      · omega
      · exact k
      · omega
    obtain ⟨s0, s3⟩ := srt_eq h h0 h1 o6
    have s2 : (ndAt T (ndAt T id).a1).sort = 0 := by rw [← s3]; exact s1
    obtain ⟨⟨p0, p1⟩, q0, q1⟩ := hst.two (.inl o6)
    rw [if_pos s1]
    obtain ⟨f1, f2⟩ := flip_arg h hv p0 p1 h1 s1
    obtain ⟨f3, f4⟩ := flip_arg h hv q0 q1 h1 s2
    have va := hv.bool _ p0 (by omega) s1
    have vb := hv.bool _ q0 (by omega) s2
    have ft := flip_own (hv.bool id h0 h1 s0)
    have fn := flip_neg h0 (hv.bool id h0 h1 s0)
    rw [show litP T id = 2 * id by unfold litP; rw [o6, if_neg (by decide)]]
    have vt := hv.eq id h0 h1 o6
    generalize litP T (ndAt T id).a0 = a at *
    generalize litP T (ndAt T id).a1 = b at *
    generalize 2 * id = t at *
    unfold bitI at vt
    rcases va with va | va <;> rcases vb with vb | vb <;> rw [va, vb] at vt <;> simp only [if_true, if_false, show ¬ (0 : Int) = 1 by decide, show ¬ (1 : Int) = 0 by decide] at vt <;> rw [va] at f1 f2 <;> rw [vb] at f3 f4 <;> rw [vt] at ft fn <;> first | (refine ⟨[negL t, negL a, b], by simp, fun x hx => ?_⟩; simp only [List.mem_cons, List.not_mem_nil, or_false] at hx; (rcases hx with rfl | rfl | rfl <;> simp [*]); done) | (refine ⟨[negL t, a, negL b], by simp, fun x hx => ?_⟩; simp only [List.mem_cons, List.not_mem_nil, or_false] at hx; (rcases hx with rfl | rfl | rfl <;> simp [*]); done) | (refine ⟨[t, a, b], by simp, fun x hx => ?_⟩; simp only [List.mem_cons, List.not_mem_nil, or_false] at hx; (rcases hx with rfl | rfl | rfl <;> simp [*]); done) | (refine ⟨[t, negL a, negL b], by simp, fun x hx => ?_⟩; simp only [List.mem_cons, List.not_mem_nil, or_false] at hx; (rcases hx with rfl | rfl | rfl <;> simp [*]); done)
  rw [if_neg o6]
  have o7 : (ndAt T id).op = 7 ∧ (ndAt T id).sort = 0 := by
    rcases hk with k | k | k | ⟨k, _⟩ | k
    · omega
    · omega
    · omega
    · omega
    · exact k
  rw [if_pos o7.1, if_pos o7.2]
  obtain ⟨s0, s1, s2⟩ := srt_ite h h0 h1 o7.1
  have hl := hst.len_of (lo := 3) (by rw [o7.1]; decide)
  have p0 : 0 ≤ (ndAt T id).a0 ∧ (ndAt T id).a0 < id := hst.arg_lt 0 (by omega) (by rw [hl]; decide)
  have p1 : 0 ≤ (ndAt T id).a1 ∧ (ndAt T id).a1 < id := hst.arg_lt 1 (by omega) (by rw [hl]; decide)
  have p2 : 0 ≤ (ndAt T id).a2 ∧ (ndAt T id).a2 < id := hst.arg_lt 2 (by omega) (by rw [hl]; decide)
  obtain ⟨f1, f2⟩ := flip_arg h hv p0.1 p0.2 h1 s0
  obtain ⟨f3, f4⟩ := flip_arg h hv p1.1 p1.2 h1 (by rw [s1, o7.2])
  obtain ⟨f5, f6⟩ := flip_arg h hv p2.1 p2.2 h1 (by rw [s2, o7.2])
  have va := hv.bool _ p0.1 (by omega) s0
  have vb := hv.bool _ p1.1 (by omega) (by rw [s1, o7.2])
  have vc := hv.bool _ p2.1 (by omega) (by rw [s2, o7.2])
  have ft := flip_own (hv.bool id h0 h1 o7.2)
  have fn := flip_neg h0 (hv.bool id h0 h1 o7.2)
  rw [show litP T id = 2 * id by unfold litP; rw [o7.1, if_neg (by decide)]]
  have vt := hv.ite id h0 h1 o7.1
  generalize litP T (ndAt T id).a0 = a at *
  generalize litP T (ndAt T id).a1 = b at *
  generalize litP T (ndAt T id).a2 = d at *
  generalize 2 * id = t at *
  rcases va with va | va <;> rcases vb with vb | vb <;> rcases vc with vc | vc <;> rw [va, vb, vc] at vt <;> simp only [if_true, if_false, show ¬ (0 : Int) = 1 by decide] at vt <;> rw [va] at f1 f2 <;> rw [vb] at f3 f4 <;> rw [vc] at f5 f6 <;> rw [vt] at ft fn <;> first | (refine ⟨[negL t, negL a, b], by simp, fun x hx => ?_⟩; simp only [List.mem_cons, List.not_mem_nil, or_false] at hx; (rcases hx with rfl | rfl | rfl <;> simp [*]); done) | (refine ⟨[negL t, a, d], by simp, fun x hx => ?_⟩; simp only [List.mem_cons, List.not_mem_nil, or_false] at hx; (rcases hx with rfl | rfl | rfl <;> simp [*]); done) | (refine ⟨[t, negL a, negL b], by simp, fun x hx => ?_⟩; simp only [List.mem_cons, List.not_mem_nil, or_false] at hx; (rcases hx with rfl | rfl | rfl <;> simp [*]); done) | (refine ⟨[t, a, negL d], by simp, fun x hx => ?_⟩; simp only [List.mem_cons, List.not_mem_nil, or_false] at hx; (rcases hx with rfl | rfl | rfl <;> simp [*]); done)
end Go.Proofs.YtlipnnibagidiaaGreat

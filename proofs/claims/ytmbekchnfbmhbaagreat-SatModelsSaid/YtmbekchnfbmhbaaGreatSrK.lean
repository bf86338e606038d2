/- run. -/
import Derived.Test.YtmbekchnfbmhbaaGreatSrJ
namespace Go.Proofs.YtmbekchnfbmhbaaGreat
open Go.RowKit Go.Lib

/-- What run tells. -/
def SatPost (w : World) (H0 n : Nat) (R0 : List RowT) (budget : Nat) (v : Value) (w' : World) : Prop :=
  Below H0 w w' ∧ ((∃ g vals, v = .agg #[.int .i8 0, .slice (some ⟨g, 0, none⟩) n n, .slice none 0 0] ∧ Blk w' g 26 ((vals.map (Value.int .i8)).toArray) ∧ vals.length = n ∧ (∀ x ∈ vals, x = 1 ∨ x = 2) ∧ holdsM vals (rowsOf R0) = true) ∨
    (∃ SA sc st, v = .agg #[.int .i8 1, .slice none 0 0, .slice SA (st : List RowT).length sc] ∧ w'.ownsRow H0 23 1 (.slice SA st.length sc) st.length (st.map encR) ∧ (∀ q ∈ st, Row .i64 w' q.1 q.2.2 ∧ (q.1 = none → q.2.1 = 0)) ∧ refutesM (rowsOf R0) (rowsOf st) = true ∧ st.length ≤ budget + 1 ∧ CL n (rowsOf st) ∧ ∀ T, Model n T → ¬ HoldsT T (rowsOf R0)) ∨
    (v = .agg #[.int .i8 2, .slice none 0 0, .slice none 0 0] ∧ budget + 1 ≤ 3 ^ n))
def RunOut (w : World) (H0 n : Nat) (R0 : List RowT) (budget : Nat) (e : Ending) (w' : World) : Prop := ∃ v, e = .returned v ∧ SatPost w H0 n R0 budget v w'
def RunI (w : World) (b : Bl) (n : Nat) (R0 : List RowT) (budget : Nat) (g : Nat) (wr : World) : Prop :=
  ∃ S vl vp vs M L lr ph, SS wr b n S vl vp vs ((L : List RowT).length : Int) M (R0 ++ L) L lr ph ∧ Below b.H0 w wr ∧ PI n M (R0 ++ L) lr ∧ Lrn n R0 L ∧ L.length ≤ budget ∧ (budget - L.length) * (n + 1) + (n - M.L.length) = g
theorem own_cap {w : World} {base size n c : Nat} {e : TypeId} {A : Option Addr} {xs : List Value} (h : w.ownsRow base e size (.slice A n c) n xs) : (A = none → c = 0) ∧ n ≤ c := by
  rcases h.2 with ⟨hv, h0⟩ | ⟨g, cap, cur, hv, _, _, hc, _⟩
  · injection hv with h1 h2 h3
    exact ⟨fun _ => h3, by omega⟩
  · injection hv with h1 h2 h3
    subst h3
    exact ⟨(fun e => by rw [e] at h1; cases h1), hc⟩

theorem isC_nil : isC [] = true := by
  unfold isC
  rw [make_of_ord (by simp [Ord]) (by simp)]
  rfl
theorem row_box {w : World} {A : Option Addr} {zs : List Int} {g : Nat} {a : Int} {v1 v2 : Value} (h : Row .i64 w A zs) (hb : Blk w g 29 #[.int .i8 a, v1, v2]) (h1 : ∀ x, v1 ≠ .int .i64 x) (h2 : ∀ x, v2 ≠ .int .i64 x) : 0 < zs.length → ∀ d, A = some d → d.block ≠ g := by
  rintro h0 d hd rfl
  obtain ⟨b, off, e, _, hc⟩ := h.at_.resolve_left (by omega)
  rw [hd] at e
  injection e with e
  subst e
  have h3 := hc 0 h0
  have h4 := hb.cell (off + 0)
  rw [h4] at h3
  match off, h3 with
  | 0, h3 => simp at h3
  | 1, h3 => exact h1 _ (by simpa using h3)
  | 2, h3 => exact h2 _ (by simpa using h3)
  | m + 3, h3 => simp at h3
theorem box_kept (w : World) (g : Nat) (u0 u1 u2 : Value) : Kept (fun i => i = g) w (((w.setCell ⟨g, 0, none⟩ u0).setCell ⟨g, 1, none⟩ u1).setCell ⟨g, 2, none⟩ u2) :=
  (((Kept.refl (fun i => i = g) w).setCell (p := ⟨g, 0, none⟩) (.inl rfl) u0).setCell (p := ⟨g, 1, none⟩) (.inl rfl) u1).setCell (p := ⟨g, 2, none⟩) (.inl rfl) u2
section
variable {w : World} {b : Bl} {n : Nat} {S : Nat → Prop} {vl vp vs : Value} {M : Tr} {R0 : List RowT} {lr : List Nat} {ph : List Int}
set_option maxRecDepth 100000 in
set_option maxHeartbeats 8000000 in
theorem run_fn21 (h : SS w b n S vl vp vs 0 M R0 [] lr ph) (hpi : PI n M R0 lr) {budget : Nat} (hbu : R0.length + budget ≤ 19000) :
    Calls Tryz.prog 22 #[.pointer (some ⟨b.bs, 0, none⟩), .int .i64 budget] w (RunOut w b.H0 n R0 budget) := by
  have hal : Below w.heap.size w (w.alloc (.cells #[.int .i8 0, .slice none 0 0, .slice none 0 0] 29)) := (Below.refl _ w).alloc (Nat.le_refl _) _
  have hbox := (h.below hal).box (Blk.new w 29 #[.int .i8 0, .slice none 0 0, .slice none 0 0])
  have H0 := Lib.hid (show RunI w ⟨b.H0, b.bs, b.bt, b.ba, b.bh, b.b1, b.b2, some (w.heap.size, #[.int .i8 0, .slice none 0 0, .slice none 0 0]), b.vb⟩ n R0 budget ((budget - 0) * (n + 1) + (n - M.L.length)) (w.alloc (.cells #[.int .i8 0, .slice none 0 0, .slice none 0 0] 29)) from
    ⟨S, vl, vp, vs, M, [], lr, ph, by rw [List.append_nil]; exact hbox, hal.mono (Nat.le_of_lt h.lt), by rw [List.append_nil]; exact hpi, Lrn.start n R0, Nat.zero_le _, rfl⟩)
  have hnn := hpi.nn
  have hgB : b.H0 ≤ w.heap.size := Nat.le_of_lt h.lt
  generalize hbb : (⟨b.H0, b.bs, b.bt, b.ba, b.bh, b.b1, b.b2, some (w.heap.size, #[.int .i8 0, .slice none 0 0, .slice none 0 0]), b.vb⟩ : Bl) = b' at *
  have e1 : b.bs = b'.bs := by rw [← hbb]
  have e2 : b.H0 = b'.H0 := by rw [← hbb]
  have e3 : b'.b3 = some (w.heap.size, #[.int .i8 0, .slice none 0 0, .slice none 0 0]) := by rw [← hbb]
  have HE3 := Lib.hid e3
  rw [e2] at hgB
  rw [e1, e2]
  clear hbb e1 e2 e3 h hpi hal hbox
  go_enter Tryz.func22, Tryz.ntmps22
  go_wp2
  generalize w.alloc (.cells #[.int .i8 0, .slice none 0 0, .slice none 0 0] 29) = wB at *
  generalize hbox : w.heap.size = gB at *
  have HBX := Lib.hid hbox
  clear hbox
  go_loopg [] ((budget - 0) * (n + 1) + (n - M.L.length)) (RunI w b' n R0 budget)
  case atStart => exact H0.out
  case round =>
    obtain ⟨S, vl, vp, vs, M, L, lr, ph, hss, hbel, hpi, hL, hle, hg⟩ := hrel
    clear H0
    have K1 := propagate_ok hss hpi
    have HBE := Lib.hid hbel
    have HLN := Lib.hid hL
    have HG := Lib.hid hg
    have hLlen := hpi.inv.len
    clear hss hpi hbel hL hg
    go_wp2_with fail
    refine K1.mono ?_
    rintro e w1 ⟨M1, hpg, (⟨rfl, hsh⟩ | ⟨r, hr, rfl, hfal⟩)⟩
    · have K2 := decide_ok hpg.ss hpg.pi hsh
      have HPG := Lib.hid hpg
      have HSH := Lib.hid hsh
      clear K1 hpg hsh
      go_wp2_with fail
      refine K2.mono ?_
      rintro e w2 ⟨hb2, S2, lr2, (⟨rfl, hs2, hall⟩ | ⟨lit, rfl, hs2, hp2⟩)⟩
      · have KV := values_T hs2.t
        rw [HPG.out.pi.inv.mn] at KV
        have c3 := hs2.blk.cell 3
        simp only [List.getElem?_toArray, List.getElem?_cons_zero, List.getElem?_cons_succ] at c3
        have HS2 := Lib.hid hs2
        have HB2 := Lib.hid (HBE.out.trans (HPG.out.below.trans hb2))
        have HAL := Lib.hid hall
        clear K2 hs2 hb2 hall
        go_wp2_with fail
        refine KV.mono ?_
        rintro e w3 ⟨gv, rfl, hgv, hbv, hb3⟩
        have hs3 := HS2.out.below hb3
        have hbx := hs3.c3 _ HE3.out
        have x0 := hbx.cell 0
        have x1 := hbx.cell 1
        have x2 := hbx.cell 2
        have x3 := hbx.frozen 0
        have x4 := hbx.frozen 1
        have x5 := hbx.frozen 2
        simp only [List.getElem?_toArray, List.getElem?_cons_zero, List.getElem?_cons_succ] at x0 x1 x2
        have HBV := Lib.hid hbv
        have HBX3 := Lib.hid hbx
        have HB3 := Lib.hid (HB2.out.trans (hb3.mono (Nat.le_of_lt HS2.out.lt)))
        clear KV hbv hb3 hs3 hbx c3
        go_wp2
        refine bodyPost_ret (v := .agg #[.int .i8 0, .slice (some ⟨gv, 0, none⟩) n n, .slice none 0 0]) (by simp [results, Tryz.results22, go_sem, x0, x1, x2]) rfl ?_
        have kb := box_kept w3 gB (.int .i8 0) (.slice (some ⟨gv, 0, none⟩) n n) (.slice none 0 0)
        obtain ⟨q1, q2⟩ := sat_holds HPG.out.pi.inv.ok HPG.out.pi.cl HSH.out HAL.out
        rw [rowsOf_append] at q2
        exact ⟨_, rfl, HB3.out.trans (kb.below (Nat.le_of_lt (Nat.lt_of_le_of_lt hgB HBX3.out.lt)) (fun i e => by rw [e]; exact hgB)), .inl ⟨gv, valsOf n M1.L, rfl, HBV.out.kept kb (HBV.out.ne_ HBX3.out (by decide)), by simp [valsOf], q1, holds_app q2⟩⟩
      · have HS2 := Lib.hid hs2
        have HP2 := Lib.hid hp2
        have HB2 := Lib.hid (HBE.out.trans (HPG.out.below.trans hb2))
        have hl2 := hp2.inv.len
        have hl3 : (decT M1 lit).L.length = M1.L.length + 1 := by simp [decT]
        have hl1 := HPG.out.len
        clear K2 hs2 hp2 hb2
        go_wp2
        go_roundg ((budget - L.length) * (n + 1) + (n - (decT M1 lit).L.length))
        case measure => have := HG.out; omega
        case rel => exact ⟨_, _, _, _, _, L, _, _, HS2.out, HB2.out, HP2.out, HLN.out, hle, rfl⟩
    · have hcl := hpg.pi.cl _ (rows_mem hr)
      obtain ⟨lv, hlv, h0⟩ := false_level hcl.1 hfal
      have K2 := above_fn hpg.ss hpg.pi.small hr hlv
      have HPG := Lib.hid hpg
      have HLV := Lib.hid hlv
      have HR := Lib.hid hr
      clear K1 hpg hlv hfal hcl
      by_cases hz : lv = 0
      · subst hz
        have d0 : decide ((0 : Int) < 0) = false := by decide
        rw [d0] at K2
        obtain ⟨q1, q2, q3⟩ := HPG.out.pi.zero HLN.out HR.out HLV.out
        have HQ2 := Lib.hid q2
        have HQ3 := Lib.hid q3
        clear q2 q3 d0
        go_wp2_with fail
        refine K2.mono ?_
        rintro e w2 ⟨rfl, hs2, hb2⟩
        have K3 := learns_fn (p := []) (bb := 0) hs2 HPG.out.pi (by omega) HR.out q1 (fun x hx => by cases hx) (fun e => absurd rfl e) (Nat.zero_le _) (by simp)
        have HB2 := Lib.hid (HBE.out.trans (HPG.out.below.trans hb2))
        clear K2 hs2 hb2 q1
        go_wp2_with fail
        refine K3.mono ?_
        rintro e w3 ⟨hb3, S3, vl3, vp3, vs3, lr3, ph3, cr, hcr, (⟨_, rfl, hs3⟩ | ⟨hne, _⟩)⟩
        · have hs := hs3.s
          have c6 := hs3.blk.cell 6
          simp only [List.getElem?_toArray, List.getElem?_cons_zero, List.getElem?_cons_succ] at c6
          obtain ⟨SA, sc, rfl⟩ := own_slice hs
          have hbx := hs3.c3 _ HE3.out
          have x0 := hbx.cell 0
          have x1 := hbx.cell 1
          have x2 := hbx.cell 2
          have x3 := hbx.frozen 0
          have x4 := hbx.frozen 1
          have x5 := hbx.frozen 2
          simp only [List.getElem?_toArray, List.getElem?_cons_zero, List.getElem?_cons_succ] at x0 x1 x2
          have HS3 := Lib.hid hs3
          have HB3 := Lib.hid (HB2.out.trans hb3)
          have HBX3 := Lib.hid hbx
          have HCR := Lib.hid hcr
          have HOW := Lib.hid hs
          clear K3 hb3 hs3 hbx hs hcr
          go_wp2
          refine bodyPost_ret (v := .agg #[.int .i8 1, .slice none 0 0, .slice SA (L.length + 1) sc]) (by simp [results, Tryz.results22, go_sem, x0, x1, x2]) rfl ?_
          have kb := box_kept w3 gB (.int .i8 1) (.slice none 0 0) (.slice SA (L.length + 1) sc)
          have hoff : ∀ q ∈ L ++ [cr], Row .i64 w3 q.1 q.2.2 ∧ (q.1 = none → q.2.1 = 0) := fun q hq => by
            have := HS3.out.rows q (List.mem_append_right _ hq)
            exact ⟨this.row, this.nil⟩
          have hlr : (L ++ [cr]).length = L.length + 1 := by rw [List.length_append, List.length_singleton]
          have hgr := own_kept HOW.out kb (fun i hi e => own_blk_ne HOW.out HBX3.out (by decide) (e ▸ hi))
          refine ⟨_, rfl, HB3.out.trans (kb.below (Nat.le_of_lt (Nat.lt_of_le_of_lt hgB HBX3.out.lt)) (fun i e => by rw [e]; exact hgB)), Or.inr (Or.inl ⟨SA, sc, L ++ [cr], by rw [hlr], hgr, (fun q hq => ⟨(hoff q hq).1.kept kb (row_box (hoff q hq).1 HBX3.out (fun _ e => by cases e) (fun _ e => by cases e)), (hoff q hq).2⟩), HQ2.out cr HCR.out, by omega, ?_, HQ3.out⟩)⟩
          intro cl hcl
          rw [rowsOf_append] at hcl
          rcases List.mem_append.1 hcl with hcl | hcl
          · exact HPG.out.pi.cl cl (by rw [rowsOf_append]; exact List.mem_append_right _ hcl)
          · have e : cl = cr.2.2 := List.mem_singleton.1 hcl
            rw [e, HCR.out]
            exact ⟨isC_nil, fun x hx => by cases hx⟩
        · exact absurd rfl hne
      · have d0 : decide (0 < lv) = true := decide_eq_true (by omega)
        rw [d0] at K2
        clear d0
        have hcnt := HLN.out.count
        by_cases hbe : L.length = budget
        · have d1 : ((L.length : Int) == (budget : Int)) = true := by simp [hbe]
          have hbe2 : budget + 1 ≤ 3 ^ n := by omega
          have HBE2 := Lib.hid hbe2
          clear hbe hbe2 hcnt
          go_wp2_with fail
          refine K2.mono ?_
          rintro e w2 ⟨rfl, hs2, hb2⟩
          have c1 := hs2.blk.cell 1
          simp only [List.getElem?_toArray, List.getElem?_cons_zero, List.getElem?_cons_succ] at c1
          have hbx := hs2.c3 _ HE3.out
          have x0 := hbx.cell 0
          have x1 := hbx.cell 1
          have x2 := hbx.cell 2
          have x3 := hbx.frozen 0
          have x4 := hbx.frozen 1
          have x5 := hbx.frozen 2
          simp only [List.getElem?_toArray, List.getElem?_cons_zero, List.getElem?_cons_succ] at x0 x1 x2
          have HB2 := Lib.hid (HBE.out.trans (HPG.out.below.trans hb2))
          have HBX3 := Lib.hid hbx
          clear K2 hs2 hb2 hbx
          go_wp2
          refine bodyPost_ret (v := .agg #[.int .i8 2, .slice none 0 0, .slice none 0 0]) (by simp [results, Tryz.results22, go_sem, x0, x1, x2]) rfl ?_
          have kb := box_kept w2 gB (.int .i8 2) (.slice none 0 0) (.slice none 0 0)
          exact ⟨_, rfl, HB2.out.trans (kb.below (Nat.le_of_lt (Nat.lt_of_le_of_lt hgB HBX3.out.lt)) (fun i e => by rw [e]; exact hgB)), Or.inr (Or.inr ⟨rfl, HBE2.out⟩)⟩
        · have d1 : ((L.length : Int) == (budget : Int)) = false := by simp; omega
          obtain ⟨p, ch, bb, q1, q2, q3, q4, q5, q6, q7⟩ := HPG.out.pi.learn HLN.out (by omega) HR.out HLV.out hz h0
          have HQ7 := Lib.hid q7
          clear q7 hcnt
          go_wp2_with fail
          refine K2.mono ?_
          rintro e w2 ⟨rfl, hs2, hb2⟩
          have hs3 := hs2.conf ((L.length : Int) + 1)
          have kc := Kept.set1 w2 b'.bs 1 (.int .i64 ((L.length : Int) + 1))
          have c1 := hs2.blk.cell 1
          have f1 := hs2.blk.frozen 1
          simp only [List.getElem?_toArray, List.getElem?_cons_zero, List.getElem?_cons_succ] at c1
          have K3 := learns_fn hs3 HPG.out.pi (by omega) HR.out q1 q2 q4 q5 q6
          have HB2 := Lib.hid ((HBE.out.trans (HPG.out.below.trans hb2)).trans (kc.below (Nat.le_of_lt hs2.lt) (fun i e => by rw [e]; exact hs2.hbs)))
          have HQ3 := Lib.hid q3
          have hL1 : (L.length : Int) ≤ 19000 := by omega
          clear K2 hs2 hb2 hs3 kc q1 q2 q3 q4 q5 q6
          go_wp2_with fail
          refine K3.mono ?_
          rintro e w3 ⟨hb3, S3, vl3, vp3, vs3, lr3, ph3, cr, hcr, (⟨hpe, _⟩ | ⟨_, rfl, bq, hbq, hs3, hop⟩)⟩
          · exact absurd hpe HQ3.out
          · obtain ⟨r1, r2⟩ := HQ7.out cr bq lr3 hcr hbq hop
            rw [List.append_assoc] at hs3
            have hlr : (L ++ [cr]).length = L.length + 1 := by rw [List.length_append, List.length_singleton]
            rw [show ((L.length : Int) + 1) = (((L ++ [cr]).length : Nat) : Int) by rw [hlr]; rfl] at hs3
            have HS3 := Lib.hid hs3
            have HB3 := Lib.hid (HB2.out.trans hb3)
            have HR1 := Lib.hid r1
            have HR2 := Lib.hid r2
            have hml := r1.inv.len
            have hbl : L.length < budget := by omega
            clear K3 hs3 hb3 r1 r2 hop hcr d1 hbe
            go_wp2
            go_roundg ((budget - (L ++ [cr]).length) * (n + 1) + (n - (backT M1 bq).L.length))
            case measure =>
              have hgg := HG.out
              rw [hlr]
              obtain ⟨d, hd⟩ : ∃ d, budget - L.length = d + 1 := ⟨budget - L.length - 1, by omega⟩
              rw [hd, Nat.succ_mul] at hgg
              rw [show budget - (L.length + 1) = d by omega]
              omega
            case rel => exact ⟨_, _, _, _, _, L ++ [cr], _, _, HS3.out, HB3.out, HR1.out, HR2.out, by omega, rfl⟩
end
end Go.Proofs.YtmbekchnfbmhbaaGreat

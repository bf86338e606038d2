/- propagate. -/
import Derived.Test.YtmbekchnfbmhbaaGreatSrC
namespace Go.Proofs.YtmbekchnfbmhbaaGreat
open Go.RowKit Go.Lib

/-- Behind some units. -/
structure Pg (w wr : World) (b : Bl) (n : Nat) (S : Nat → Prop) (vl vp vs : Value) (k : Int) (M M' : Tr) (R st : List RowT) (lr : List Nat) (ph : List Int) : Prop where
  ss : SS wr b n S vl vp vs k M' R st lr ph
  pi : PI n M' R lr
  len : M.L.length ≤ M'.L.length
  lv : M'.lv = M.lv
  below : Below b.H0 w wr
def PropOut (w : World) (b : Bl) (n : Nat) (S : Nat → Prop) (vl vp vs : Value) (k : Int) (M : Tr) (R st : List RowT) (lr : List Nat) (ph : List Int) (e : Ending) (wr : World) : Prop :=
  ∃ M', Pg w wr b n S vl vp vs k M M' R st lr ph ∧ ((e = .returned (.int .i64 (-1)) ∧ Shut21 (rowsOf R) (fun x => x ∈ litsM M')) ∨ ∃ (r : Nat) (hr : r < R.length), e = .returned (.int .i64 (r : Int)) ∧ ∀ x ∈ R[r].2.2, valOf M'.L x = 2)
def PropAt (w : World) (b : Bl) (n : Nat) (S : Nat → Prop) (vl vp vs : Value) (k : Int) (M : Tr) (R st : List RowT) (lr : List Nat) (ph : List Int) (g : Nat) (v3 : Value) (wr : World) : Prop :=
  ∃ M' more, v3 = .bool more ∧ Pg w wr b n S vl vp vs k M M' R st lr ph ∧ 2 * (n - M'.L.length) + (if more = true then 1 else 0) = g ∧ (more = false → Shut21 (rowsOf R) (fun x => x ∈ litsM M'))
def PropIn (w : World) (b : Bl) (n : Nat) (S : Nat → Prop) (vl vp vs : Value) (k : Int) (M M1 : Tr) (R st : List RowT) (lr : List Nat) (ph : List Int) (g : Nat) (v3 v14 : Value) (wr : World) : Prop :=
  ∃ M2 more i, v14 = .int .i64 ((i : Nat) : Int) ∧ i + g = R.length ∧ v3 = .bool more ∧ Pg w wr b n S vl vp vs k M M2 R st lr ph ∧ M1.L.length ≤ M2.L.length ∧ (more = false → M2 = M1 ∧ ∀ j (hj : j < R.length), j < i → (stM (valsOf n M1.L) R[j].2.2 0 (-1)).1 ≠ 1 ∧ (stM (valsOf n M1.L) R[j].2.2 0 (-1)).1 ≠ 2) ∧ (more = true → M1.L.length < M2.L.length)

section
variable {w : World} {b : Bl} {n : Nat} {S : Nat → Prop} {vl vp vs : Value} {k : Int} {M M' : Tr} {R st : List RowT} {lr lr' : List Nat} {ph : List Int}
theorem SS.grid (h : SS w b n S vl vp vs k M R st lr ph) (hl : R.length ≤ 1000000) : ∃ MA mc, vl = .slice MA R.length mc ∧ Grid w MA R :=
  own_grid2 h.l hl fun r hr => ⟨(h.rows r (List.mem_append_left _ hr)).row, (h.rows r (List.mem_append_left _ hr)).nil⟩
theorem SS.head (h : SS w b n S vl vp vs k M R st lr ph) (hl : R.length ≤ 1000000) : ∃ MA mc, b.vb.getD vl = .slice MA R.length mc ∧ (R ≠ [] → vl = .slice MA R.length mc ∧ Grid w MA R) := by
  obtain ⟨MA, mc, hvl, hg⟩ := h.grid hl
  cases hv : b.vb with
  | none => exact ⟨MA, mc, hvl, fun _ => ⟨hvl, hg⟩⟩
  | some v =>
    obtain ⟨hR, A, rfl⟩ := h.hvb v hv
    exact ⟨A, 0, by rw [hR]; rfl, fun hn => absurd hR hn⟩
theorem Pg.under {w wr w2 : World} (h : Pg w wr b n S vl vp vs k M M' R st lr ph) (hb : Below wr.heap.size wr w2) : Pg w w2 b n S vl vp vs k M M' R st lr ph :=
  ⟨h.ss.below hb, h.pi, h.len, h.lv, h.below.trans (hb.mono (Nat.le_of_lt h.ss.lt))⟩

theorem vals_row {w : World} {g n : Nat} {L : List Pt} (h : Blk w g 26 (valCells n L)) (hn : n ≤ 65536) : Row .i8 w (some ⟨g, 0, none⟩) (valsOf n L) := by
  have hl : (valsOf n L).length = n := by simp [valsOf]
  refine ⟨by omega, .inr ⟨g, 0, rfl, h.lt, fun i hi => ?_⟩⟩
  rw [Nat.zero_add, h.cell]
  simp [valCells, hi]
set_option maxRecDepth 100000 in
set_option maxHeartbeats 4000000 in
theorem propagate_ok (h : SS w b n S vl vp vs k M R st lr ph) (hp : PI n M R lr) :
    Calls Tryz.prog 35 #[.pointer (some ⟨b.bs, 0, none⟩)] w (PropOut w b n S vl vp vs k M R st lr ph) := by
  have H0 := Lib.hid (show Pg w w b n S vl vp vs k M M R st lr ph from ⟨h, hp, Nat.le_refl _, rfl, Below.refl _ _⟩)
  have hRs : R.length ≤ 20000 := hp.small
  have hn16 : n ≤ 400 := hp.nn
  have Hcl := Lib.hid hp.cl
  clear h hp
  go_enter Tryz.func35, Tryz.ntmps35
  go_wp2
  go_loopg [3] (2 * (n - M.L.length) + 1) (PropAt w b n S vl vp vs k M R st lr ph)
  case atStart => exact ⟨M, true, rfl, H0.out, by simp, fun h => by cases h⟩
  case round =>
    obtain ⟨M1, more, rfl, hpg, hg, hshut⟩ := hrel
    clear H0
    cases more with
    | false =>
      have HF := Lib.hid (hshut rfl)
      have HP := Lib.hid hpg
      clear hpg hg hshut
      go_wp2
      go_ret
      exact ⟨M1, HP.out, .inl ⟨rfl, HF.out⟩⟩
    | true =>
      clear hshut
      obtain ⟨MA, mc, hvb, hvl⟩ := hpg.ss.head (by omega)
      have c2 := hpg.ss.blk.cell 2
      simp only [List.getElem?_toArray, List.getElem?_cons_zero, List.getElem?_cons_succ] at c2
      rw [hvb] at c2
      have HVL := Lib.hid (fun h => (hvl h).1)
      have HP := Lib.hid hpg
      have HG := Lib.hid hg
      clear hpg hg hvl hvb
      obtain ⟨wo, rfl⟩ : ∃ wo : World, wo = wr := ⟨_, rfl⟩
      go_wp2
      go_loopg [3, 14] R.length (PropIn w b n S vl vp vs k M M1 R st lr ph)
      case atStart => exact ⟨M1, false, 0, rfl, by omega, rfl, HP.out, Nat.le_refl _, fun _ => ⟨rfl, fun j _ hj => by omega⟩, fun h => by cases h⟩
      case round =>
        obtain ⟨M2, more, i, rfl, hig, rfl, hpg, hlen, hno, hyes⟩ := hrel
        cases gk with
        | zero =>
          obtain rfl : i = R.length := by omega
          have d1 : decide (R.length < R.length) = false := by simp
          have hl2 := hpg.pi.inv.len
          have hg1 := HG.out
          have hl1 := HP.out.pi.inv.len
          cases more with
          | false =>
            obtain ⟨rfl, hst⟩ := hno rfl
            have hsh : Shut21 (rowsOf R) (fun x => x ∈ litsM M2) := state_shut hpg.pi.inv.ok Hcl.out fun cl hcl => by
              obtain ⟨r, hr, rfl⟩ := List.mem_map.1 hcl
              obtain ⟨j, hj, rfl⟩ := List.mem_iff_getElem.1 hr
              exact hst j hj hj
            have HSH := Lib.hid hsh
            have HPG := Lib.hid hpg
            clear hpg hno hyes hst hsh HP
            go_wp2
            go_roundg (2 * (n - M2.L.length))
            case measure => simp at hg1; omega
            case rel => exact ⟨M2, false, rfl, HPG.out, by simp, fun _ => HSH.out⟩
          | true =>
            have hlt := hyes rfl
            have HPG := Lib.hid hpg
            clear hpg hno hyes HP
            go_wp2
            go_roundg (2 * (n - M2.L.length) + 1)
            case measure => simp at hg1; omega
            case rel => exact ⟨M2, true, rfl, HPG.out, by simp, fun h => by cases h⟩
        | succ gm =>
          have hi : i < R.length := by omega
          have d1 : decide (i < R.length) = true := decide_eq_true hi
          obtain ⟨MA2, mc2, hvl2, hgrid2⟩ := hpg.ss.grid (by omega)
          rw [HVL.out (fun e => by rw [e] at hi; simp at hi)] at hvl2
          obtain ⟨rfl, rfl⟩ : MA = MA2 ∧ mc = mc2 := by
            injection hvl2 with h1 h2 h3
            exact ⟨h1, h3⟩
          clear hvl2
          obtain ⟨gb, off, hMA, hgb, hcell⟩ := hgrid2.at_.resolve_left (by omega)
          subst hMA
          have y1 := (hcell i hi).1
          have hrow := (hcell i hi).2.1
          have c3 := hpg.ss.blk.cell 3
          simp only [List.getElem?_toArray, List.getElem?_cons_zero, List.getElem?_cons_succ] at c3
          have hcl := Hcl.out _ (rows_mem hi)
          have hun := fun hs => hpg.pi.unit hi hs
          have hmn := hpg.pi.inv.mn
          have KV := values_T hpg.ss.t
          rw [hmn] at KV
          have t1 : (0 : Int) ≤ (i : Int) := by omega
          have t2 : (i : Int) < (R.length : Int) := by omega
          have HPG := Lib.hid hpg
          have HROW := Lib.hid hrow
          have HCL := Lib.hid hcl
          have HUN := Lib.hid hun
          have HNO := Lib.hid hno
          have HYE := Lib.hid hyes
          clear hpg hrow hcl hun hno hyes hgrid2 hcell hmn HP
          go_wp2_with fail
          refine KV.mono ?_
          rintro e w1 ⟨gv, rfl, hgv, hbv, hb1⟩
          have KS := state_ok R[i].2.1 n (HROW.out.below hb1) (vals_row hbv (by omega)) (fun x hx => by have := HCL.out.2 x hx; omega)
          rw [show (valsOf n M2.L).length = n by simp [valsOf]] at KS
          have HP1 := Lib.hid (HPG.out.under hb1)
          have c31 := HP1.out.ss.blk.cell 3
          simp only [List.getElem?_toArray, List.getElem?_cons_zero, List.getElem?_cons_succ] at c31
          clear KV hbv hb1 y1
          generalize hst : stM (valsOf n M2.L) R[i].2.2 0 (-1) = p at *
          obtain ⟨p1, p2⟩ := p
          have HST := Lib.hid hst
          clear hst
          simp only at KS
          by_cases h1 : p1 = 1
          · subst h1
            go_wp2_with (go_at_call 51; (with_reducible refine KS.mono ?_); rintro e w2 ⟨rfl, rfl⟩)
            go_ret
            exact ⟨M2, HP1.out, .inr ⟨i, hi, rfl, state_false HCL.out.2 (by rw [HST.out])⟩⟩
          · have b1 : (p1 == 1) = false := beq_eq_false_iff_ne.2 h1
            by_cases h2 : p1 = 2
            · subst h2
              obtain ⟨he, hpi, hL, hlv⟩ := HUN.out rfl
              simp only at he hpi hL hlv
              have KP := put_T HP1.out.ss.t p2 i
              rw [he] at KP
              have HPI := Lib.hid hpi
              have HL := Lib.hid hL
              have HLV := Lib.hid hlv
              clear h1 hpi hL hlv he
              go_wp2_with (first
                | (go_at_call 51; (with_reducible refine KS.mono ?_); rintro e w2 ⟨rfl, rfl⟩)
                | (go_at_call 52; (with_reducible refine KP.mono ?_); rintro e w3 ⟨rfl, ht3, hs3⟩; have HSS := Lib.hid (HP1.out.ss.trail hs3 ht3); have HB3 := Lib.hid (HP1.out.below.trans hs3.below); clear ht3 hs3))
              go_roundg gm
              case measure => omega
              case rel => exact ⟨_, true, i + 1, by go_num, by omega, rfl, ⟨HSS.out, HPI.out, by have := HPG.out.len; have := HL.out; omega, HLV.out.trans HPG.out.lv, HB3.out⟩, by have := HL.out; omega, (fun h => by cases h), fun _ => by have := HL.out; omega⟩
            · have b2 : (p1 == 2) = false := beq_eq_false_iff_ne.2 h2
              have H1 := Lib.hid h1
              have H2 := Lib.hid h2
              clear h1 h2
              go_wp2_with (go_at_call 51; (with_reducible refine KS.mono ?_); rintro e w2 ⟨rfl, rfl⟩)
              go_roundg gm
              case measure => omega
              case rel =>
                refine ⟨M2, more, i + 1, by go_num, by omega, rfl, HP1.out, hlen, fun hm => ?_, HYE.out⟩
                obtain ⟨rfl, hst⟩ := HNO.out hm
                refine ⟨rfl, fun j hj hji => ?_⟩
                by_cases e : j = i
                · subst e
                  rw [HST.out]
                  exact ⟨H1.out, H2.out⟩
                · exact hst j hj (by omega)
end
end Go.Proofs.YtmbekchnfbmhbaaGreat

/- restarts. -/
namespace Go.Proofs.YtmbekchnfbmhbaaGreat
open Go.RowKit Go.Lib

theorem slice_tail (A : Option Addr) (n c : Nat) (h : 1 ≤ n) (W : World) : (Instr.sliceAt 23 (.slice A n c) (some (.int .i64 1)) none none).run Tryz.prog W = .ok (.slice (if c = 1 then A else A.map (·.add 1)) (n - 1) (c - 1)) W := by
  have t1 : (1 : Int) ≤ (n : Int) := by omega
  simp [go_sem, t1]
theorem Off.tail {w : World} {Z : Nat → Prop} {A : Option Addr} {cs : Nat} {x : Int} {ss : List Int} (h : Off w Z (A, cs, x :: ss)) (hcs : ss.length + 1 ≤ cs) : Off w Z (if cs = 1 then A else A.map (·.add 1), cs - 1, ss) := by
  obtain ⟨g, off, hA, hg, hcell⟩ := h.row.at_.resolve_left (by simp)
  simp only at hA hcell
  have hlen := h.row.len
  simp only [List.length_cons] at hlen hcell
  have hoff := h.off (by simp) _ hA
  subst hA
  have hadd : (⟨g, off, none⟩ : Addr).add 1 = ⟨g, off + 1, none⟩ := by unfold Addr.add; split <;> simp_all
  refine ⟨⟨by simp only; omega, ?_⟩, fun e => ?_, fun h0 a ha => ?_⟩
  · simp only
    rcases Nat.eq_zero_or_pos ss.length with h0 | h0
    · exact .inl h0
    · rw [if_neg (by omega)]
      refine .inr ⟨g, off + 1, by simp only [Option.map_some, hadd], hg, fun i hi => ?_⟩
      have := hcell (i + 1) (by omega)
      rw [show off + 1 + i = off + (i + 1) by omega]
      rw [List.getElem_cons_succ] at this
      exact this
  · simp only at e
    split at e <;> cases e
  · simp only at ha h0
    rw [if_neg (by omega)] at ha
    simp only [Option.map_some, hadd] at ha
    injection ha with ha
    subst ha
    exact hoff
section
variable {w : World} {b : Bl} {n : Nat} {S : Nat → Prop} {vl vp vs : Value} {k : Int} {M M' : Tr} {R st : List RowT} {lr lr' : List Nat} {ph : List Int}
def RestOut (w : World) (b : Bl) (n : Nat) (S : Nat → Prop) (vl vp vs : Value) (k : Int) (M : Tr) (R st : List RowT) (lr : List Nat) (ph : List Int) (e : Ending) (w' : World) : Prop :=
  ∃ r : Bool, e = .returned (.bool r) ∧ SS w' b n S vl vp vs k M R st lr ph ∧ Below b.H0 w w'

set_option maxRecDepth 100000 in
set_option maxHeartbeats 4000000 in
theorem restarts_ok (h : SS w b n S vl vp vs k M R st lr ph) :
    Calls Tryz.prog 31 #[.pointer (some ⟨b.b1, 0, none⟩), .pointer (some ⟨b.b2, 0, none⟩)] w (RestOut w b n S vl vp vs k M R st lr ph) := by
  obtain ⟨x, hc1⟩ := h.c1
  obtain ⟨A, ss, cs, hc2, ho2, hcs⟩ := h.c2
  have y1 := hc1.cell 0
  have f1 := hc1.frozen 0
  have y2 := hc2.cell 0
  have f2 := hc2.frozen 0
  simp only [List.getElem?_toArray, List.getElem?_cons_zero] at y1 y2
  have n12 : b.b1 ≠ b.b2 := hc1.ne_ hc2 (by decide)
  have hlen := ho2.row.len
  have HSS := Lib.hid h
  have HC1 := Lib.hid hc1
  have HC2 := Lib.hid hc2
  have HO2 := Lib.hid ho2
  have HCS := Lib.hid hcs
  clear h hc1 hc2
  have k1 : ∀ u : Int, SS (w.setCell ⟨b.b1, 0, none⟩ (.int .i64 u)) b n S vl vp vs k M R st lr ph ∧ Blk (w.setCell ⟨b.b1, 0, none⟩ (.int .i64 u)) b.b1 3 #[.int .i64 u] ∧ Blk (w.setCell ⟨b.b1, 0, none⟩ (.int .i64 u)) b.b2 23 #[.slice A ss.length cs] ∧ Below b.H0 w (w.setCell ⟨b.b1, 0, none⟩ (.int .i64 u)) ∧ Off (w.setCell ⟨b.b1, 0, none⟩ (.int .i64 u)) (Zs (w.setCell ⟨b.b1, 0, none⟩ (.int .i64 u)) b S vl vp vs) (A, cs, ss) := fun u => by
    have kk := Kept.set1 w b.b1 0 (.int .i64 u)
    have e1 : Blk (w.setCell ⟨b.b1, 0, none⟩ (.int .i64 u)) b.b1 3 #[.int .i64 u] := by
      have := HC1.out.set_ 0 (.int .i64 u)
      simpa using this
    have e2 := HC2.out.kept kk (fun e => n12 e.symm)
    have ho3 := (HSS.out.mine kk (fun g e => .inr (.inl e))).2.2.1 (fun _ => .inl) HO2.out
    exact ⟨HSS.out.seeds (kk.mono (fun _ _ e => .inl e)) ⟨u, e1⟩ e2 HCS.out HO2.out, e1, e2, kk.below (Nat.le_of_lt HSS.out.lt) (fun i e => by rw [e]; exact HSS.out.hb1), ho3⟩
  go_enter Tryz.func31, Tryz.ntmps31
  by_cases h0 : ss.length = 0
  · obtain rfl := List.eq_nil_of_length_eq_zero h0
    simp only [List.length_nil] at *
    go_wp2
    go_region
    have hk := k1 (wrap64 (x + 1))
    generalize w.setCell ⟨b.b1, 0, none⟩ (.int .i64 (wrap64 (x + 1))) = w1 at *
    have HK := Lib.hid hk
    clear hk k1
    go_wp2
    go_ret
    exact ⟨false, rfl, HK.out.1.drewN 1, below_drewN HK.out.2.2.2.1 1⟩
  · obtain ⟨s0, sr, rfl⟩ : ∃ s0 sr, ss = s0 :: sr := by
      cases ss with
      | nil => exact absurd rfl h0
      | cons a r => exact ⟨a, r, rfl⟩
    have hk := k1 (wrap64 (x + 1))
    have hsl := fun W => slice_tail A (s0 :: sr).length cs (by simp) W
    have d0 : (((s0 :: sr).length : Int) == 0) = false := by simp; omega
    have t0 : 0 < (s0 :: sr).length := by simp
    obtain ⟨g, off, hA, hg, hcell⟩ := hk.2.2.2.2.row.at_.resolve_left h0
    simp only at hA
    subst hA
    have y3 := hcell 0 (by simp)
    simp only [Nat.add_zero, List.getElem_cons_zero] at y3
    have hlen2 : (s0 :: sr).length ≤ 1000000 := hlen
    clear hcell
    have HNX := Lib.hid hk
    have z2 := hk.2.2.1.cell 0
    have g2 := hk.2.2.1.frozen 0
    have z1 := hk.2.1.cell 0
    have g1 := hk.2.1.frozen 0
    simp only [List.getElem?_toArray, List.getElem?_cons_zero] at z2 z1
    have HSS1 := Lib.hid hk.1
    have HB1 := Lib.hid hk.2.1
    have HB2 := Lib.hid hk.2.2.1
    have HBE := Lib.hid hk.2.2.2.1
    have HOF := Lib.hid (hk.2.2.2.2.tail HCS.out)
    clear hk HNX k1 HSS HC1 HC2 HO2 hcs hlen ho2
    generalize hL : (s0 :: sr).length = L at *
    generalize hSA : (if cs = 1 then some (⟨g, off, none⟩ : Addr) else (some (⟨g, off, none⟩ : Addr)).map (·.add 1)) = SA at *
    have HSL := Lib.hid hL
    have HSA := Lib.hid hSA
    clear hL hSA h0
    go_wp2
    generalize w.setCell ⟨b.b1, 0, none⟩ (.int .i64 (wrap64 (x + 1))) = w1 at *
    go_region
    go_wp2
    · go_ret
      exact ⟨false, rfl, HSS1.out.drewN 1, below_drewN HBE.out 1⟩
    · go_ret
      have hSL := HSL.out
      have ho := HOF.out
      have hln : L - 1 = sr.length := by rw [← hSL]; simp
      have nb : b.b2 ≠ b.b1 := fun e => n12 e.symm
      have kk : Kept (fun i => i = b.b1 ∨ i = b.b2) w1 ((w1.setCell ⟨b.b2, 0, none⟩ (.slice SA (L - 1) (cs - 1))).setCell ⟨b.b1, 0, none⟩ (.int .i64 0)) :=
        ((Kept.refl _ w1).setCell (p := ⟨b.b2, 0, none⟩) (.inl (.inr rfl)) _).setCell (p := ⟨b.b1, 0, none⟩) (.inl (.inl rfl)) _
      have e1 : Blk ((w1.setCell ⟨b.b2, 0, none⟩ (.slice SA (L - 1) (cs - 1))).setCell ⟨b.b1, 0, none⟩ (.int .i64 0)) b.b1 3 #[.int .i64 0] := by
        have := (HB1.out.far (p := ⟨b.b2, 0, none⟩) n12 (.slice SA (L - 1) (cs - 1))).set_ 0 (.int .i64 0)
        simpa using this
      have e2 : Blk ((w1.setCell ⟨b.b2, 0, none⟩ (.slice SA (L - 1) (cs - 1))).setCell ⟨b.b1, 0, none⟩ (.int .i64 0)) b.b2 23 #[.slice SA sr.length (cs - 1)] := by
        have := (HB2.out.set_ 0 (.slice SA (L - 1) (cs - 1))).far (p := ⟨b.b1, 0, none⟩) nb (.int .i64 0)
        rw [← hln]
        simpa using this
      exact ⟨true, rfl, (HSS1.out.seeds kk ⟨0, e1⟩ e2 (by have := HCS.out; omega) ho).drewN 1, below_drewN (HBE.out.trans (kk.below (Nat.le_of_lt HSS1.out.lt) (fun i e => e.elim (fun e => by rw [e]; exact HSS1.out.hb1) (fun e => by rw [e]; exact HSS1.out.hb2)))) 1⟩
end
end Go.Proofs.YtmbekchnfbmhbaaGreat

/- back. -/
namespace Go.Proofs.YtmbekchnfbmhbaaGreat
open Go.RowKit Go.Lib

def backT (M : Tr) (lev : Nat) : Tr := ⟨M.n, M.L.take (M.L.length - above lev M.L), lev⟩
theorem backT_is {M : Tr} {lev : Nat} (h : lev ≤ M.lv) : backM M lev = backT M lev ∧ backE M lev = 0 ∧ backGone M lev = (M.L.reverse.take (above lev M.L)).map Pt.lit := by
  have hb : backBad M lev = false := by
    unfold backBad
    rw [decide_eq_false (by omega), decide_eq_false (by omega)]
    rfl
  unfold backM backE backGone
  rw [hb]
  exact ⟨rfl, rfl, rfl⟩
theorem gone_lit {M : Tr} (hM : M.Ok) {lev : Nat} {x : Int} (h : x ∈ (M.L.reverse.take (above lev M.L)).map Pt.lit) : 0 ≤ x ∧ x / 2 < M.n := by
  obtain ⟨p, hp, rfl⟩ := List.mem_map.1 h
  exact hM.lit p (List.mem_reverse.1 (List.mem_of_mem_take hp))
/-- Who is open behind Back was open ahead, or is gone. -/
theorem back_open {M : Tr} {lev : Nat} {v : Int} (h : find (backT M lev).L v = none) : find M.L v = none ∨ ∃ x ∈ (M.L.reverse.take (above lev M.L)).map Pt.lit, x / 2 = v := by
  have e : M.L = (backT M lev).L ++ M.L.drop (M.L.length - above lev M.L) := (List.take_append_drop _ _).symm
  cases hf : find M.L v with
  | none => exact .inl rfl
  | some p =>
    right
    unfold find at hf h
    rw [e, List.find?_append, h] at hf
    simp only [Option.none_or] at hf
    have h1 := List.mem_of_find?_eq_some hf
    have h2 := List.find?_some hf
    refine ⟨p.lit, List.mem_map.2 ⟨p, ?_, rfl⟩, by simpa [isAt] using h2⟩
    rw [List.take_reverse]
    exact List.mem_reverse.2 h1

section
variable {w : World} {b : Bl} {n : Nat} {S : Nat → Prop} {vl vp vs : Value} {k : Int} {M M' : Tr} {R st : List RowT} {lr lr' : List Nat} {ph : List Int}
def BackAt (w : World) (b : Bl) (n : Nat) (vl vp vs : Value) (k : Int) (M : Tr) (R st : List RowT) (lr : List Nat) (GA : Option Addr) (gc : Nat) (gone : List Int) (g : Nat) (v19 : Value) (wr : World) : Prop :=
  ∃ i S2 lr2 ph2, v19 = .int .i64 ((i : Nat) : Int) ∧ i + g = gone.length ∧ SS wr b n S2 vl vp vs k M R st lr2 ph2 ∧ Below b.H0 w wr ∧ (∀ y ∈ lr, y ∈ lr2) ∧ (∀ x ∈ gone.take i, (x / 2).toNat ∈ lr2) ∧ Off wr (Zs wr b S2 vl vp vs) (GA, gc, gone)
def BackOut (w : World) (b : Bl) (n : Nat) (vl vp vs : Value) (k : Int) (M : Tr) (R st : List RowT) (lr : List Nat) (lev : Nat) (gone : List Int) (e : Ending) (w' : World) : Prop :=
  ∃ S2 lr2 ph2, e = .returned (.tuple #[]) ∧ SS w' b n S2 vl vp vs k (backT M lev) R st lr2 ph2 ∧ Below b.H0 w w' ∧ (∀ y ∈ lr, y ∈ lr2) ∧ ∀ x ∈ gone, (x / 2).toNat ∈ lr2

set_option maxRecDepth 100000 in
set_option maxHeartbeats 4000000 in
theorem sback_ok (h : SS w b n S vl vp vs k M R st lr ph) (hmn : M.n = n) {lev : Nat} (hlev : lev ≤ M.lv) :
    Calls Tryz.prog 59 #[.pointer (some ⟨b.bs, 0, none⟩), .int .i64 lev] w (BackOut w b n vl vp vs k M R st lr lev ((M.L.reverse.take (above lev M.L)).map Pt.lit)) := by
  obtain ⟨e1, e2, e3⟩ := backT_is hlev
  have K1 := back_T h.t lev
  rw [e1, e2, e3] at K1
  have hgl := fun x hx => gone_lit h.t.ok (lev := lev) (x := x) hx
  rw [hmn] at hgl
  have hglen : ((M.L.reverse.take (above lev M.L)).map Pt.lit).length ≤ 65536 := by
    have := h.t.ok.len
    have := h.nn
    rw [List.length_map, List.length_take, List.length_reverse]
    omega
  generalize (M.L.reverse.take (above lev M.L)).map Pt.lit = gone at *
  have c3 := h.blk.cell 3
  simp only [List.getElem?_toArray, List.getElem?_cons_zero, List.getElem?_cons_succ] at c3
  have hn16 := h.nn
  have HGL := Lib.hid hgl
  have H0 := Lib.hid h
  have hlev2 : (lev : Int) ≤ 65536 := by have := h.t.ok.lv; omega
  clear h hgl e1 e2 e3
  go_enter Tryz.func59, Tryz.ntmps59
  go_wp2_with fail
  refine K1.mono ?_
  rintro e w1 ⟨gv, rfl, hgo, ht1, hs1⟩
  have hss1 := H0.out.trail hs1 ht1
  obtain ⟨GA, gc, rfl, _⟩ := hgo.form
  have hoff : Off w1 (Zs w1 b S vl vp vs) (GA, gc, gone) := by
    have hr := row_own hgo (by omega)
    refine ⟨hr.1, hr.2, fun h0 a ha hz => ?_⟩
    have ha : GA = some a := ha
    subst ha
    have h1 := (hgo.lt a.block rfl).1
    rcases hz with hz | hz
    · have := (H0.out.zlow (.inl hz)).2
      omega
    · obtain ⟨_, _, cs, hp⟩ := ht1.lb hz
      obtain ⟨c2, hb2⟩ := own_heap hgo rfl
      exact hb2.ne_ hp (by decide) rfl
  have HG0 := Lib.hid hoff
  have HS1 := Lib.hid hss1
  have HB1 := Lib.hid hs1.below
  clear K1 hgo ht1 hs1 hss1 hoff
  go_wp2
  go_loopg [19] gone.length (BackAt w b n vl vp vs k (backT M lev) R st lr GA gc gone)
  case atStart => exact ⟨0, S, lr, ph, rfl, by omega, HS1.out, HB1.out, fun y hy => hy, fun x hx => by simp at hx, HG0.out⟩
  case round =>
    obtain ⟨i, S2, lr2, ph2, rfl, hig, hss, hbel, hl1, hl2, hoff⟩ := hrel
    clear HS1 HB1 HG0 c3
    cases gk with
    | zero =>
      obtain rfl : i = gone.length := by omega
      have d1 : decide (gone.length < gone.length) = false := by simp
      rw [List.take_length] at hl2
      have HSS := Lib.hid hss
      have HBE := Lib.hid hbel
      have HL1 := Lib.hid hl1
      have HL2 := Lib.hid hl2
      clear hss hbel hl1 hl2 hoff
      go_wp2
      go_end0
      exact ⟨S2, lr2, ph2, rfl, HSS.out, HBE.out, HL1.out, HL2.out⟩
    | succ gm =>
      have hi : i < gone.length := by omega
      have d1 : decide (i < gone.length) = true := decide_eq_true hi
      have hx := HGL.out gone[i] (List.getElem_mem hi)
      obtain ⟨gg, off, hGA, hgg, hcell⟩ := hoff.row.at_.resolve_left (by simp only; omega)
      have hGA : GA = some ⟨gg, off, none⟩ := hGA
      subst hGA
      have y1 := hcell i hi
      simp only at y1
      generalize hxx : gone[i] = x at *
      have HX := Lib.hid hxx
      obtain ⟨m, hm⟩ : ∃ m : Nat, (x / 2).toNat = m := ⟨_, rfl⟩
      have hxm : x / 2 = (m : Int) := by omega
      have hmn2 : m < n := by omega
      obtain ⟨gp, cp, hvp, hgp, _, _⟩ := own_form hss.p (by omega)
      have c5 := hss.blk.cell 5
      simp only [List.getElem?_toArray, List.getElem?_cons_zero, List.getElem?_cons_succ] at c5
      rw [hvp] at c5
      have hpl := hss.hp
      have y5 : ∃ u, wr.cell? ⟨gp, m, none⟩ = some u := by
        have ho := hss.p
        rw [hvp] at ho
        exact ⟨_, (ho.cellAt m (by omega)).trans (by rw [List.getElem?_map, List.getElem?_eq_getElem (by omega)]; rfl)⟩
      obtain ⟨u5, y5⟩ := y5
      have f5 : wr.frozen? ⟨gp, m, none⟩ = false := by
        have ho := hss.p
        rw [hvp] at ho
        exact own_frozen ho m
      have t1 : (0 : Int) ≤ (i : Int) := by omega
      have t2 : (i : Int) < (gone.length : Int) := by omega
      have t3 : (0 : Int) ≤ (m : Int) := by omega
      have t4 : (m : Int) < (n : Int) := by omega
      have HL1 := Lib.hid hl1
      have HL2 := Lib.hid hl2
      obtain ⟨hx0, hx1⟩ := hx
      clear hxx hcell hpl hl1 hl2
      by_cases hpar : x % 2 = 0
      · skip
        have hand : bits .and .i64 x 1 = 0 := by rw [i64_and_one x (by omega) (by omega)]; omega
        clear hpar
        have hph := hss.phase hvp m (x := 1) (by omega)
        have kph := Kept.set1 wr gp m (.int .i8 1)
        have hof2 := hss.offPhase hvp m (.int .i8 1) hoff
        have hb2 := hbel.trans (kph.below (Nat.le_of_lt hss.lt) (fun i e => by rw [e]; exact hgp))
        have c42 := hph.blk.cell 4
        simp only [List.getElem?_toArray, List.getElem?_cons_zero, List.getElem?_cons_succ] at c42
        have KP := put_H hph.h (Nat.le_of_lt hph.lt) (x := m) (by omega)
        have HPH := Lib.hid hph
        have HOF := Lib.hid hof2
        have HB2 := Lib.hid hb2
        clear hss hbel hoff hph kph hof2 hb2 hvp
        go_wp2_with (go_at_call 21; (with_reducible refine KP.mono ?_); rintro e w3 ⟨S3, lr3, rfl, hh3, hm3, hk3, hs3⟩; have HSS3 := Lib.hid (HPH.out.heap hk3 hh3 hs3); have HOF3 := Lib.hid (HPH.out.offHeap hk3 hs3 HOF.out); have HB3 := Lib.hid (HB2.out.trans (hk3.below (Nat.le_of_lt HPH.out.lt) (fun i hi => (HPH.out.h.low hi).1))); have HM3 := Lib.hid hm3; clear hh3 hm3 hk3 hs3)
        go_roundg gm
        case measure => omega
        case rel =>
          refine ⟨i + 1, S3, lr3, _, by go_num, by omega, HSS3.out, HB3.out, fun y hy => (HM3.out y).2 (.inl (HL1.out y hy)), fun y hy => ?_, HOF3.out⟩
          rw [List.take_succ_eq_append_getElem hi] at hy
          rcases List.mem_append.1 hy with hy | hy
          · exact (HM3.out _).2 (.inl (HL2.out y hy))
          · rw [List.mem_singleton.1 hy, HX.out, hm]
            exact (HM3.out _).2 (.inr rfl)
      · skip
        have hand : bits .and .i64 x 1 = 1 := by rw [i64_and_one x (by omega) (by omega)]; omega
        clear hpar
        have hph := hss.phase hvp m (x := 2) (by omega)
        have kph := Kept.set1 wr gp m (.int .i8 2)
        have hof2 := hss.offPhase hvp m (.int .i8 2) hoff
        have hb2 := hbel.trans (kph.below (Nat.le_of_lt hss.lt) (fun i e => by rw [e]; exact hgp))
        have c42 := hph.blk.cell 4
        simp only [List.getElem?_toArray, List.getElem?_cons_zero, List.getElem?_cons_succ] at c42
        have KP := put_H hph.h (Nat.le_of_lt hph.lt) (x := m) (by omega)
        have HPH := Lib.hid hph
        have HOF := Lib.hid hof2
        have HB2 := Lib.hid hb2
        clear hss hbel hoff hph kph hof2 hb2 hvp
        go_wp2_with (go_at_call 21; (with_reducible refine KP.mono ?_); rintro e w3 ⟨S3, lr3, rfl, hh3, hm3, hk3, hs3⟩; have HSS3 := Lib.hid (HPH.out.heap hk3 hh3 hs3); have HOF3 := Lib.hid (HPH.out.offHeap hk3 hs3 HOF.out); have HB3 := Lib.hid (HB2.out.trans (hk3.below (Nat.le_of_lt HPH.out.lt) (fun i hi => (HPH.out.h.low hi).1))); have HM3 := Lib.hid hm3; clear hh3 hm3 hk3 hs3)
        go_roundg gm
        case measure => omega
        case rel =>
          refine ⟨i + 1, S3, lr3, _, by go_num, by omega, HSS3.out, HB3.out, fun y hy => (HM3.out y).2 (.inl (HL1.out y hy)), fun y hy => ?_, HOF3.out⟩
          rw [List.take_succ_eq_append_getElem hi] at hy
          rcases List.mem_append.1 hy with hy | hy
          · exact (HM3.out _).2 (.inl (HL2.out y hy))
          · rw [List.mem_singleton.1 hy, HX.out, hm]
            exact (HM3.out _).2 (.inr rfl)
end
end Go.Proofs.YtmbekchnfbmhbaaGreat

/- What is told to euf. -/
import Derived.Test.YtkapbdjobfbhhaaGreatEuF
import Derived.Test.YtkapbdjobfbhhaaGreatQuiet
import Derived.Test.YtkapbdjobfbhhaaGreatShelf
import Derived.Deep.Grids
import Derived.Deep.AppendLies
namespace Go.Proofs.YtkapbdjobfbhhaaGreat
open Go.RowKit Go.Lib
structure Row (w : World) (A : Option Addr) (zs : List Int) : Prop where
  len : zs.length ≤ 100000
  at_ : zs.length = 0 ∨ ∃ b off, A = some ⟨b, off, none⟩ ∧ b < w.heap.size ∧ ∀ i (h : i < zs.length), w.cell? ⟨b, off + i, none⟩ = some (.int .i64 zs[i])
theorem Row.below {w w' : World} {A : Option Addr} {zs : List Int} (h : Row w A zs) (hb : Below w.heap.size w w') : Row w' A zs := by
  refine ⟨h.len, h.at_.imp id fun ⟨b, off, h1, h2, h3⟩ => ⟨b, off, h1, Nat.lt_of_lt_of_le h2 hb.size, fun i hi => ?_⟩⟩
  rw [hb.cell (p := ⟨b, off + i, none⟩) h2]
  exact h3 i hi
theorem rnode_ok (x : Int) (w : World) : Calls Tryz.prog 15 #[.int .i64 x] w fun e w' => e = .returned (.int .i64 (x / 2)) ∧ w = w' := by
  go_enter Tryz.func15, Tryz.ntmps15
  go_wp2
  go_ret
  exact ⟨rfl, rfl⟩
theorem node_ok (x : Int) (w : World) : Calls Tryz.prog 56 #[.int .i64 x] w fun e w' => e = .returned (.int .i64 (x / 2)) ∧ w = w' := by
  go_enter Tryz.func56, Tryz.ntmps56
  go_wp2
  go_ret
  exact ⟨rfl, rfl⟩
def opM (T : List Nd) (id : Int) : Int := match T[id.toNat]? with
  | some n => n.op
  | none => -1
def litBad (T : List Nd) (x : Int) : Bool := decide (x < 0) || (sortM T (x / 2) != 0) || (opM T (x / 2) == 1)
theorem litBad_iff {T : List Nd} {x : Int} : litBad T x = false ↔ LitMay T x := by
  unfold litBad LitMay opM
  simp only [Bool.or_eq_false_iff, decide_eq_false_iff_not, bne_eq_false_iff_eq, beq_eq_false_iff_ne]
  refine ⟨fun ⟨⟨h1, h2⟩, h3⟩ => ⟨by omega, h2, fun n hn => ?_⟩, fun ⟨h1, h2, h3⟩ => ⟨⟨by omega, h2⟩, ?_⟩⟩
  · rw [hn] at h3
    exact h3
  · cases hn : T[(x / 2).toNat]? with
    | none => decide
    | some n => exact h3 n hn
theorem sort_place {T : List Nd} {y : Int} (h : sortM T y = 0) : ∃ i : Nat, y = i ∧ i < T.length := by
  rcases int_cases (T := T) y with h0 | ⟨h0, h1⟩ | h
  · rw [sortM_out (.inl h0)] at h; cases h
  · rw [sortM_out (.inr h1)] at h; cases h
  · exact h
theorem opM_in {T : List Nd} {i : Nat} (h : i < T.length) : opM T i = T[i].op := by
  unfold opM
  rw [Int.toNat_natCast, List.getElem?_eq_getElem h]
theorem mayf_ok {w : World} {q : Nat} {A : Option Addr} {c : Nat} {T : List Nd} (h : TabP w q A c T) (x : Int) :
    Calls Tryz.prog 42 #[.int .i64 x, .pointer (some ⟨q, 0, none⟩)] w fun e w' => e = .returned (.bool (litBad T x)) ∧ w = w' := by
  have KS := Lib.hid (fun y => sort_ok h y)
  have c0 := h.blk.cell 0
  simp only [List.getElem?_toArray, List.getElem?_cons_zero] at c0
  have hq := h.blk.lt
  have HT := Lib.hid h.tab
  clear h
  by_cases h0 : x < 0
  · have d0 := decide_eq_true h0
    rw [show litBad T x = true by unfold litBad; rw [d0]; rfl]
    clear h0
    go_enter Tryz.func42, Tryz.ntmps42
    go_wp2
    go_ret
    exact ⟨rfl, rfl⟩
  have d0 := decide_eq_false h0
  by_cases hs : sortM T (x / 2) = 0
  rotate_left
  · have b0 : (sortM T (x / 2) != 0) = true := by simp [hs]
    rw [show litBad T x = true by unfold litBad; rw [d0, b0]; rfl]
    clear hs h0
    go_enter Tryz.func42, Tryz.ntmps42
    go_wp2_with fail
    refine (KS.out (x / 2)).mono ?_
    rintro e w1 ⟨rfl, rfl⟩
    go_wp2
    go_ret
    exact ⟨rfl, rfl⟩
  obtain ⟨i, hi, hlt⟩ := sort_place hs
  have e1 : litBad T x = (T[i].op == 1) := by
    unfold litBad
    rw [d0, hs, hi, opM_in hlt]
    rfl
  rw [e1]
  have KS0 := Lib.hid (KS.out (x / 2))
  rw [hs] at KS0
  obtain ⟨b, off, hA, hbb, hcell⟩ := HT.out.at_.resolve_left (by omega)
  subst hA
  obtain ⟨y0, _, _, _, _, _, _, _⟩ := (hcell i hlt).all
  have t1 : (0 : Int) ≤ (i : Int) := by omega
  have t2 : (i : Int) < (T.length : Int) := by omega
  generalize T[i].op = ov at *
  obtain ⟨r, hr⟩ : ∃ r, (ov == 1) = r := ⟨_, rfl⟩
  rw [hr]
  rw [hi] at KS0
  clear hcell hs e1 h0
  go_enter Tryz.func42, Tryz.ntmps42
  go_wp2_with fail
  refine KS0.out.mono ?_
  rintro e w1 ⟨rfl, rfl⟩
  go_wp2
  go_ret
  exact ⟨rfl, rfl⟩
theorem may_cont {w : World} {q : Nat} {A B : Option Addr} {c : Nat} {T : List Nd} {zs : List Int} (cap : Nat) (h : TabP w q A c T) (hr : Row w B zs) :
    Calls Tryz.prog 22 #[.slice B zs.length cap, .func (.func 42) #[] #[.pointer (some ⟨q, 0, none⟩)]] w fun e w' => e = .returned (.bool (zs.any (litBad T))) ∧ ∃ k, w' = w.drewN k := by
  rcases hr.at_ with h0 | ⟨b, off, hA, hb, hc⟩
  · obtain rfl := List.length_eq_zero_iff.1 h0
    refine (Tryz.slices_ContainsFunc_empty (α := Int) B cap _ w).mono ?_
    rintro e w' ⟨rfl, rfl⟩
    exact ⟨rfl, 0, rfl⟩
  · subst hA
    have hp : PredAt Tryz.prog 42 #[.pointer (some ⟨q, 0, none⟩)] (Value.int .i64) (litBad T) w := fun W x hb => by
      refine (mayf_ok (h.below hb) x).mono ?_
      rintro e w' ⟨rfl, rfl⟩
      exact ⟨rfl, 0, rfl⟩
    refine (Tryz.slices_ContainsFunc (Value.int .i64) (litBad T) 42 #[.pointer (some ⟨q, 0, none⟩)] (enters_of Tryz.func42 (by kernel_rfl) rfl) b off zs.length cap zs w hp (Nat.le_refl _) (by have := hr.len; omega) (fun j hj => by rw [hc j hj, getElem!_pos zs j hj])).mono ?_
    rintro e w' ⟨rfl, k, rfl⟩
    exact ⟨by rw [List.take_length], k, rfl⟩
theorem any_bad {T : List Nd} {L : List Int} : L.any (litBad T) = false ↔ ∀ x ∈ L, LitMay T x := by
  rw [List.any_eq_false]
  exact ⟨fun h x hx => litBad_iff.1 (by simpa using h x hx), fun h x hx => by rw [litBad_iff.2 (h x hx)]; decide⟩
set_option maxRecDepth 100000 in
theorem may_ok {w : World} {A B : Option Addr} {c : Nat} {T : List Nd} {L : List Int} (cap : Nat) (h : Tab w A T) (hc : T.length ≤ c) (hr : Row w B L) :
    Calls Tryz.prog 24 #[.agg #[.slice A T.length c], .slice B L.length cap] w (TestIs (MayLits T L) w) := by
  have HP := Lib.hid (TabP.box h hc)
  have HB := Lib.hid (show Below w.heap.size w (w.alloc (.cells #[.slice A T.length c] 33)) from (Below.refl _ w).alloc (Nat.le_refl _) _)
  have HT := Lib.hid h
  have HR := Lib.hid hr
  have c0 := HP.out.blk.cell 0
  simp only [List.getElem?_toArray, List.getElem?_cons_zero] at c0
  have HC := Lib.hid hc
  clear h hr hc
  go_enter Tryz.func24, Tryz.ntmps24
  go_wp2_with fail
  refine (check_ok c HC.out (HT.out.below HB.out)).mono ?_
  rintro e w1 ⟨r, rfl, hr, hb1⟩
  have HR1 := Lib.hid hr
  have HB1 := Lib.hid (HB.out.trans (hb1.mono HB.out.size))
  have HP1 := Lib.hid (HP.out.below hb1)
  clear hr hb1 c0
  cases r with
  | false =>
    go_wp2
    go_ret
    exact TestIs.no (fun hm => by have := HR1.out.2 hm.1; cases this) HB1.out
  | true =>
    go_wp2_with fail
    refine (may_cont cap HP1.out (HR.out.below HB1.out)).mono ?_
    rintro e w2 ⟨rfl, k, rfl⟩
    obtain ⟨r, hr⟩ : ∃ r, L.any (litBad T) = r := ⟨_, rfl⟩
    rw [hr]
    have HR2 := Lib.hid hr
    clear hr
    cases r with
    | true =>
      go_wp2
      go_ret
      exact TestIs.no (fun hm => by have := any_bad.2 hm.2; rw [HR2.out] at this; cases this) (below_drewN HB1.out _)
    | false =>
      go_wp2
      go_ret
      exact TestIs.yes ⟨by have := HR1.out; simpa using this, any_bad.1 HR2.out⟩ (below_drewN HB1.out _)
set_option maxRecDepth 100000 in
set_option maxHeartbeats 2000000 in
theorem rmay_ok {w : World} {A B : Option Addr} {c : Nat} {T : List Nd} {L : List Int} (cap : Nat) (h : Tab w A T) (hr : Row w B L) :
    Calls Tryz.prog 6 #[.agg #[.slice A T.length c], .slice B L.length cap] w (TestIs (MayLits T L) w) := by
  have hlen := hr.len
  have HB := Lib.hid (show Below w.heap.size w (w.alloc (.cells #[.slice A T.length c] 33)) from (Below.refl _ w).alloc (Nat.le_refl _) _)
  have HBL := Lib.hid (show Blk (w.alloc (.cells #[.slice A T.length c] 33)) w.heap.size 33 #[.slice A T.length c] from Blk.new w _ _)
  have HL1 : Hid (w.heap.size < (w.alloc (.cells #[.slice A T.length c] 33)).heap.size) := Lib.hid (by simp)
  have HT := Lib.hid h
  have HR := Lib.hid hr
  clear h hr
  go_enter Tryz.func6, Tryz.ntmps6
  go_wp2_with fail
  refine (rcheck_ok c (HT.out.below HB.out)).mono ?_
  rintro e w1 ⟨r, rfl, hr, hb1⟩
  have HR1 := Lib.hid hr
  have HB1 := Lib.hid (HB.out.trans (hb1.mono HB.out.size))
  have HBL1 := Lib.hid (HBL.out.below hb1 HL1.out)
  clear hr hb1
  cases r with
  | false =>
    go_wp2
    go_ret
    exact TestIs.no (fun hm => by have := HR1.out.2 hm.1; cases this) HB1.out
  | true =>
    go_wp2
    go_loopg [5] L.length (fun g v wr => ∃ i : Nat, i + g = L.length ∧ v = .int .i64 i ∧ Below w.heap.size w wr ∧ Blk wr w.heap.size 33 #[.slice A T.length c] ∧ ∀ (j : Nat) (hj : j < L.length), j < i → LitMay T L[j])
    case atStart => exact ⟨0, by omega, rfl, HB1.out, HBL1.out, fun j _ hj => absurd hj (Nat.not_lt_zero _)⟩
    case round =>
      obtain ⟨i, hig, rfl, hbw, hblr, hinv⟩ := hrel
      have HBW := Lib.hid hbw
      have HBR := Lib.hid hblr
      have HI := Lib.hid hinv
      clear hbw hblr hinv
      cases gk with
      | zero =>
        obtain rfl : i = L.length := by omega
        have d2 : decide ((L.length : Int) < L.length) = false := by simp
        go_wp2
        go_ret
        refine TestIs.yes ⟨by have := HR1.out; simpa using this, fun x hx => ?_⟩ HBW.out
        obtain ⟨j, hj, rfl⟩ := List.mem_iff_getElem.1 hx
        exact HI.out j hj hj
      | succ gk =>
        have hlt : i < L.length := by omega
        have d2 : decide ((i : Int) < L.length) = true := by simp; omega
        have t1 : (0 : Int) ≤ (i : Int) := by omega
        have t2 : (i : Int) < (L.length : Int) := by omega
        obtain ⟨bl, offl, hA, hbb, hcell⟩ := (HR.out.below HBW.out).at_.resolve_left (by omega)
        subst hA
        have ci := hcell i hlt
        have HX := Lib.hid (show L[i]'hlt = L[i]'hlt from rfl)
        have HLI : Hid (∀ x, L[i]'hlt = x → ((∀ (j : Nat) (hj : j < L.length), j < i + 1 → LitMay T L[j]) ↔ LitMay T x)) := Lib.hid fun x hx => ⟨fun h => hx ▸ h i hlt (by omega), fun h j hj hji => by
          rcases Nat.lt_succ_iff_lt_or_eq.1 hji with hji | rfl
          · exact HI.out j hj hji
          · exact hx ▸ h⟩
        have HNO : Hid (∀ x, L[i]'hlt = x → ¬ LitMay T x → ¬ MayLits T L) := Lib.hid fun x hx h hm => h (hx ▸ hm.2 _ (List.getElem_mem hlt))
        obtain ⟨x, hx⟩ : ∃ x, L[i]'hlt = x := ⟨_, rfl⟩
        have HX1 := Lib.hid hx
        rw [hx] at ci
        clear hx hcell HX
        have HTw := Lib.hid (HT.out.below HBW.out)
        have HF : Hid (∀ w', Below wr.heap.size wr w' → w'.cell? ⟨w.heap.size, 0, none⟩ = some (.slice A T.length c) ∧ w'.cell? ⟨bl, offl + i, none⟩ = some (.int .i64 x)) := Lib.hid fun w' hb => ⟨(hb.cell (p := ⟨w.heap.size, 0, none⟩) HBR.out.lt).trans (HBR.out.cell 0), (hb.cell (p := ⟨bl, offl + i, none⟩) hbb).trans ci⟩
        go_upto_region 6 with (fail)
        by_cases h0 : x < 0
        · have d0 := decide_eq_true h0
          have HN := Lib.hid (HNO.out x HX1.out fun hm => by have := hm.1; omega)
          clear h0
          refine wp_region_quiet (C := fun w' => Below wr.heap.size wr w') (by kernel_rfl) (by kernel_rfl) (⟨rfl, rfl, rfl, Nat.le_refl _, fun _ _ => rfl⟩) ?_
          refine QW.lit ?_
          refine qw_want rfl ?_ (fun w' hw' => ?_) ?_
          rotate_left
          · unfold Oper.quietAt
            go_simp
            exact rfl
          simp only [Act.put, List.setIfInBounds_toArray, List.set_cons_succ, List.set_cons_zero]
          refine qw_want rfl ?_ (fun w' hw' => ?_) ?_
          rotate_left
          · unfold Oper.quietAt
            go_simp
            exact rfl
          simp only [Act.put, List.setIfInBounds_toArray, List.set_cons_succ, List.set_cons_zero]
          refine qw_want rfl ?_ (fun w' hw' => ?_) ?_
          rotate_left
          · unfold Oper.quietAt
            go_simp
            exact rfl
          simp only [Act.put, List.setIfInBounds_toArray, List.set_cons_succ, List.set_cons_zero]
          refine qw_want rfl ?_ (fun w' hw' => ?_) ?_
          rotate_left
          · obtain ⟨k0, k1⟩ := HF.out w' hw'
            unfold Oper.quietAt
            go_simp
            exact rfl
          simp only [Act.put, List.setIfInBounds_toArray, List.set_cons_succ, List.set_cons_zero]
          refine qw_want rfl ?_ (fun w' hw' => ?_) ?_
          rotate_left
          · unfold Oper.quietAt
            go_simp
            exact rfl
          simp only [Act.put, List.setIfInBounds_toArray, List.set_cons_succ, List.set_cons_zero]
          refine qw_want rfl ?_ (fun w' hw' => ?_) ?_
          rotate_left
          · unfold Oper.quietAt
            go_simp
            exact rfl
          simp only [Act.put, List.setIfInBounds_toArray, List.set_cons_succ, List.set_cons_zero]
          refine qw_skip (by rfl) ?_
          simp only [Act.put, List.setIfInBounds_toArray, List.set_cons_succ, List.set_cons_zero]
          refine qw_skip (by rfl) ?_
          simp only [Act.put, List.setIfInBounds_toArray, List.set_cons_succ, List.set_cons_zero]
          refine qw_skip (by rfl) ?_
          simp only [Act.put, List.setIfInBounds_toArray, List.set_cons_succ, List.set_cons_zero]
          refine qw_skip (by rfl) ?_
          simp only [Act.put, List.setIfInBounds_toArray, List.set_cons_succ, List.set_cons_zero]
          refine qw_skip (by rfl) ?_
          simp only [Act.put, List.setIfInBounds_toArray, List.set_cons_succ, List.set_cons_zero]
          refine qw_skip (by rfl) ?_
          simp only [Act.put, List.setIfInBounds_toArray, List.set_cons_succ, List.set_cons_zero]
          refine qw_skip (by rfl) ?_
          simp only [Act.put, List.setIfInBounds_toArray, List.set_cons_succ, List.set_cons_zero]
          refine qw_skip (by rfl) ?_
          simp only [Act.put, List.setIfInBounds_toArray, List.set_cons_succ, List.set_cons_zero]
          refine qw_want rfl ?_ (fun w' hw' => ?_) ?_
          rotate_left
          · unfold Oper.quietAt
            go_simp
            exact rfl
          simp only [Act.put, List.setIfInBounds_toArray, List.set_cons_succ, List.set_cons_zero]
          refine qw_want rfl ?_ (fun w' hw' => ?_) ?_
          rotate_left
          · unfold Oper.quietAt
            go_simp
            exact rfl
          simp only [Act.put, List.setIfInBounds_toArray, List.set_cons_succ, List.set_cons_zero]
          refine qw_skip (by rfl) ?_
          simp only [Act.put, List.setIfInBounds_toArray, List.set_cons_succ, List.set_cons_zero]
          refine qw_skip (by rfl) ?_
          simp only [Act.put, List.setIfInBounds_toArray, List.set_cons_succ, List.set_cons_zero]
          refine qw_skip (by rfl) ?_
          simp only [Act.put, List.setIfInBounds_toArray, List.set_cons_succ, List.set_cons_zero]
          refine qw_skip (by rfl) ?_
          simp only [Act.put, List.setIfInBounds_toArray, List.set_cons_succ, List.set_cons_zero]
          refine qw_skip (by rfl) ?_
          simp only [Act.put, List.setIfInBounds_toArray, List.set_cons_succ, List.set_cons_zero]
          refine qw_skip (by rfl) ?_
          simp only [Act.put, List.setIfInBounds_toArray, List.set_cons_succ, List.set_cons_zero]
          refine qw_skip (by rfl) ?_
          simp only [Act.put, List.setIfInBounds_toArray, List.set_cons_succ, List.set_cons_zero]
          refine qw_skip (by rfl) ?_
          simp only [Act.put, List.setIfInBounds_toArray, List.set_cons_succ, List.set_cons_zero]
          refine qw_skip (by rfl) ?_
          simp only [Act.put, List.setIfInBounds_toArray, List.set_cons_succ, List.set_cons_zero]
          refine qw_skip (by rfl) ?_
          simp only [Act.put, List.setIfInBounds_toArray, List.set_cons_succ, List.set_cons_zero]
          refine qw_skip (by rfl) ?_
          simp only [Act.put, List.setIfInBounds_toArray, List.set_cons_succ, List.set_cons_zero]
          refine qw_want rfl ?_ (fun w' hw' => ?_) ?_
          rotate_left
          · unfold Oper.quietAt
            go_simp
            exact rfl
          simp only [Act.put, List.setIfInBounds_toArray, List.set_cons_succ, List.set_cons_zero]
          refine qw_end (fun w5 hb5 => ?_)
          go_wp2
          go_ret
          exact TestIs.no HN.out (HBW.out.trans (hb5.mono HBW.out.size))
        have d0 := decide_eq_false h0
        by_cases hs : sortM T (x / 2) = 0
        rotate_left
        · have b0 : (sortM T (x / 2) != 0) = true := by simp [hs]
          have HN := Lib.hid (HNO.out x HX1.out fun hm => hs hm.2.1)
          clear h0 hs
          refine wp_region_quiet (C := fun w' => Below wr.heap.size wr w') (by kernel_rfl) (by kernel_rfl) (⟨rfl, rfl, rfl, Nat.le_refl _, fun _ _ => rfl⟩) ?_
          refine QW.lit ?_
          refine qw_want rfl ?_ (fun w' hw' => ?_) ?_
          rotate_left
          · unfold Oper.quietAt
            go_simp
            exact rfl
          simp only [Act.put, List.setIfInBounds_toArray, List.set_cons_succ, List.set_cons_zero]
          refine qw_want rfl ?_ (fun w' hw' => ?_) ?_
          rotate_left
          · unfold Oper.quietAt
            go_simp
            exact rfl
          simp only [Act.put, List.setIfInBounds_toArray, List.set_cons_succ, List.set_cons_zero]
          refine qw_want rfl ?_ (fun w' hw' => ?_) ?_
          rotate_left
          · unfold Oper.quietAt
            go_simp
            exact rfl
          simp only [Act.put, List.setIfInBounds_toArray, List.set_cons_succ, List.set_cons_zero]
          refine qw_want rfl ?_ (fun w' hw' => ?_) ?_
          rotate_left
          · obtain ⟨k0, k1⟩ := HF.out w' hw'
            unfold Oper.quietAt
            go_simp
            exact rfl
          simp only [Act.put, List.setIfInBounds_toArray, List.set_cons_succ, List.set_cons_zero]
          refine qw_want rfl ?_ (fun w' hw' => ?_) ?_
          rotate_left
          · unfold Oper.quietAt
            go_simp
            exact rfl
          simp only [Act.put, List.setIfInBounds_toArray, List.set_cons_succ, List.set_cons_zero]
          refine qw_want rfl ?_ (fun w' hw' => ?_) ?_
          rotate_left
          · unfold Oper.quietAt
            go_simp
            exact rfl
          simp only [Act.put, List.setIfInBounds_toArray, List.set_cons_succ, List.set_cons_zero]
          refine qw_want rfl ?_ (fun w' hw' => ?_) ?_
          rotate_left
          · obtain ⟨k0, k1⟩ := HF.out w' hw'
            unfold Oper.quietAt
            go_simp
            exact rfl
          simp only [Act.put, List.setIfInBounds_toArray, List.set_cons_succ, List.set_cons_zero]
          refine qw_want rfl ?_ (fun w' hw' => ?_) ?_
          rotate_left
          · unfold Oper.quietAt
            go_simp
            exact rfl
          simp only [Act.put, List.setIfInBounds_toArray, List.set_cons_succ, List.set_cons_zero]
          refine qw_want rfl ?_ (fun w' hw' => ?_) ?_
          rotate_left
          · unfold Oper.quietAt
            go_simp
            exact rfl
          simp only [Act.put, List.setIfInBounds_toArray, List.set_cons_succ, List.set_cons_zero]
          refine qw_want rfl ?_ (fun w' hw' => ?_) ?_
          rotate_left
          · unfold Oper.quietAt
            go_simp
            exact rfl
          simp only [Act.put, List.setIfInBounds_toArray, List.set_cons_succ, List.set_cons_zero]
          refine qw_want rfl ?_ (fun w' hw' => ?_) ?_
          rotate_left
          · obtain ⟨k0, k1⟩ := HF.out w' hw'
            unfold Oper.quietAt
            go_simp
            exact rfl
          simp only [Act.put, List.setIfInBounds_toArray, List.set_cons_succ, List.set_cons_zero]
          refine qw_want rfl (.int .i64 (x / 2)) (fun w' hw' => ?_) ?_
          · unfold Oper.quietAt
            go_simp
            refine (rnode_ok x w').mono ?_
            rintro e w2 ⟨rfl, rfl⟩
            exact ⟨rfl, hw'⟩
          simp only [Act.put, List.setIfInBounds_toArray, List.set_cons_succ, List.set_cons_zero]
          refine qw_want rfl (.int .i64 (sortM T (x / 2))) (fun w' hw' => ?_) ?_
          · unfold Oper.quietAt
            go_simp
            refine (rsort_ok (HTw.out.below hw') (x / 2)).mono ?_
            rintro e w2 ⟨rfl, hb⟩
            have hz := below_then hw' (Nat.le_refl _) hb
            exact ⟨rfl, by simpa using hz⟩
          simp only [Act.put, List.setIfInBounds_toArray, List.set_cons_succ, List.set_cons_zero]
          refine qw_want rfl ?_ (fun w' hw' => ?_) ?_
          rotate_left
          · unfold Oper.quietAt
            go_simp
            exact rfl
          simp only [Act.put, List.setIfInBounds_toArray, List.set_cons_succ, List.set_cons_zero]
          refine qw_want rfl ?_ (fun w' hw' => ?_) ?_
          rotate_left
          · unfold Oper.quietAt
            go_simp
            exact rfl
          simp only [Act.put, List.setIfInBounds_toArray, List.set_cons_succ, List.set_cons_zero]
          refine qw_want rfl ?_ (fun w' hw' => ?_) ?_
          rotate_left
          · unfold Oper.quietAt
            go_simp
            exact rfl
          simp only [Act.put, List.setIfInBounds_toArray, List.set_cons_succ, List.set_cons_zero]
          refine qw_skip (by rfl) ?_
          simp only [Act.put, List.setIfInBounds_toArray, List.set_cons_succ, List.set_cons_zero]
          refine qw_skip (by rfl) ?_
          simp only [Act.put, List.setIfInBounds_toArray, List.set_cons_succ, List.set_cons_zero]
          refine qw_skip (by rfl) ?_
          simp only [Act.put, List.setIfInBounds_toArray, List.set_cons_succ, List.set_cons_zero]
          refine qw_skip (by rfl) ?_
          simp only [Act.put, List.setIfInBounds_toArray, List.set_cons_succ, List.set_cons_zero]
          refine qw_skip (by rfl) ?_
          simp only [Act.put, List.setIfInBounds_toArray, List.set_cons_succ, List.set_cons_zero]
          refine qw_skip (by rfl) ?_
          simp only [Act.put, List.setIfInBounds_toArray, List.set_cons_succ, List.set_cons_zero]
          refine qw_skip (by rfl) ?_
          simp only [Act.put, List.setIfInBounds_toArray, List.set_cons_succ, List.set_cons_zero]
          refine qw_skip (by rfl) ?_
          simp only [Act.put, List.setIfInBounds_toArray, List.set_cons_succ, List.set_cons_zero]
          refine qw_skip (by rfl) ?_
          simp only [Act.put, List.setIfInBounds_toArray, List.set_cons_succ, List.set_cons_zero]
          refine qw_skip (by rfl) ?_
          simp only [Act.put, List.setIfInBounds_toArray, List.set_cons_succ, List.set_cons_zero]
          refine qw_skip (by rfl) ?_
          simp only [Act.put, List.setIfInBounds_toArray, List.set_cons_succ, List.set_cons_zero]
          refine qw_want rfl ?_ (fun w' hw' => ?_) ?_
          rotate_left
          · unfold Oper.quietAt
            go_simp
            exact rfl
          simp only [Act.put, List.setIfInBounds_toArray, List.set_cons_succ, List.set_cons_zero]
          refine qw_end (fun w5 hb5 => ?_)
          go_wp2
          go_ret
          exact TestIs.no HN.out (HBW.out.trans (hb5.mono HBW.out.size))
        obtain ⟨q, hq, hqt⟩ := sort_place hs
        have KN : Hid (∀ W, Calls Tryz.prog 15 #[.int .i64 x] W fun e w' => e = .returned (.int .i64 (q : Int)) ∧ W = w') := Lib.hid fun W => hq ▸ rnode_ok x W
        have KS0 : Hid (∀ w', Below wr.heap.size wr w' → Calls Tryz.prog 14 #[.agg #[.slice A T.length c], .int .i64 (q : Int)] w' fun e w2 => e = .returned (.int .i64 0) ∧ Below w'.heap.size w' w2) := Lib.hid fun w' hw' => by
          have := rsort_ok (c := c) (HTw.out.below hw') (q : Int)
          rwa [← hq, hs, hq] at this
        obtain ⟨bt, offt, hAt, hbt, hct⟩ := HTw.out.at_.resolve_left (by omega)
        subst hAt
        have HOP : Hid (LitMay T x ↔ ¬ T[q].op = 1) := Lib.hid ⟨fun h e => h.2.2 T[q] (by rw [hq, Int.toNat_natCast, List.getElem?_eq_getElem hqt]) e, fun h => ⟨by omega, hs, fun n hn => by
          rw [hq, Int.toNat_natCast, List.getElem?_eq_getElem hqt] at hn
          injection hn with hn
          exact hn ▸ h⟩⟩
        have HNq := Lib.hid (hct q hqt)
        have t3 : (0 : Int) ≤ (q : Int) := by omega
        have t4 : (q : Int) < (T.length : Int) := by omega
        clear hct hs h0 hq
        obtain ⟨ov, hov⟩ : ∃ ov, T[q].op = ov := ⟨_, rfl⟩
        have HG : Hid (∀ w', Below wr.heap.size wr w' → w'.cell? ⟨w.heap.size, 0, none⟩ = some (.slice (some ⟨bt, offt, none⟩) T.length c) ∧ w'.cell? ⟨bl, offl + i, none⟩ = some (.int .i64 x) ∧ w'.cell? ⟨bt, offt + q * 8, none⟩ = some (.int .i8 ov)) := Lib.hid fun w' hb => ⟨(HF.out w' hb).1, (HF.out w' hb).2, hov ▸ (HNq.out.below hb).all.1⟩
        rw [hov] at HOP
        clear hov
        by_cases ho : ov = 1
        · subst ho
          have HN := Lib.hid (HNO.out x HX1.out fun hm => HOP.out.1 hm rfl)
          refine wp_region_quiet (C := fun w' => Below wr.heap.size wr w') (by kernel_rfl) (by kernel_rfl) (⟨rfl, rfl, rfl, Nat.le_refl _, fun _ _ => rfl⟩) ?_
          refine QW.lit ?_
          refine qw_want rfl ?_ (fun w' hw' => ?_) ?_
          rotate_left
          · unfold Oper.quietAt
            go_simp
            exact rfl
          simp only [Act.put, List.setIfInBounds_toArray, List.set_cons_succ, List.set_cons_zero]
          refine qw_want rfl ?_ (fun w' hw' => ?_) ?_
          rotate_left
          · unfold Oper.quietAt
            go_simp
            exact rfl
          simp only [Act.put, List.setIfInBounds_toArray, List.set_cons_succ, List.set_cons_zero]
          refine qw_want rfl ?_ (fun w' hw' => ?_) ?_
          rotate_left
          · unfold Oper.quietAt
            go_simp
            exact rfl
          simp only [Act.put, List.setIfInBounds_toArray, List.set_cons_succ, List.set_cons_zero]
          refine qw_want rfl ?_ (fun w' hw' => ?_) ?_
          rotate_left
          · obtain ⟨k0, k1, k2⟩ := HG.out w' hw'
            unfold Oper.quietAt
            go_simp
            exact rfl
          simp only [Act.put, List.setIfInBounds_toArray, List.set_cons_succ, List.set_cons_zero]
          refine qw_want rfl ?_ (fun w' hw' => ?_) ?_
          rotate_left
          · unfold Oper.quietAt
            go_simp
            exact rfl
          simp only [Act.put, List.setIfInBounds_toArray, List.set_cons_succ, List.set_cons_zero]
          refine qw_want rfl ?_ (fun w' hw' => ?_) ?_
          rotate_left
          · unfold Oper.quietAt
            go_simp
            exact rfl
          simp only [Act.put, List.setIfInBounds_toArray, List.set_cons_succ, List.set_cons_zero]
          refine qw_want rfl ?_ (fun w' hw' => ?_) ?_
          rotate_left
          · obtain ⟨k0, k1, k2⟩ := HG.out w' hw'
            unfold Oper.quietAt
            go_simp
            exact rfl
          simp only [Act.put, List.setIfInBounds_toArray, List.set_cons_succ, List.set_cons_zero]
          refine qw_want rfl ?_ (fun w' hw' => ?_) ?_
          rotate_left
          · unfold Oper.quietAt
            go_simp
            exact rfl
          simp only [Act.put, List.setIfInBounds_toArray, List.set_cons_succ, List.set_cons_zero]
          refine qw_want rfl ?_ (fun w' hw' => ?_) ?_
          rotate_left
          · unfold Oper.quietAt
            go_simp
            exact rfl
          simp only [Act.put, List.setIfInBounds_toArray, List.set_cons_succ, List.set_cons_zero]
          refine qw_want rfl ?_ (fun w' hw' => ?_) ?_
          rotate_left
          · unfold Oper.quietAt
            go_simp
            exact rfl
          simp only [Act.put, List.setIfInBounds_toArray, List.set_cons_succ, List.set_cons_zero]
          refine qw_want rfl ?_ (fun w' hw' => ?_) ?_
          rotate_left
          · obtain ⟨k0, k1, k2⟩ := HG.out w' hw'
            unfold Oper.quietAt
            go_simp
            exact rfl
          simp only [Act.put, List.setIfInBounds_toArray, List.set_cons_succ, List.set_cons_zero]
          refine qw_want rfl (.int .i64 (q : Int)) (fun w' hw' => ?_) ?_
          · unfold Oper.quietAt
            go_simp
            refine (KN.out w').mono ?_
            rintro e w2 ⟨rfl, rfl⟩
            exact ⟨rfl, hw'⟩
          simp only [Act.put, List.setIfInBounds_toArray, List.set_cons_succ, List.set_cons_zero]
          refine qw_want rfl (.int .i64 0) (fun w' hw' => ?_) ?_
          · unfold Oper.quietAt
            go_simp
            refine (KS0.out w' hw').mono ?_
            rintro e w2 ⟨rfl, hb⟩
            have hz := below_then hw' (Nat.le_refl _) hb
            exact ⟨rfl, by simpa using hz⟩
          simp only [Act.put, List.setIfInBounds_toArray, List.set_cons_succ, List.set_cons_zero]
          refine qw_want rfl ?_ (fun w' hw' => ?_) ?_
          rotate_left
          · unfold Oper.quietAt
            go_simp
            exact rfl
          simp only [Act.put, List.setIfInBounds_toArray, List.set_cons_succ, List.set_cons_zero]
          refine qw_want rfl ?_ (fun w' hw' => ?_) ?_
          rotate_left
          · unfold Oper.quietAt
            go_simp
            exact rfl
          simp only [Act.put, List.setIfInBounds_toArray, List.set_cons_succ, List.set_cons_zero]
          refine qw_want rfl ?_ (fun w' hw' => ?_) ?_
          rotate_left
          · unfold Oper.quietAt
            go_simp
            exact rfl
          simp only [Act.put, List.setIfInBounds_toArray, List.set_cons_succ, List.set_cons_zero]
          refine qw_want rfl ?_ (fun w' hw' => ?_) ?_
          rotate_left
          · unfold Oper.quietAt
            go_simp
            exact rfl
          simp only [Act.put, List.setIfInBounds_toArray, List.set_cons_succ, List.set_cons_zero]
          refine qw_want rfl ?_ (fun w' hw' => ?_) ?_
          rotate_left
          · obtain ⟨k0, k1, k2⟩ := HG.out w' hw'
            unfold Oper.quietAt
            go_simp
            exact rfl
          simp only [Act.put, List.setIfInBounds_toArray, List.set_cons_succ, List.set_cons_zero]
          refine qw_want rfl ?_ (fun w' hw' => ?_) ?_
          rotate_left
          · unfold Oper.quietAt
            go_simp
            exact rfl
          simp only [Act.put, List.setIfInBounds_toArray, List.set_cons_succ, List.set_cons_zero]
          refine qw_want rfl ?_ (fun w' hw' => ?_) ?_
          rotate_left
          · unfold Oper.quietAt
            go_simp
            exact rfl
          simp only [Act.put, List.setIfInBounds_toArray, List.set_cons_succ, List.set_cons_zero]
          refine qw_want rfl ?_ (fun w' hw' => ?_) ?_
          rotate_left
          · unfold Oper.quietAt
            go_simp
            exact rfl
          simp only [Act.put, List.setIfInBounds_toArray, List.set_cons_succ, List.set_cons_zero]
          refine qw_want rfl ?_ (fun w' hw' => ?_) ?_
          rotate_left
          · obtain ⟨k0, k1, k2⟩ := HG.out w' hw'
            unfold Oper.quietAt
            go_simp
            exact rfl
          simp only [Act.put, List.setIfInBounds_toArray, List.set_cons_succ, List.set_cons_zero]
          refine qw_want rfl (.int .i64 (q : Int)) (fun w' hw' => ?_) ?_
          · unfold Oper.quietAt
            go_simp
            refine (KN.out w').mono ?_
            rintro e w2 ⟨rfl, rfl⟩
            exact ⟨rfl, hw'⟩
          simp only [Act.put, List.setIfInBounds_toArray, List.set_cons_succ, List.set_cons_zero]
          refine qw_want rfl ?_ (fun w' hw' => ?_) ?_
          rotate_left
          · unfold Oper.quietAt
            go_simp
            exact rfl
          simp only [Act.put, List.setIfInBounds_toArray, List.set_cons_succ, List.set_cons_zero]
          refine qw_want rfl ?_ (fun w' hw' => ?_) ?_
          rotate_left
          · unfold Oper.quietAt
            go_simp
            exact rfl
          simp only [Act.put, List.setIfInBounds_toArray, List.set_cons_succ, List.set_cons_zero]
          refine qw_want rfl ?_ (fun w' hw' => ?_) ?_
          rotate_left
          · obtain ⟨k0, k1, k2⟩ := HG.out w' hw'
            unfold Oper.quietAt
            go_simp
            exact rfl
          simp only [Act.put, List.setIfInBounds_toArray, List.set_cons_succ, List.set_cons_zero]
          refine qw_want rfl ?_ (fun w' hw' => ?_) ?_
          rotate_left
          · unfold Oper.quietAt
            go_simp
            exact rfl
          simp only [Act.put, List.setIfInBounds_toArray, List.set_cons_succ, List.set_cons_zero]
          refine qw_want rfl ?_ (fun w' hw' => ?_) ?_
          rotate_left
          · unfold Oper.quietAt
            go_simp
            exact rfl
          simp only [Act.put, List.setIfInBounds_toArray, List.set_cons_succ, List.set_cons_zero]
          refine qw_end (fun w5 hb5 => ?_)
          go_wp2
          go_ret
          exact TestIs.no HN.out (HBW.out.trans (hb5.mono HBW.out.size))
        · have b1 : (ov == 1) = false := by simp [ho]
          have HM := Lib.hid (HOP.out.2 ho)
          clear ho
          refine wp_region_quiet (C := fun w' => Below wr.heap.size wr w') (by kernel_rfl) (by kernel_rfl) (⟨rfl, rfl, rfl, Nat.le_refl _, fun _ _ => rfl⟩) ?_
          refine QW.lit ?_
          refine qw_want rfl ?_ (fun w' hw' => ?_) ?_
          rotate_left
          · unfold Oper.quietAt
            go_simp
            exact rfl
          simp only [Act.put, List.setIfInBounds_toArray, List.set_cons_succ, List.set_cons_zero]
          refine qw_want rfl ?_ (fun w' hw' => ?_) ?_
          rotate_left
          · unfold Oper.quietAt
            go_simp
            exact rfl
          simp only [Act.put, List.setIfInBounds_toArray, List.set_cons_succ, List.set_cons_zero]
          refine qw_want rfl ?_ (fun w' hw' => ?_) ?_
          rotate_left
          · unfold Oper.quietAt
            go_simp
            exact rfl
          simp only [Act.put, List.setIfInBounds_toArray, List.set_cons_succ, List.set_cons_zero]
          refine qw_want rfl ?_ (fun w' hw' => ?_) ?_
          rotate_left
          · obtain ⟨k0, k1, k2⟩ := HG.out w' hw'
            unfold Oper.quietAt
            go_simp
            exact rfl
          simp only [Act.put, List.setIfInBounds_toArray, List.set_cons_succ, List.set_cons_zero]
          refine qw_want rfl ?_ (fun w' hw' => ?_) ?_
          rotate_left
          · unfold Oper.quietAt
            go_simp
            exact rfl
          simp only [Act.put, List.setIfInBounds_toArray, List.set_cons_succ, List.set_cons_zero]
          refine qw_want rfl ?_ (fun w' hw' => ?_) ?_
          rotate_left
          · unfold Oper.quietAt
            go_simp
            exact rfl
          simp only [Act.put, List.setIfInBounds_toArray, List.set_cons_succ, List.set_cons_zero]
          refine qw_want rfl ?_ (fun w' hw' => ?_) ?_
          rotate_left
          · obtain ⟨k0, k1, k2⟩ := HG.out w' hw'
            unfold Oper.quietAt
            go_simp
            exact rfl
          simp only [Act.put, List.setIfInBounds_toArray, List.set_cons_succ, List.set_cons_zero]
          refine qw_want rfl ?_ (fun w' hw' => ?_) ?_
          rotate_left
          · unfold Oper.quietAt
            go_simp
            exact rfl
          simp only [Act.put, List.setIfInBounds_toArray, List.set_cons_succ, List.set_cons_zero]
          refine qw_want rfl ?_ (fun w' hw' => ?_) ?_
          rotate_left
          · unfold Oper.quietAt
            go_simp
            exact rfl
          simp only [Act.put, List.setIfInBounds_toArray, List.set_cons_succ, List.set_cons_zero]
          refine qw_want rfl ?_ (fun w' hw' => ?_) ?_
          rotate_left
          · unfold Oper.quietAt
            go_simp
            exact rfl
          simp only [Act.put, List.setIfInBounds_toArray, List.set_cons_succ, List.set_cons_zero]
          refine qw_want rfl ?_ (fun w' hw' => ?_) ?_
          rotate_left
          · obtain ⟨k0, k1, k2⟩ := HG.out w' hw'
            unfold Oper.quietAt
            go_simp
            exact rfl
          simp only [Act.put, List.setIfInBounds_toArray, List.set_cons_succ, List.set_cons_zero]
          refine qw_want rfl (.int .i64 (q : Int)) (fun w' hw' => ?_) ?_
          · unfold Oper.quietAt
            go_simp
            refine (KN.out w').mono ?_
            rintro e w2 ⟨rfl, rfl⟩
            exact ⟨rfl, hw'⟩
          simp only [Act.put, List.setIfInBounds_toArray, List.set_cons_succ, List.set_cons_zero]
          refine qw_want rfl (.int .i64 0) (fun w' hw' => ?_) ?_
          · unfold Oper.quietAt
            go_simp
            refine (KS0.out w' hw').mono ?_
            rintro e w2 ⟨rfl, hb⟩
            have hz := below_then hw' (Nat.le_refl _) hb
            exact ⟨rfl, by simpa using hz⟩
          simp only [Act.put, List.setIfInBounds_toArray, List.set_cons_succ, List.set_cons_zero]
          refine qw_want rfl ?_ (fun w' hw' => ?_) ?_
          rotate_left
          · unfold Oper.quietAt
            go_simp
            exact rfl
          simp only [Act.put, List.setIfInBounds_toArray, List.set_cons_succ, List.set_cons_zero]
          refine qw_want rfl ?_ (fun w' hw' => ?_) ?_
          rotate_left
          · unfold Oper.quietAt
            go_simp
            exact rfl
          simp only [Act.put, List.setIfInBounds_toArray, List.set_cons_succ, List.set_cons_zero]
          refine qw_want rfl ?_ (fun w' hw' => ?_) ?_
          rotate_left
          · unfold Oper.quietAt
            go_simp
            exact rfl
          simp only [Act.put, List.setIfInBounds_toArray, List.set_cons_succ, List.set_cons_zero]
          refine qw_want rfl ?_ (fun w' hw' => ?_) ?_
          rotate_left
          · unfold Oper.quietAt
            go_simp
            exact rfl
          simp only [Act.put, List.setIfInBounds_toArray, List.set_cons_succ, List.set_cons_zero]
          refine qw_want rfl ?_ (fun w' hw' => ?_) ?_
          rotate_left
          · obtain ⟨k0, k1, k2⟩ := HG.out w' hw'
            unfold Oper.quietAt
            go_simp
            exact rfl
          simp only [Act.put, List.setIfInBounds_toArray, List.set_cons_succ, List.set_cons_zero]
          refine qw_want rfl ?_ (fun w' hw' => ?_) ?_
          rotate_left
          · unfold Oper.quietAt
            go_simp
            exact rfl
          simp only [Act.put, List.setIfInBounds_toArray, List.set_cons_succ, List.set_cons_zero]
          refine qw_want rfl ?_ (fun w' hw' => ?_) ?_
          rotate_left
          · unfold Oper.quietAt
            go_simp
            exact rfl
          simp only [Act.put, List.setIfInBounds_toArray, List.set_cons_succ, List.set_cons_zero]
          refine qw_want rfl ?_ (fun w' hw' => ?_) ?_
          rotate_left
          · unfold Oper.quietAt
            go_simp
            exact rfl
          simp only [Act.put, List.setIfInBounds_toArray, List.set_cons_succ, List.set_cons_zero]
          refine qw_want rfl ?_ (fun w' hw' => ?_) ?_
          rotate_left
          · obtain ⟨k0, k1, k2⟩ := HG.out w' hw'
            unfold Oper.quietAt
            go_simp
            exact rfl
          simp only [Act.put, List.setIfInBounds_toArray, List.set_cons_succ, List.set_cons_zero]
          refine qw_want rfl (.int .i64 (q : Int)) (fun w' hw' => ?_) ?_
          · unfold Oper.quietAt
            go_simp
            refine (KN.out w').mono ?_
            rintro e w2 ⟨rfl, rfl⟩
            exact ⟨rfl, hw'⟩
          simp only [Act.put, List.setIfInBounds_toArray, List.set_cons_succ, List.set_cons_zero]
          refine qw_want rfl ?_ (fun w' hw' => ?_) ?_
          rotate_left
          · unfold Oper.quietAt
            go_simp
            exact rfl
          simp only [Act.put, List.setIfInBounds_toArray, List.set_cons_succ, List.set_cons_zero]
          refine qw_want rfl ?_ (fun w' hw' => ?_) ?_
          rotate_left
          · unfold Oper.quietAt
            go_simp
            exact rfl
          simp only [Act.put, List.setIfInBounds_toArray, List.set_cons_succ, List.set_cons_zero]
          refine qw_want rfl ?_ (fun w' hw' => ?_) ?_
          rotate_left
          · obtain ⟨k0, k1, k2⟩ := HG.out w' hw'
            unfold Oper.quietAt
            go_simp
            exact rfl
          simp only [Act.put, List.setIfInBounds_toArray, List.set_cons_succ, List.set_cons_zero]
          refine qw_want rfl ?_ (fun w' hw' => ?_) ?_
          rotate_left
          · unfold Oper.quietAt
            go_simp
            exact rfl
          simp only [Act.put, List.setIfInBounds_toArray, List.set_cons_succ, List.set_cons_zero]
          refine qw_want rfl ?_ (fun w' hw' => ?_) ?_
          rotate_left
          · unfold Oper.quietAt
            go_simp
            exact rfl
          simp only [Act.put, List.setIfInBounds_toArray, List.set_cons_succ, List.set_cons_zero]
          refine qw_end (fun w5 hb5 => ?_)
          go_wp2
          go_roundg gk
          case measure => omega
          case rel => exact ⟨i + 1, by omega, by go_num, HBW.out.trans (hb5.mono HBW.out.size), HBR.out.below hb5 HBR.out.lt, (HLI.out x HX1.out).2 HM.out⟩
def BareOf (T : List Nd) (a x : Int) : Prop := Chain T a x ∧ (0 ≤ x ∧ x < T.length) ∧ ∀ n, T[x.toNat]? = some n → n.op ≠ 1
theorem BareOf.one {T : List Nd} {a x y : Int} (h : BareOf T a x) (k : BareOf T a y) : x = y := by
  obtain ⟨h, hx, hxn⟩ := h
  obtain ⟨k, hy, hyn⟩ := k
  clear hx hy
  induction h with
  | refl a =>
    cases k with
    | refl => rfl
    | @step i n _ h1 h2 _ => exact absurd h2 (hxn n (by rw [Int.toNat_natCast]; exact h1))
  | @step i n x h1 h2 h3 ih =>
    generalize he : (i : Int) = z at k
    cases k with
    | refl => subst he; exact absurd h2 (hyn n (by rw [Int.toNat_natCast]; exact h1))
    | @step i' n' _ h1' h2' h3' =>
      obtain rfl : i = i' := by omega
      rw [h1] at h1'
      injection h1' with h1'
      subst h1'
      exact ih hxn h3'
set_option maxRecDepth 100000 in
set_option maxHeartbeats 2000000 in
theorem bare_ok {w : World} {q : Nat} {A : Option Addr} {c : Nat} {T : List Nd} (h : TabP w q A c T) (hT : TabOk T) (a : Int) (ha : 0 ≤ a ∧ a < T.length) :
    Calls Tryz.prog 70 #[.pointer (some ⟨q, 0, none⟩), .int .i64 a] w fun e w' => (∃ x nb, e = .returned (.tuple #[.int .i64 x, .bool nb]) ∧ BareOf T a x) ∧ w = w' := by
  have hlen := h.tab.len
  have c0 := h.blk.cell 0
  simp only [List.getElem?_toArray, List.getElem?_cons_zero] at c0
  have hq := h.blk.lt
  obtain ⟨b, off, hA, hbb, hcell⟩ := h.tab.at_.resolve_left (by omega)
  subst hA
  have HC := Lib.hid hcell
  have HT := Lib.hid hT
  clear h hcell hT
  go_enter Tryz.func70, Tryz.ntmps70
  go_wp2
  go_loopg [1, 6] T.length (fun g v nv wr => wr = w ∧ ∃ i : Nat, ∃ nb, i < g ∧ i < T.length ∧ v = .int .i64 i ∧ nv = .bool nb ∧ ∀ x, BareOf T i x → BareOf T a x)
  case atStart => exact ⟨rfl, a.toNat, false, by omega, by omega, by rw [Int.toNat_of_nonneg ha.1], rfl, fun x hx => by rwa [Int.toNat_of_nonneg ha.1] at hx⟩
  case round =>
    obtain ⟨rfl, i, nb, hig, hlt, rfl, rfl, hinv⟩ := hrel
    have HI := Lib.hid hinv
    have t1 : (0 : Int) ≤ (i : Int) := by omega
    have t2 : (i : Int) < (T.length : Int) := by omega
    obtain ⟨y0, _, y2, _, _, _, _, _⟩ := (HC.out i hlt).all
    have hst := HT.out.st i _ (List.getElem?_eq_getElem hlt)
    have HG := Lib.hid (List.getElem?_eq_getElem hlt)
    have HST := Lib.hid hst
    clear hinv hst
    generalize T[i] = n at *
    by_cases ho : n.op = 1
    · have b1 : (n.op == 1) = true := by simp [ho]
      have h0 := HST.out.not0 ho
      have HO := Lib.hid ho
      obtain ⟨k, hk⟩ : ∃ k : Nat, n.a0 = k := ⟨n.a0.toNat, by omega⟩
      rw [hk] at y2
      have HK := Lib.hid hk
      have hki : k < i := by omega
      clear ho h0 hk
      go_wp2
      go_roundg (gk - 1)
      case measure => omega
      case rel => exact ⟨rfl, k, _, by omega, by omega, rfl, rfl, fun x hx => HI.out x ⟨.step HG.out HO.out (by rw [HK.out]; exact hx.1), hx.2⟩⟩
    · have b1 : (n.op == 1) = false := by simp [ho]
      have HO := Lib.hid ho
      clear ho
      go_wp2
      go_ret2
      exact ⟨⟨_, _, rfl, HI.out i ⟨.refl _, ⟨by omega, by omega⟩, fun m hm => by rw [Int.toNat_natCast, HG.out] at hm; injection hm with hm; exact hm ▸ HO.out⟩⟩, rfl⟩
def Processed (T : List Nd) (i k : Nat) (y : Int) : Prop := ∃ (p : Nat) (n : Nd) (j : Nat), T[p]? = some n ∧ n.op = 13 ∧ (j : Int) < n.len ∧ j < 3 ∧ BareOf T (n.arg j) y ∧ (p < i ∨ (p = i ∧ j < k))
def CountsOf (T : List Nd) (i k : Nat) (f : Value → Option Value) : Prop := ∀ y : Int, (Processed T i k y ∧ ∃ q : Int, f (.int .i64 y) = some (.int .i64 q) ∧ 1 ≤ q ∧ q ≤ 3 * i + k) ∨ (¬ Processed T i k y ∧ f (.int .i64 y) = none)
theorem NdAt.arg {w : World} {b o : Nat} {n : Nd} (h : NdAt w b o n) (k : Nat) (hk : k < 3) : w.cell? ⟨b, o + 2 + k, none⟩ = some (.int .i64 (n.arg k)) := by
  have := h.cells (2 + k) (by omega)
  rw [← Nat.add_assoc] at this
  rw [this]
  match k, hk with
  | 0, _ => rfl
  | 1, _ => rfl
  | 2, _ => rfl
theorem Processed.next {T : List Nd} {i : Nat} {y : Int} : Processed T (i + 1) 0 y ↔ Processed T i 3 y := by
  constructor
  · rintro ⟨p, n, j, h1, h2, h3, h4, h5, h6⟩
    exact ⟨p, n, j, h1, h2, h3, h4, h5, by omega⟩
  · rintro ⟨p, n, j, h1, h2, h3, h4, h5, h6⟩
    exact ⟨p, n, j, h1, h2, h3, h4, h5, by omega⟩
theorem Processed.short {T : List Nd} {i k : Nat} {n : Nd} (hn : T[i]? = some n) (h : n.op ≠ 13 ∨ n.len ≤ k) {y : Int} (m : Nat) (hm : k ≤ m) : Processed T i m y ↔ Processed T i k y := by
  constructor
  · rintro ⟨p, n', j, h1, h2, h3, h4, h5, h6⟩
    refine ⟨p, n', j, h1, h2, h3, h4, h5, ?_⟩
    rcases h6 with h6 | ⟨rfl, h6⟩
    · exact .inl h6
    · rw [hn] at h1
      injection h1 with h1
      subst h1
      rcases h with h | h
      · exact absurd h2 h
      · exact .inr ⟨rfl, by omega⟩
  · rintro ⟨p, n', j, h1, h2, h3, h4, h5, h6⟩
    exact ⟨p, n', j, h1, h2, h3, h4, h5, by omega⟩
theorem processed_push {T : List Nd} {i k : Nat} {n : Nd} (hn : T[i]? = some n) (ho : n.op = 13) (hk : (k : Int) < n.len) (hk3 : k < 3) {x : Int} (hx : BareOf T (n.arg k) x) (y : Int) : Processed T i (k + 1) y ↔ Processed T i k y ∨ y = x := by
  constructor
  · rintro ⟨p, n', j, h1, h2, h3, h4, h5, h6⟩
    rcases h6 with h6 | ⟨rfl, h6⟩
    · exact .inl ⟨p, n', j, h1, h2, h3, h4, h5, .inl h6⟩
    · rcases Nat.lt_succ_iff_lt_or_eq.1 h6 with h6 | rfl
      · exact .inl ⟨p, n', j, h1, h2, h3, h4, h5, .inr ⟨rfl, h6⟩⟩
      · rw [hn] at h1
        injection h1 with h1
        subst h1
        exact .inr (h5.one hx)
  · rintro (⟨p, n', j, h1, h2, h3, h4, h5, h6⟩ | rfl)
    · exact ⟨p, n', j, h1, h2, h3, h4, h5, by omega⟩
    · exact ⟨i, n, k, hn, ho, hk, hk3, hx, .inr ⟨rfl, by omega⟩⟩
theorem processed_all {T : List Nd} {y : Int} : Processed T T.length 0 y ↔ ArgOf T y ∧ (0 ≤ y ∧ y < T.length) ∧ ∀ n, T[y.toNat]? = some n → n.op ≠ 1 := by
  constructor
  · rintro ⟨p, n, j, h1, h2, h3, h4, h5, h6⟩
    exact ⟨⟨p, n, j, h1, h2, h3, h4, h5.1⟩, h5.2⟩
  · rintro ⟨⟨p, n, j, h1, h2, h3, h4, h5⟩, h6⟩
    exact ⟨p, n, j, h1, h2, h3, h4, ⟨h5, h6⟩, .inl (List.getElem?_eq_some_iff.1 h1).1⟩
theorem zero_int (w : World) : (zeroValue 3).run Tryz.prog w = .ok (.int .i64 0) w := by kernel_rfl
def ArgMap (T : List Nd) (w : World) (M : Nat) : Prop := ∃ f m, MapAt Tryz.prog 3 w M m f ∧ m ≤ 1000000 ∧ CountsOf T T.length 0 f
theorem ArgMap.below {T : List Nd} {w w' : World} {M : Nat} (h : ArgMap T w M) (hb : Below w.heap.size w w') : ArgMap T w' M := by
  obtain ⟨f, m, h1, h2, h3⟩ := h
  exact ⟨f, m, h1.below hb h1.lt, h2, h3⟩
theorem counts_push {T : List Nd} {i k : Nat} {n : Nd} {f : Value → Option Value} (hf : CountsOf T i k f) (hn : T[i]? = some n) (ho : n.op = 13) (hk : (k : Int) < n.len) (hk3 : k < 3) {x : Int} (hx : BareOf T (n.arg k) x) :
    ∃ v : Int, 0 ≤ v ∧ v ≤ 3 * i + k ∧ (f (.int .i64 x) = some (.int .i64 v) ∨ (f (.int .i64 x) = none ∧ v = 0)) ∧ CountsOf T i (k + 1) (putFn f (.int .i64 x) (.int .i64 (v + 1))) := by
  have key : ∀ v : Int, 0 ≤ v → v ≤ 3 * i + k → CountsOf T i (k + 1) (putFn f (.int .i64 x) (.int .i64 (v + 1))) := fun v h0 h1 y => by
    by_cases hy : y = x
    · subst hy
      exact .inl ⟨(processed_push hn ho hk hk3 hx y).2 (.inr rfl), v + 1, putFn_at _ _ _, by omega, by omega⟩
    · have hne : Value.int .i64 y ≠ .int .i64 x := fun e => hy (by injection e)
      rw [putFn_far _ _ _ _ hne]
      rcases hf y with ⟨h2, q, h3, h4, h5⟩ | ⟨h2, h3⟩
      · exact .inl ⟨(processed_push hn ho hk hk3 hx y).2 (.inl h2), q, h3, h4, by omega⟩
      · exact .inr ⟨fun h => ((processed_push hn ho hk hk3 hx y).1 h).elim h2 hy, h3⟩
  rcases hf x with ⟨_, q, h3, h4, h5⟩ | ⟨_, h3⟩
  · exact ⟨q, by omega, h5, .inl h3, key q (by omega) h5⟩
  · exact ⟨0, by omega, by omega, .inr ⟨h3, rfl⟩, key 0 (by omega) (by omega)⟩
set_option maxRecDepth 100000 in
set_option maxHeartbeats 4000000 in
theorem args_ok {w : World} {q : Nat} {A : Option Addr} {c : Nat} {T : List Nd} (h : TabP w q A c T) (hT : TabOk T) :
    Calls Tryz.prog 44 #[.pointer (some ⟨q, 0, none⟩)] w fun e w' => ∃ M, e = .returned (.map (some M)) ∧ ArgMap T w' M ∧ Below w.heap.size w w' := by
  have hlen := h.tab.len
  have hmm := @run_makeMap Tryz.prog
  have c0 := h.blk.cell 0
  simp only [List.getElem?_toArray, List.getElem?_cons_zero] at c0
  have hq := h.blk.lt
  have H := Lib.hid h
  have HT := Lib.hid hT
  have HM0 := Lib.hid (MapAt.made Tryz.prog 3 w)
  have HB0 := Lib.hid (show Below w.heap.size w (w.alloc (.map #[] 0)) from (Below.refl _ w).alloc (Nat.le_refl _) _)
  clear h hT
  go_enter Tryz.func44, Tryz.ntmps44
  go_wp2
  go_loopg [15] T.length (fun g v wr => ∃ i : Nat, ∃ f, i + g = T.length ∧ v = .int .i64 i ∧ MapAt Tryz.prog 3 wr w.heap.size (3 * i) f ∧ CountsOf T i 0 f ∧ Below w.heap.size w wr)
  case atStart => exact ⟨0, _, by omega, rfl, HM0.out, fun y => .inr ⟨fun ⟨p, n, j, _, _, _, _, _, h⟩ => by omega, rfl⟩, HB0.out⟩
  case round =>
    obtain ⟨wo, rfl⟩ : ∃ wo : World, wo = wr := ⟨_, rfl⟩
    obtain ⟨i, f, hig, rfl, hmap, hcnt, hb⟩ := hrel
    have HM := Lib.hid hmap
    have HC := Lib.hid hcnt
    have HB := Lib.hid hb
    clear hmap hcnt hb
    cases gk with
    | zero =>
      obtain rfl : i = T.length := by omega
      have d1 : decide ((T.length : Int) < T.length) = false := by simp
      go_wp2
      go_ret
      exact ⟨_, rfl, ⟨f, _, HM.out, by omega, HC.out⟩, HB.out⟩
    | succ gk =>
      have hlt : i < T.length := by omega
      have d1 : decide ((i : Int) < T.length) = true := by simp; omega
      have t1 : (0 : Int) ≤ (i : Int) := by omega
      have t2 : (i : Int) < (T.length : Int) := by omega
      obtain ⟨b, off, hA, hbb, hcell⟩ := (H.out.tab.below HB.out).at_.resolve_left (by omega)
      have hn := hcell i hlt
      have HP := Lib.hid (H.out.below HB.out)
      subst hA
      obtain ⟨y0, y1, y2, y3, y4, y5, y6, y7⟩ := hn.all
      have HG := Lib.hid (List.getElem?_eq_getElem hlt)
      have HST := Lib.hid (HT.out.st i _ (List.getElem?_eq_getElem hlt))
      have hl := HST.out.len
      have HBX := Lib.hid (Blk.new wo 48 (nodeCells T[i]).toArray)
      have HWf := Lib.hid hn.wf
      clear hcell hn
      generalize T[i] = n at *
      obtain ⟨m, hm⟩ : ∃ m : Nat, n.len = m := ⟨n.len.toNat, by omega⟩
      rw [hm] at y1
      have HM3 := Lib.hid hm
      have hm3 : m ≤ 3 := by omega
      have HE := Lib.hid (show (#[.int .i8 n.op, .int .i8 (m : Int), .int .i64 n.a0, .int .i64 n.a1, .int .i64 n.a2, .int .i64 n.sort, .int .i64 n.fn, .int .i64 n.num] : Array Value) = (nodeCells n).toArray by simp [nodeCells, hm])
      clear hm hl
      have HB1 := Lib.hid (show Below w.heap.size w (wo.alloc (.cells (nodeCells n).toArray 48)) from HB.out.alloc HB.out.size _)
      have HM1 := Lib.hid (HM.out.alloc (.cells (nodeCells n).toArray 48))
      have hbl : (0 : Int) ≤ (m : Int) := by omega
      go_wp2
      go_loopg [22] m (fun g v wx => ∃ k : Nat, ∃ f, k + g = m ∧ v = .int .i64 k ∧ MapAt Tryz.prog 3 wx w.heap.size (3 * i + k) f ∧ CountsOf T i k f ∧ Below w.heap.size w wx ∧ Blk wx wo.heap.size 48 (nodeCells n).toArray)
      case atStart =>
        rw [HE.out]
        exact ⟨0, f, by omega, rfl, HM1.out, HC.out, HB1.out, HBX.out⟩
      case round =>
        obtain ⟨k, f2, hkg, rfl, hmap, hcnt, hb, hbx⟩ := hrel
        have HM2 := Lib.hid hmap
        have HC2 := Lib.hid hcnt
        have HB2 := Lib.hid hb
        have HBX2 := Lib.hid hbx
        clear hmap hcnt hb hbx
        cases gk with
        | zero =>
          obtain rfl : k = m := by omega
          have d2 : decide (k < k) = false := by simp
          have d3 : decide ((k : Int) < (k : Int)) = false := by simp
          go_wp2
          go_roundg gk
          case measure => omega
          case rel =>
            refine ⟨i + 1, f2, by omega, by go_num, HM2.out.mono (by omega), fun y => ?_, HB2.out⟩
            have e1 : Processed T (i + 1) 0 y ↔ Processed T i k y := Processed.next.trans (Processed.short HG.out (.inr (by rw [HM3.out]; omega)) 3 (by omega))
            rcases HC2.out y with ⟨g1, v, g2, g3, g4⟩ | ⟨g1, g2⟩
            · exact .inl ⟨e1.2 g1, v, g2, g3, by omega⟩
            · exact .inr ⟨fun h => g1 (e1.1 h), g2⟩
        | succ g2 =>
          have hkm : k < m := by omega
          have d2 : decide (k < m) = true := by simp; omega
          have d3 : decide ((k : Int) < (m : Int)) = true := by simp; omega
          have hnd : NdAt wr wo.heap.size 0 n := ⟨HBX2.out.lt, fun j hj => by rw [HBX2.out.cell, List.getElem?_toArray, Nat.zero_add], HWf.out⟩
          have z0 := hnd.all.1
          have z2 := hnd.arg k (by omega)
          have ha := (HST.out.args k (by omega)).1 (by rw [HM3.out]; omega)
          have haT : 0 ≤ n.arg k ∧ n.arg k < T.length := by omega
          have KB := Lib.hid (bare_ok (H.out.below HB2.out) HT.out (n.arg k) haT)
          have HKM := Lib.hid (show (k : Int) < n.len by rw [HM3.out]; omega)
          have HHnd := Lib.hid hnd
          have hbs : wo.heap.size < wr.heap.size := HBX2.out.lt
          clear ha hnd haT
          obtain ⟨av, hav⟩ : ∃ av, n.arg k = av := ⟨_, rfl⟩
          rw [hav] at z2 KB
          have HAV := Lib.hid hav
          clear hav
          have hk3 : k < 3 := by omega
          obtain ⟨ov, hov⟩ : ∃ ov, n.op = ov := ⟨_, rfl⟩
          rw [hov] at z0
          have HOV := Lib.hid hov
          clear hov
          by_cases ho : ov = 13
          · subst ho
            go_wp2_with fail
            refine KB.out.mono ?_
            rintro e w2 ⟨⟨x, nb, rfl, hbx⟩, rfl⟩
            obtain ⟨v, hv0, hv1, hfv, hcp⟩ := counts_push HC2.out HG.out HOV.out HKM.out hk3 (by rw [HAV.out]; exact hbx)
            have hx := hbx.2.1
            have hkx := int_key_of (x := x) (by omega) (by omega)
            have hlook : (Instr.lookup 95 (.map (some w.heap.size)) (.int .i64 x) false).run Tryz.prog wr = .ok (.int .i64 v) wr := by
              rw [HM2.out.look int_key Tryz.underlying95 (zero_int wr) hkx false]
              rcases hfv with h | ⟨h, h2⟩
              · rw [h]
                rfl
              · rw [h, h2]
                rfl
            obtain ⟨w3, hrun, hm2, hg⟩ := HM2.out.store int_key Tryz.underlying95 (by unfold maxLen; omega) hkx (.int .i64 (v + 1)) (g := putFn f2 (.int .i64 x) (.int .i64 (v + 1))) (putFn_at _ _ _) (fun y hy => putFn_far _ _ _ y hy)
            have HM4 := Lib.hid hm2
            have HG4 := Lib.hid hg
            have HCP := Lib.hid hcp
            have hv2 : v ≤ 1000000 := by omega
            clear hm2 hg hcp hbx hfv hkx z0 z2 hv1 hx
            go_wp2
            go_roundg g2
            case measure => omega
            case rel =>
              refine ⟨k + 1, _, by omega, by go_num, HM4.out, HCP.out, grown_below HG4.out HB2.out HB2.out.size (fun p e => by injection e with e; omega), HBX2.out.grown HG4.out (fun e => by injection e with e; have := HM.out.lt; omega)⟩
          · have b1 : (ov == 13) = false := by simp [ho]
            have HO := Lib.hid ho
            clear ho
            go_wp2
            go_roundg g2
            case measure => omega
            case rel =>
              refine ⟨k + 1, f2, by omega, by go_num, HM2.out.mono (by omega), fun y => ?_, HB2.out, HBX2.out⟩
              have e1 : Processed T i (k + 1) y ↔ Processed T i k y := Processed.short HG.out (.inl (by rw [HOV.out]; exact HO.out)) (k + 1) (by omega)
              rcases HC2.out y with ⟨g1, v, g2, g3, g4⟩ | ⟨g1, g2⟩
              · exact .inl ⟨e1.2 g1, v, g2, g3, by omega⟩
              · exact .inr ⟨fun h => g1 (e1.1 h), g2⟩
open Classical in
noncomputable def tellB (T : List Nd) (x : Int) : Bool := decide (Tell T x)
open Classical in
theorem tellB_iff {T : List Nd} {x : Int} : tellB T x = true ↔ Tell T x := by
  unfold tellB
  exact decide_eq_true_iff
noncomputable def eufL (T : List Nd) (L : List Int) : List Int := L.filter (tellB T)
theorem mem_eufL {T : List Nd} {L : List Int} {x : Int} : x ∈ eufL T L ↔ told T L x := by
  unfold eufL told
  rw [List.mem_filter, tellB_iff]
set_option maxRecDepth 100000 in
theorem euff_ok {w : World} {q bm M : Nat} {A : Option Addr} {c : Nat} {T : List Nd} (h : TabP w q A c T) (hm : Blk w bm 95 #[.map (some M)]) (hM : ArgMap T w M) {x : Int} (hx : LitMay T x) :
    Calls Tryz.prog 46 #[.int .i64 x, .pointer (some ⟨q, 0, none⟩), .pointer (some ⟨bm, 0, none⟩)] w fun e w' => e = .returned (.bool (tellB T x)) ∧ Below w.heap.size w w' := by
  have hlen := h.tab.len
  have c0 := h.blk.cell 0
  have c1 := hm.cell 0
  simp only [List.getElem?_toArray, List.getElem?_cons_zero] at c0 c1
  have hq := h.blk.lt
  have hb := hm.lt
  have KK := Lib.hid (kind_ok h.tab h.cap (x / 2))
  have HMM := Lib.hid hM
  have HBM := Lib.hid hm
  obtain ⟨n, hn, hs, hop, hxl, hx0⟩ := hx.node
  have HN := Lib.hid (show ∀ m, T[(x / 2).toNat]? = some m → m.op ≠ 1 from fun m hm => by rw [hn] at hm; injection hm with hm; exact hm ▸ hop)
  clear h hm hM hn hs hop
  have hx9 : 0 ≤ x := hx.1
  have HL := Lib.hid hx
  clear hx
  obtain ⟨kv, hkv⟩ : ∃ kv, kindM T (x / 2) = kv := ⟨_, rfl⟩
  have HK := Lib.hid hkv
  clear hkv
  have HY : Hid (kv = 4 ∨ kv = 5 ∨ kv = 8 → tellB T x = true) := Lib.hid fun hk => tellB_iff.2 (.inl (by rw [HK.out]; exact hk))
  go_enter Tryz.func46, Tryz.ntmps46
  go_wp2_with fail
  refine KK.out.mono ?_
  rintro e w1 ⟨rfl, hb1⟩
  rw [HK.out]
  have HB1 := Lib.hid hb1
  have c2 := (hb1.cell (p := ⟨bm, 0, none⟩) hb).trans c1
  clear hb1 c0 c1
  by_cases k4 : kv = 4
  · have b0 : (kv == 4) = true := by simp [k4]
    have HT := Lib.hid (HY.out (.inl k4))
    clear k4
    go_wp2
    go_ret
    exact ⟨by rw [HT.out]; rfl, HB1.out⟩
  have b0 : (kv == 4) = false := by simp [k4]
  by_cases k5 : kv = 5
  · have b1 : (kv == 5) = true := by simp [k5]
    have HT := Lib.hid (HY.out (.inr (.inl k5)))
    clear k4 k5
    go_wp2
    go_ret
    exact ⟨by rw [HT.out]; rfl, HB1.out⟩
  have b1 : (kv == 5) = false := by simp [k5]
  by_cases k8 : kv = 8
  · have b2 : (kv == 8) = true := by simp [k8]
    have HT := Lib.hid (HY.out (.inr (.inr k8)))
    clear k4 k5 k8
    go_wp2
    go_ret
    exact ⟨by rw [HT.out]; rfl, HB1.out⟩
  have b2 : (kv == 8) = false := by simp [k8]
  have hbm1 : bm < w1.heap.size := Nat.lt_of_lt_of_le hb HB1.out.size
  have HT2 : Hid (tellB T x = true ↔ ArgOf T (x / 2)) := Lib.hid (by rw [tellB_iff]; unfold Tell; rw [HK.out]; exact ⟨fun h => h.resolve_left (by omega), .inr⟩)
  obtain ⟨f, m, h1, h2, h3⟩ := HMM.out.below HB1.out
  have hl2 := h1.look int_key Tryz.underlying95 (zero_int w1) (int_key_of (x := x / 2) (by omega) (by omega)) false
  obtain ⟨v, hv, hlook⟩ : ∃ v : Int, (tellB T x = true ↔ 1 ≤ v) ∧ (Instr.lookup 95 (.map (some M)) (.int .i64 (x / 2)) false).run Tryz.prog w1 = .ok (.int .i64 v) w1 := by
    rcases h3 (x / 2) with ⟨g1, q, g2, g3, g4⟩ | ⟨g1, g2⟩
    · refine ⟨q, ⟨fun _ => g3, fun _ => HT2.out.2 (processed_all.1 g1).1⟩, hl2.trans ?_⟩
      rw [g2]
      rfl
    · refine ⟨0, ⟨fun ht => absurd (processed_all.2 ⟨HT2.out.1 ht, ⟨hx0, by omega⟩, HN.out⟩) g1, fun h => by omega⟩, hl2.trans ?_⟩
      rw [g2]
      rfl
  have HV := Lib.hid hv
  clear h1 h2 h3 hl2 hv k4 k5 k8
  by_cases h1 : 1 ≤ v
  · have d1 : decide (0 < v) = true := decide_eq_true (by omega)
    have HT := Lib.hid (HV.out.2 h1)
    clear h1
    go_wp2
    go_ret
    exact ⟨by rw [HT.out]; rfl, HB1.out⟩
  · have d1 : decide (0 < v) = false := decide_eq_false (by omega)
    have HT : Hid (tellB T x = false) := Lib.hid (Bool.eq_false_iff.2 fun h => h1 (HV.out.1 h))
    clear h1
    go_wp2
    go_ret
    exact ⟨by rw [HT.out]; rfl, HB1.out⟩
theorem int_info : (Tryz.prog.info? 3).map (fun i => (i.zero, i.size, i.bytes)) = some (some (.int .i64 0), 1, 8) := by kernel_rfl
theorem own_base_le {w : World} {B n : Nat} {va : Value} {xs : List Value} {e : TypeId} (h : w.ownsRow B e 1 va n xs) : ∀ k, va.ownBlock = some k → B ≤ k := fun k hk => (h.lt k hk).1
def OwnL (w : World) (B : Nat) (v : Value) (zs : List Int) : Prop := w.ownsRow B 3 1 v zs.length (zs.map (Value.int .i64))
theorem filter_snoc (p : Int → Bool) {L : List Int} {i : Nat} (h : i < L.length) : (L.take (i + 1)).filter p = (L.take i).filter p ++ (if p L[i] = true then [L[i]] else []) := by
  rw [List.take_add_one, List.getElem?_eq_getElem h, List.filter_append]
  simp only [Option.toList, List.filter_cons, List.filter_nil]
set_option maxHeartbeats 2000000 in
theorem only_ok {w : World} {B : Option Addr} {L : List Int} (cap : Nat) (hr : Row w B L) (g : Nat) (lb : Array Value) (p : Int → Bool) (eg : ∀ args w, (callFunc g args).run Tryz.prog w = .ok (.enter g args) w)
    (hp : ∀ W, Below w.heap.size w W → ∀ x ∈ L, Calls Tryz.prog g (#[.int .i64 x] ++ lb) W fun e w' => e = .returned (.bool (p x)) ∧ Below W.heap.size W w') :
    Calls Tryz.prog 45 #[.slice B L.length cap, .func (.func g) #[] lb] w fun e w' => ∃ v, e = .returned v ∧ OwnL w' w.heap.size v (L.filter p) ∧ Below w.heap.size w w' := by
  obtain ⟨i0, hi, hz0, hz1, hz2⟩ := info_parts int_info
  have hlen := hr.len
  have H := Lib.hid hr
  have HP := Lib.hid hp
  clear hr hp
  go_enter Tryz.func45, Tryz.ntmps45
  go_wp2
  go_loopg [9, 4] L.length (fun g v vo wr => ∃ i : Nat, i + g = L.length ∧ v = .int .i64 i ∧ OwnL wr w.heap.size vo ((L.take i).filter p) ∧ Below w.heap.size w wr)
  case atStart => exact ⟨0, by omega, rfl, World.ownsRow_nil _ _ _ _, Below.refl _ _⟩
  case round =>
    obtain ⟨i, hig, rfl, hown, hb⟩ := hrel
    have HO := Lib.hid hown
    have HB := Lib.hid hb
    clear hown hb
    cases gk with
    | zero =>
      obtain rfl : i = L.length := by omega
      have d1 : decide ((L.length : Int) < L.length) = false := by simp
      have HE := Lib.hid (show L.take L.length = L from List.take_length)
      go_wp2
      go_ret
      exact ⟨_, rfl, by have := HO.out; rwa [HE.out] at this, HB.out⟩
    | succ gk =>
      have hlt : i < L.length := by omega
      have d1 : decide ((i : Int) < L.length) = true := by simp; omega
      have t1 : (0 : Int) ≤ (i : Int) := by omega
      have t2 : (i : Int) < (L.length : Int) := by omega
      obtain ⟨b, off, hA, hbb, hcell⟩ := (H.out.below HB.out).at_.resolve_left (by omega)
      subst hA
      have y0 := hcell i hlt
      have KP := Lib.hid (HP.out wr HB.out L[i] (List.getElem_mem hlt))
      have HS := Lib.hid (filter_snoc p hlt)
      clear hcell
      generalize L[i] = x at *
      obtain ⟨fs, hfs⟩ : ∃ fs, (L.take i).filter p = fs := ⟨_, rfl⟩
      rw [hfs] at HO HS
      have hfl : fs.length ≤ 100000 := by
        rw [← hfs]
        have := List.length_filter_le p (L.take i)
        rw [List.length_take] at this
        omega
      clear hfs
      obtain ⟨r, hr⟩ : ∃ r, p x = r := ⟨_, rfl⟩
      rw [hr] at KP HS
      clear hr
      go_wp2_with fail
      refine KP.out.mono ?_
      rintro e w2 ⟨rfl, hb2⟩
      have HB2 := Lib.hid (HB.out.trans (hb2.mono HB.out.size))
      have HO2 : Hid (OwnL w2 w.heap.size _ fs) := Lib.hid (own_kept HO.out (Kept.of_below (S := fun _ => False) hb2) (fun _ _ h => h))
      clear hb2 y0
      cases r with
      | false =>
        go_wp2
        go_roundg gk
        case measure => omega
        case rel => exact ⟨i + 1, by omega, by go_num, by rw [HS.out]; simpa using HO2.out, HB2.out⟩
      | true =>
        have X1 := Lib.hid (show (fs.length + 1) * 8 ≤ 140737488355328 by omega)
        clear hfl
        go_wp2_with (at_builtin; refine list_push _ rfl (.tmp 16) (.tmp 18) 27 rfl w.heap.size 3 i0 (.int .i64 0) 1 8 Tryz.underlying27 hi hz0 hz1 hz2 rfl (by decide) _ fs.length (fs.map (Value.int .i64)) rfl (own_kept HO2.out ((Kept.refl (fun _ => False) w2).alloc _) (fun _ _ h => h)) w2.heap.size #[.int .i64 x] rfl (Blk.new w2 _ _) rfl (by intro u hu; rw [List.mem_singleton.1 hu]; rfl) X1.out (by decide) HB2.out.size ?_; intro ga ca w3 ho3 hg3 _ _; have HO3 := Lib.hid ho3; have HB3 := Lib.hid (Below.grown (HB2.out.alloc HB2.out.size _) hg3 (Nat.le_trans HB2.out.size (by simp)) (own_base_le HO2.out)); clear ho3 hg3)
        go_roundg gk
        case measure => omega
        case rel =>
          refine ⟨i + 1, by omega, by go_num, ?_, HB3.out⟩
          rw [HS.out]
          simp only [if_true]
          unfold OwnL
          rw [List.length_append, List.map_append]
          exact HO3.out
set_option maxRecDepth 100000 in
theorem euf_ok {w : World} {A B : Option Addr} {c : Nat} {T : List Nd} {L : List Int} (cap : Nat) (h : Tab w A T) (hc : T.length ≤ c) (hr : Row w B L) (hm : MayLits T L) :
    Calls Tryz.prog 25 #[.agg #[.slice A T.length c], .slice B L.length cap] w fun e w' => ∃ v, e = .returned v ∧ OwnL w' w.heap.size v (eufL T L) ∧ Below w.heap.size w w' := by
  have HP := Lib.hid (TabP.box h hc)
  have HB := Lib.hid (show Below w.heap.size w (w.alloc (.cells #[.slice A T.length c] 33)) from (Below.refl _ w).alloc (Nat.le_refl _) _)
  have HR := Lib.hid hr
  have HM := Lib.hid hm
  have KM := Lib.hid (may_ok cap (h.below HB.out) hc (hr.below HB.out))
  have c0 := HP.out.blk.cell 0
  simp only [List.getElem?_toArray, List.getElem?_cons_zero] at c0
  clear h hc hr hm
  go_enter Tryz.func25, Tryz.ntmps25
  go_wp2_with fail
  refine KM.out.mono ?_
  rintro e w1 ⟨r, rfl, hr, hb1⟩
  obtain rfl : r = true := hr.2 HM.out
  have HB1 := Lib.hid (HB.out.trans (hb1.mono HB.out.size))
  have HP1 := Lib.hid (HP.out.below hb1)
  clear hr hb1 c0
  go_wp2_with fail
  refine (args_ok HP1.out HM.out.1).mono ?_
  rintro e w2 ⟨M, rfl, hM, hb2⟩
  have HB2 := Lib.hid (HB1.out.trans (hb2.mono HB1.out.size))
  have HP2 := Lib.hid (HP1.out.below hb2)
  have HM2 := Lib.hid hM
  clear hM hb2
  go_wp2_with fail
  have hb3 : Below w2.heap.size w2 (w2.alloc (.cells #[.map (some M)] 95)) := (Below.refl _ w2).alloc (Nat.le_refl _) _
  have HB3 := Lib.hid (HB2.out.trans (hb3.mono HB2.out.size))
  have HBX := Lib.hid (Blk.new w2 95 #[.map (some M)])
  have HP3 := Lib.hid (HP2.out.below hb3)
  have HM3 := Lib.hid (HM2.out.below hb3)
  clear hb3
  refine (only_ok cap (HR.out.below HB3.out) 46 #[.pointer (some ⟨w.heap.size, 0, none⟩), .pointer (some ⟨w2.heap.size, 0, none⟩)] (tellB T) (enters_of Tryz.func46 (by kernel_rfl) rfl) (fun W hW x hx => euff_ok (HP3.out.below hW) (HBX.out.below hW HBX.out.lt) (HM3.out.below hW) (HM.out.2 x hx))).mono ?_
  rintro e w4 ⟨v, rfl, hv, hb4⟩
  have HV := Lib.hid hv
  have HB4 := Lib.hid (HB3.out.trans (hb4.mono HB3.out.size))
  have HS3 := Lib.hid HB3.out.size
  clear hv hb4
  obtain ⟨a, cp, rfl⟩ := own_slice HV.out
  go_wp2
  go_ret
  exact ⟨_, rfl, own_base HV.out (fun g hg => Nat.le_trans HS3.out (HV.out.lt g hg).1), HB4.out⟩
end Go.Proofs.YtkapbdjobfbhhaaGreat

/- Whether literals may be. -/
import Derived.Test.YtbgbhfmchpdkcaaEuF
import Derived.Test.YtbgbhfmchpdkcaaEuH
import Derived.Test.YtbgbhfmchpdkcaaQuiet
import Derived.Test.YtbgbhfmchpdkcaaShelf
import Derived.Test.YtbgbhfmchpdkcaaOpen
import Derived.Deep.Grids
namespace Go.Proofs.Ytbgbhfmchpdkcaa
open Go.RowKit

/-- A slice whose elements are the numbers zs, as they lie in memory. -/
structure Row (w : World) (A : Option Addr) (zs : List Int) : Prop where
  len : zs.length ≤ 100000
  at_ : zs.length = 0 ∨ ∃ b off, A = some ⟨b, off, none⟩ ∧ b < w.heap.size ∧ ∀ i (h : i < zs.length), w.cell? ⟨b, off + i, none⟩ = some (.int .i64 zs[i])
theorem Row.below {w w' : World} {A : Option Addr} {zs : List Int} (h : Row w A zs) (hb : Below w.heap.size w w') : Row w' A zs := by
  refine ⟨h.len, h.at_.imp id fun ⟨b, off, h1, h2, h3⟩ => ⟨b, off, h1, Nat.lt_of_lt_of_le h2 hb.size, fun i hi => ?_⟩⟩
  rw [hb.cell (p := ⟨b, off + i, none⟩) h2]
  exact h3 i hi

theorem rnode_ok (x : Int) (w : World) : Calls Try.prog 25 #[.int .i64 x] w fun e w' => e = .returned (.int .i64 (x / 2)) ∧ w = w' := by
  go_enter Try.func25, Try.ntmps25
  go_wp2
  go_ret
  exact ⟨rfl, rfl⟩
theorem node_ok (x : Int) (w : World) : Calls Try.prog 56 #[.int .i64 x] w fun e w' => e = .returned (.int .i64 (x / 2)) ∧ w = w' := by
  go_enter Try.func56, Try.ntmps56
  go_wp2
  go_ret
  exact ⟨rfl, rfl⟩

/-- A literal that may not be. -/
def opM (T : List Nd) (id : Int) : Int := match T[id.toNat]? with
  | some n => n.op
  | none => -1
def litBad (T : List Nd) (x : Int) : Bool := decide (x < 0) || (sortM T (x / 2) != 0) || (opM T (x / 2) == 1)
theorem litBad_iff {T : List Nd} {x : Int} : litBad T x = false ↔ LitMay T x := by
  unfold litBad LitMay opM
  simp only [Bool.or_eq_false_iff, decide_eq_false_iff_not, bne_eq_false_iff_eq, beq_eq_false_iff_ne]
  refine ⟨fun ⟨⟨h1, h2⟩, h3⟩ => ⟨by omega, h2, fun n hn => ?_⟩, fun ⟨h1, h2, h3⟩ => ⟨⟨by omega, h2⟩, ?_⟩⟩
  · rw [hn] at h3
    exact h3
  · cases hn : T[(x / 2).toNat]? with
    | none => decide
    | some n => exact h3 n hn
theorem sort_place {T : List Nd} {y : Int} (h : sortM T y = 0) : ∃ i : Nat, y = i ∧ i < T.length := by
  rcases int_cases (T := T) y with h0 | ⟨h0, h1⟩ | h
  · rw [sortM_out (.inl h0)] at h; cases h
  · rw [sortM_out (.inr h1)] at h; cases h
  · exact h
theorem opM_in {T : List Nd} {i : Nat} (h : i < T.length) : opM T i = T[i].op := by
  unfold opM
  rw [Int.toNat_natCast, List.getElem?_eq_getElem h]

theorem mayf_ok {w : World} {q : Nat} {A : Option Addr} {c : Nat} {T : List Nd} (h : TabP w q A c T) (x : Int) :
    Calls Try.prog 42 #[.int .i64 x, .pointer (some ⟨q, 0, none⟩)] w fun e w' => e = .returned (.bool (litBad T x)) ∧ w = w' := by
  have KS := Lib.hid (fun y => sort_ok h y)
  have c0 := h.blk.cell 0
  simp only [List.getElem?_toArray, List.getElem?_cons_zero] at c0
  have hq := h.blk.lt
  have HT := Lib.hid h.tab
  clear h
  by_cases h0 : x < 0
  · have d0 := decide_eq_true h0
    rw [show litBad T x = true by unfold litBad; rw [d0]; rfl]
    clear h0
    go_enter Try.func42, Try.ntmps42
    go_wp2
    go_ret
    exact ⟨rfl, rfl⟩
  have d0 := decide_eq_false h0
  by_cases hs : sortM T (x / 2) = 0
  rotate_left
  · have b0 : (sortM T (x / 2) != 0) = true := by simp [hs]
    rw [show litBad T x = true by unfold litBad; rw [d0, b0]; rfl]
    clear hs h0
    go_enter Try.func42, Try.ntmps42
    go_wp2_with fail
    refine (KS.out (x / 2)).mono ?_
    rintro e w1 ⟨rfl, rfl⟩
    go_wp2
    go_ret
    exact ⟨rfl, rfl⟩
  obtain ⟨i, hi, hlt⟩ := sort_place hs
  have e1 : litBad T x = (T[i].op == 1) := by
    unfold litBad
    rw [d0, hs, hi, opM_in hlt]
    rfl
  rw [e1]
  have KS0 := Lib.hid (KS.out (x / 2))
  rw [hs] at KS0
  obtain ⟨b, off, hA, hbb, hcell⟩ := HT.out.at_.resolve_left (by omega)
  subst hA
  obtain ⟨y0, _, _, _, _, _, _, _⟩ := (hcell i hlt).all
  have t1 : (0 : Int) ≤ (i : Int) := by omega
  have t2 : (i : Int) < (T.length : Int) := by omega
  generalize T[i].op = ov at *
  obtain ⟨r, hr⟩ : ∃ r, (ov == 1) = r := ⟨_, rfl⟩
  rw [hr]
  rw [hi] at KS0
  clear hcell hs e1 h0
  go_enter Try.func42, Try.ntmps42
  go_wp2_with fail
  refine KS0.out.mono ?_
  rintro e w1 ⟨rfl, rfl⟩
  go_wp2
  go_ret
  exact ⟨rfl, rfl⟩

theorem may_cont {w : World} {q : Nat} {A B : Option Addr} {c : Nat} {T : List Nd} {zs : List Int} (cap : Nat) (h : TabP w q A c T) (hr : Row w B zs) :
    Calls Try.prog 35 #[.slice B zs.length cap, .func (.func 42) #[] #[.pointer (some ⟨q, 0, none⟩)]] w fun e w' => e = .returned (.bool (zs.any (litBad T))) ∧ ∃ k, w' = w.drewN k := by
  rcases hr.at_ with h0 | ⟨b, off, hA, hb, hc⟩
  · obtain rfl := List.length_eq_zero_iff.1 h0
    refine (Try.slices_ContainsFunc_empty (α := Int) B cap _ w).mono ?_
    rintro e w' ⟨rfl, rfl⟩
    exact ⟨rfl, 0, rfl⟩
  · subst hA
    have hp : PredAt Try.prog 42 #[.pointer (some ⟨q, 0, none⟩)] (Value.int .i64) (litBad T) w := fun W x hb => by
      refine (mayf_ok (h.below hb) x).mono ?_
      rintro e w' ⟨rfl, rfl⟩
      exact ⟨rfl, 0, rfl⟩
    refine (Try.slices_ContainsFunc (Value.int .i64) (litBad T) 42 #[.pointer (some ⟨q, 0, none⟩)] (enters_of Try.func42 (by kernel_rfl) rfl) b off zs.length cap zs w hp (Nat.le_refl _) (by have := hr.len; omega) (fun j hj => by rw [hc j hj, getElem!_pos zs j hj])).mono ?_
    rintro e w' ⟨rfl, k, rfl⟩
    exact ⟨by rw [List.take_length], k, rfl⟩
theorem any_bad {T : List Nd} {L : List Int} : L.any (litBad T) = false ↔ ∀ x ∈ L, LitMay T x := by
  rw [List.any_eq_false]
  exact ⟨fun h x hx => litBad_iff.1 (by simpa using h x hx), fun h x hx => by rw [litBad_iff.2 (h x hx)]; decide⟩

set_option maxRecDepth 100000 in
theorem may_ok {w : World} {A B : Option Addr} {c : Nat} {T : List Nd} {L : List Int} (cap : Nat) (h : Tab w A T) (hc : T.length ≤ c) (hr : Row w B L) :
    Calls Try.prog 19 #[.agg #[.slice A T.length c], .slice B L.length cap] w (TestIs (MayLits T L) w) := by
  have HP := Lib.hid (TabP.box h hc)
  have HB := Lib.hid (show Below w.heap.size w (w.alloc (.cells #[.slice A T.length c] 24)) from (Below.refl _ w).alloc (Nat.le_refl _) _)
  have HT := Lib.hid h
  have HR := Lib.hid hr
  have c0 := HP.out.blk.cell 0
  simp only [List.getElem?_toArray, List.getElem?_cons_zero] at c0
  have HC := Lib.hid hc
  clear h hr hc
  go_enter Try.func19, Try.ntmps19
  go_wp2_with fail
  refine (check_ok c HC.out (HT.out.below HB.out)).mono ?_
  rintro e w1 ⟨r, rfl, hr, hb1⟩
  have HR1 := Lib.hid hr
  have HB1 := Lib.hid (HB.out.trans (hb1.mono HB.out.size))
  have HP1 := Lib.hid (HP.out.below hb1)
  clear hr hb1 c0
  cases r with
  | false =>
    go_wp2
    go_ret
    exact TestIs.no (fun hm => by have := HR1.out.2 hm.1; cases this) HB1.out
  | true =>
    go_wp2_with fail
    refine (may_cont cap HP1.out (HR.out.below HB1.out)).mono ?_
    rintro e w2 ⟨rfl, k, rfl⟩
    obtain ⟨r, hr⟩ : ∃ r, L.any (litBad T) = r := ⟨_, rfl⟩
    rw [hr]
    have HR2 := Lib.hid hr
    clear hr
    cases r with
    | true =>
      go_wp2
      go_ret
      exact TestIs.no (fun hm => by have := any_bad.2 hm.2; rw [HR2.out] at this; cases this) (below_drewN HB1.out _)
    | false =>
      go_wp2
      go_ret
      exact TestIs.yes ⟨by have := HR1.out; simpa using this, any_bad.1 HR2.out⟩ (below_drewN HB1.out _)

set_option maxRecDepth 100000 in
set_option maxHeartbeats 2000000 in
theorem rmay_ok {w : World} {A B : Option Addr} {c : Nat} {T : List Nd} {L : List Int} (cap : Nat) (h : Tab w A T) (hr : Row w B L) :
    Calls Try.prog 16 #[.agg #[.slice A T.length c], .slice B L.length cap] w (TestIs (MayLits T L) w) := by
  have hlen := hr.len
  have HB := Lib.hid (show Below w.heap.size w (w.alloc (.cells #[.slice A T.length c] 24)) from (Below.refl _ w).alloc (Nat.le_refl _) _)
  have HBL := Lib.hid (show Blk (w.alloc (.cells #[.slice A T.length c] 24)) w.heap.size 24 #[.slice A T.length c] from Blk.new w _ _)
  have HL1 : Hid (w.heap.size < (w.alloc (.cells #[.slice A T.length c] 24)).heap.size) := Lib.hid (by simp)
  have HT := Lib.hid h
  have HR := Lib.hid hr
  clear h hr
  go_enter Try.func16, Try.ntmps16
  go_wp2_with fail
  refine (rcheck_ok c (HT.out.below HB.out)).mono ?_
  rintro e w1 ⟨r, rfl, hr, hb1⟩
  have HR1 := Lib.hid hr
  have HB1 := Lib.hid (HB.out.trans (hb1.mono HB.out.size))
  have HBL1 := Lib.hid (HBL.out.below hb1 HL1.out)
  clear hr hb1
  cases r with
  | false =>
    go_wp2
    go_ret
    exact TestIs.no (fun hm => by have := HR1.out.2 hm.1; cases this) HB1.out
  | true =>
    go_wp2
    go_loopg [5] L.length (fun g v wr => ∃ i : Nat, i + g = L.length ∧ v = .int .i64 i ∧ Below w.heap.size w wr ∧ Blk wr w.heap.size 24 #[.slice A T.length c] ∧ ∀ (j : Nat) (hj : j < L.length), j < i → LitMay T L[j])
    case atStart => exact ⟨0, by omega, rfl, HB1.out, HBL1.out, fun j _ hj => absurd hj (Nat.not_lt_zero _)⟩
    case round =>
      obtain ⟨i, hig, rfl, hbw, hblr, hinv⟩ := hrel
      have HBW := Lib.hid hbw
      have HBR := Lib.hid hblr
      have HI := Lib.hid hinv
      clear hbw hblr hinv
      cases gk with
      | zero =>
        obtain rfl : i = L.length := by omega
        have d2 : decide ((L.length : Int) < L.length) = false := by simp
        go_wp2
        go_ret
        refine TestIs.yes ⟨by have := HR1.out; simpa using this, fun x hx => ?_⟩ HBW.out
        obtain ⟨j, hj, rfl⟩ := List.mem_iff_getElem.1 hx
        exact HI.out j hj hj
      | succ gk =>
        have hlt : i < L.length := by omega
        have d2 : decide ((i : Int) < L.length) = true := by simp; omega
        have t1 : (0 : Int) ≤ (i : Int) := by omega
        have t2 : (i : Int) < (L.length : Int) := by omega
        obtain ⟨bl, offl, hA, hbb, hcell⟩ := (HR.out.below HBW.out).at_.resolve_left (by omega)
        subst hA
        have ci := hcell i hlt
        have HX := Lib.hid (show L[i]'hlt = L[i]'hlt from rfl)
        have HLI : Hid (∀ x, L[i]'hlt = x → ((∀ (j : Nat) (hj : j < L.length), j < i + 1 → LitMay T L[j]) ↔ LitMay T x)) := Lib.hid fun x hx => ⟨fun h => hx ▸ h i hlt (by omega), fun h j hj hji => by
          rcases Nat.lt_succ_iff_lt_or_eq.1 hji with hji | rfl
          · exact HI.out j hj hji
          · exact hx ▸ h⟩
        have HNO : Hid (∀ x, L[i]'hlt = x → ¬ LitMay T x → ¬ MayLits T L) := Lib.hid fun x hx h hm => h (hx ▸ hm.2 _ (List.getElem_mem hlt))
        obtain ⟨x, hx⟩ : ∃ x, L[i]'hlt = x := ⟨_, rfl⟩
        have HX1 := Lib.hid hx
        rw [hx] at ci
        clear hx hcell HX
        have HTw := Lib.hid (HT.out.below HBW.out)
        have HF : Hid (∀ w', Below wr.heap.size wr w' → w'.cell? ⟨w.heap.size, 0, none⟩ = some (.slice A T.length c) ∧ w'.cell? ⟨bl, offl + i, none⟩ = some (.int .i64 x)) := Lib.hid fun w' hb => ⟨(hb.cell (p := ⟨w.heap.size, 0, none⟩) HBR.out.lt).trans (HBR.out.cell 0), (hb.cell (p := ⟨bl, offl + i, none⟩) hbb).trans ci⟩
        go_upto_region 6 with (fail)
        by_cases h0 : x < 0
        · have d0 := decide_eq_true h0
          have HN := Lib.hid (HNO.out x HX1.out fun hm => by have := hm.1; omega)
          clear h0
          refine wp_region_quiet (C := fun w' => Below wr.heap.size wr w') (by kernel_rfl) (by kernel_rfl) (⟨rfl, rfl, rfl, Nat.le_refl _, fun _ _ => rfl⟩) ?_
          refine QW.lit ?_
          refine qw_want rfl ?_ (fun w' hw' => ?_) ?_
          rotate_left
          · unfold Oper.quietAt
            go_simp
            exact rfl
          simp only [Act.put, List.setIfInBounds_toArray, List.set_cons_succ, List.set_cons_zero]
          refine qw_want rfl ?_ (fun w' hw' => ?_) ?_
          rotate_left
          · unfold Oper.quietAt
            go_simp
            exact rfl
          simp only [Act.put, List.setIfInBounds_toArray, List.set_cons_succ, List.set_cons_zero]
          refine qw_want rfl ?_ (fun w' hw' => ?_) ?_
          rotate_left
          · unfold Oper.quietAt
            go_simp
            exact rfl
          simp only [Act.put, List.setIfInBounds_toArray, List.set_cons_succ, List.set_cons_zero]
          refine qw_want rfl ?_ (fun w' hw' => ?_) ?_
          rotate_left
          · obtain ⟨k0, k1⟩ := HF.out w' hw'
            unfold Oper.quietAt
            go_simp
            exact rfl
          simp only [Act.put, List.setIfInBounds_toArray, List.set_cons_succ, List.set_cons_zero]
          refine qw_want rfl ?_ (fun w' hw' => ?_) ?_
          rotate_left
          · unfold Oper.quietAt
            go_simp
            exact rfl
          simp only [Act.put, List.setIfInBounds_toArray, List.set_cons_succ, List.set_cons_zero]
          refine qw_want rfl ?_ (fun w' hw' => ?_) ?_
          rotate_left
          · unfold Oper.quietAt
            go_simp
            exact rfl
          simp only [Act.put, List.setIfInBounds_toArray, List.set_cons_succ, List.set_cons_zero]
          refine qw_skip (by rfl) ?_
          simp only [Act.put, List.setIfInBounds_toArray, List.set_cons_succ, List.set_cons_zero]
          refine qw_skip (by rfl) ?_
          simp only [Act.put, List.setIfInBounds_toArray, List.set_cons_succ, List.set_cons_zero]
          refine qw_skip (by rfl) ?_
          simp only [Act.put, List.setIfInBounds_toArray, List.set_cons_succ, List.set_cons_zero]
          refine qw_skip (by rfl) ?_
          simp only [Act.put, List.setIfInBounds_toArray, List.set_cons_succ, List.set_cons_zero]
          refine qw_skip (by rfl) ?_
          simp only [Act.put, List.setIfInBounds_toArray, List.set_cons_succ, List.set_cons_zero]
          refine qw_skip (by rfl) ?_
          simp only [Act.put, List.setIfInBounds_toArray, List.set_cons_succ, List.set_cons_zero]
          refine qw_skip (by rfl) ?_
          simp only [Act.put, List.setIfInBounds_toArray, List.set_cons_succ, List.set_cons_zero]
          refine qw_skip (by rfl) ?_
          simp only [Act.put, List.setIfInBounds_toArray, List.set_cons_succ, List.set_cons_zero]
          refine qw_want rfl ?_ (fun w' hw' => ?_) ?_
          rotate_left
          · unfold Oper.quietAt
            go_simp
            exact rfl
          simp only [Act.put, List.setIfInBounds_toArray, List.set_cons_succ, List.set_cons_zero]
          refine qw_want rfl ?_ (fun w' hw' => ?_) ?_
          rotate_left
          · unfold Oper.quietAt
            go_simp
            exact rfl
          simp only [Act.put, List.setIfInBounds_toArray, List.set_cons_succ, List.set_cons_zero]
          refine qw_skip (by rfl) ?_
          simp only [Act.put, List.setIfInBounds_toArray, List.set_cons_succ, List.set_cons_zero]
          refine qw_skip (by rfl) ?_
          simp only [Act.put, List.setIfInBounds_toArray, List.set_cons_succ, List.set_cons_zero]
          refine qw_skip (by rfl) ?_
          simp only [Act.put, List.setIfInBounds_toArray, List.set_cons_succ, List.set_cons_zero]
          refine qw_skip (by rfl) ?_
          simp only [Act.put, List.setIfInBounds_toArray, List.set_cons_succ, List.set_cons_zero]
          refine qw_skip (by rfl) ?_
          simp only [Act.put, List.setIfInBounds_toArray, List.set_cons_succ, List.set_cons_zero]
          refine qw_skip (by rfl) ?_
          simp only [Act.put, List.setIfInBounds_toArray, List.set_cons_succ, List.set_cons_zero]
          refine qw_skip (by rfl) ?_
          simp only [Act.put, List.setIfInBounds_toArray, List.set_cons_succ, List.set_cons_zero]
          refine qw_skip (by rfl) ?_
          simp only [Act.put, List.setIfInBounds_toArray, List.set_cons_succ, List.set_cons_zero]
          refine qw_skip (by rfl) ?_
          simp only [Act.put, List.setIfInBounds_toArray, List.set_cons_succ, List.set_cons_zero]
          refine qw_skip (by rfl) ?_
          simp only [Act.put, List.setIfInBounds_toArray, List.set_cons_succ, List.set_cons_zero]
          refine qw_skip (by rfl) ?_
          simp only [Act.put, List.setIfInBounds_toArray, List.set_cons_succ, List.set_cons_zero]
          refine qw_want rfl ?_ (fun w' hw' => ?_) ?_
          rotate_left
          · unfold Oper.quietAt
            go_simp
            exact rfl
          simp only [Act.put, List.setIfInBounds_toArray, List.set_cons_succ, List.set_cons_zero]
          refine qw_end (fun w5 hb5 => ?_)
          go_wp2
          go_ret
          exact TestIs.no HN.out (HBW.out.trans (hb5.mono HBW.out.size))
        have d0 := decide_eq_false h0
        by_cases hs : sortM T (x / 2) = 0
        rotate_left
        · have b0 : (sortM T (x / 2) != 0) = true := by simp [hs]
          have HN := Lib.hid (HNO.out x HX1.out fun hm => hs hm.2.1)
          clear h0 hs
          refine wp_region_quiet (C := fun w' => Below wr.heap.size wr w') (by kernel_rfl) (by kernel_rfl) (⟨rfl, rfl, rfl, Nat.le_refl _, fun _ _ => rfl⟩) ?_
          refine QW.lit ?_
          refine qw_want rfl ?_ (fun w' hw' => ?_) ?_
          rotate_left
          · unfold Oper.quietAt
            go_simp
            exact rfl
          simp only [Act.put, List.setIfInBounds_toArray, List.set_cons_succ, List.set_cons_zero]
          refine qw_want rfl ?_ (fun w' hw' => ?_) ?_
          rotate_left
          · unfold Oper.quietAt
            go_simp
            exact rfl
          simp only [Act.put, List.setIfInBounds_toArray, List.set_cons_succ, List.set_cons_zero]
          refine qw_want rfl ?_ (fun w' hw' => ?_) ?_
          rotate_left
          · unfold Oper.quietAt
            go_simp
            exact rfl
          simp only [Act.put, List.setIfInBounds_toArray, List.set_cons_succ, List.set_cons_zero]
          refine qw_want rfl ?_ (fun w' hw' => ?_) ?_
          rotate_left
          · obtain ⟨k0, k1⟩ := HF.out w' hw'
            unfold Oper.quietAt
            go_simp
            exact rfl
          simp only [Act.put, List.setIfInBounds_toArray, List.set_cons_succ, List.set_cons_zero]
          refine qw_want rfl ?_ (fun w' hw' => ?_) ?_
          rotate_left
          · unfold Oper.quietAt
            go_simp
            exact rfl
          simp only [Act.put, List.setIfInBounds_toArray, List.set_cons_succ, List.set_cons_zero]
          refine qw_want rfl ?_ (fun w' hw' => ?_) ?_
          rotate_left
          · unfold Oper.quietAt
            go_simp
            exact rfl
          simp only [Act.put, List.setIfInBounds_toArray, List.set_cons_succ, List.set_cons_zero]
          refine qw_want rfl ?_ (fun w' hw' => ?_) ?_
          rotate_left
          · obtain ⟨k0, k1⟩ := HF.out w' hw'
            unfold Oper.quietAt
            go_simp
            exact rfl
          simp only [Act.put, List.setIfInBounds_toArray, List.set_cons_succ, List.set_cons_zero]
          refine qw_want rfl ?_ (fun w' hw' => ?_) ?_
          rotate_left
          · unfold Oper.quietAt
            go_simp
            exact rfl
          simp only [Act.put, List.setIfInBounds_toArray, List.set_cons_succ, List.set_cons_zero]
          refine qw_want rfl ?_ (fun w' hw' => ?_) ?_
          rotate_left
          · unfold Oper.quietAt
            go_simp
            exact rfl
          simp only [Act.put, List.setIfInBounds_toArray, List.set_cons_succ, List.set_cons_zero]
          refine qw_want rfl ?_ (fun w' hw' => ?_) ?_
          rotate_left
          · unfold Oper.quietAt
            go_simp
            exact rfl
          simp only [Act.put, List.setIfInBounds_toArray, List.set_cons_succ, List.set_cons_zero]
          refine qw_want rfl ?_ (fun w' hw' => ?_) ?_
          rotate_left
          · obtain ⟨k0, k1⟩ := HF.out w' hw'
            unfold Oper.quietAt
            go_simp
            exact rfl
          simp only [Act.put, List.setIfInBounds_toArray, List.set_cons_succ, List.set_cons_zero]
          refine qw_want rfl (.int .i64 (x / 2)) (fun w' hw' => ?_) ?_
          · unfold Oper.quietAt
            go_simp
            refine (rnode_ok x w').mono ?_
            rintro e w2 ⟨rfl, rfl⟩
            exact ⟨rfl, hw'⟩
          simp only [Act.put, List.setIfInBounds_toArray, List.set_cons_succ, List.set_cons_zero]
          refine qw_want rfl (.int .i64 (sortM T (x / 2))) (fun w' hw' => ?_) ?_
          · unfold Oper.quietAt
            go_simp
            refine (rsort_ok (HTw.out.below hw') (x / 2)).mono ?_
            rintro e w2 ⟨rfl, hb⟩
            have hz := below_then hw' (Nat.le_refl _) hb
            exact ⟨rfl, by simpa using hz⟩
          simp only [Act.put, List.setIfInBounds_toArray, List.set_cons_succ, List.set_cons_zero]
          refine qw_want rfl ?_ (fun w' hw' => ?_) ?_
          rotate_left
          · unfold Oper.quietAt
            go_simp
            exact rfl
          simp only [Act.put, List.setIfInBounds_toArray, List.set_cons_succ, List.set_cons_zero]
          refine qw_want rfl ?_ (fun w' hw' => ?_) ?_
          rotate_left
          · unfold Oper.quietAt
            go_simp
            exact rfl
          simp only [Act.put, List.setIfInBounds_toArray, List.set_cons_succ, List.set_cons_zero]
          refine qw_want rfl ?_ (fun w' hw' => ?_) ?_
          rotate_left
          · unfold Oper.quietAt
            go_simp
            exact rfl
          simp only [Act.put, List.setIfInBounds_toArray, List.set_cons_succ, List.set_cons_zero]
          refine qw_skip (by rfl) ?_
          simp only [Act.put, List.setIfInBounds_toArray, List.set_cons_succ, List.set_cons_zero]
          refine qw_skip (by rfl) ?_
          simp only [Act.put, List.setIfInBounds_toArray, List.set_cons_succ, List.set_cons_zero]
          refine qw_skip (by rfl) ?_
          simp only [Act.put, List.setIfInBounds_toArray, List.set_cons_succ, List.set_cons_zero]
          refine qw_skip (by rfl) ?_
          simp only [Act.put, List.setIfInBounds_toArray, List.set_cons_succ, List.set_cons_zero]
          refine qw_skip (by rfl) ?_
          simp only [Act.put, List.setIfInBounds_toArray, List.set_cons_succ, List.set_cons_zero]
          refine qw_skip (by rfl) ?_
          simp only [Act.put, List.setIfInBounds_toArray, List.set_cons_succ, List.set_cons_zero]
          refine qw_skip (by rfl) ?_
          simp only [Act.put, List.setIfInBounds_toArray, List.set_cons_succ, List.set_cons_zero]
          refine qw_skip (by rfl) ?_
          simp only [Act.put, List.setIfInBounds_toArray, List.set_cons_succ, List.set_cons_zero]
          refine qw_skip (by rfl) ?_
          simp only [Act.put, List.setIfInBounds_toArray, List.set_cons_succ, List.set_cons_zero]
          refine qw_skip (by rfl) ?_
          simp only [Act.put, List.setIfInBounds_toArray, List.set_cons_succ, List.set_cons_zero]
          refine qw_skip (by rfl) ?_
          simp only [Act.put, List.setIfInBounds_toArray, List.set_cons_succ, List.set_cons_zero]
          refine qw_want rfl ?_ (fun w' hw' => ?_) ?_
          rotate_left
          · unfold Oper.quietAt
            go_simp
            exact rfl
          simp only [Act.put, List.setIfInBounds_toArray, List.set_cons_succ, List.set_cons_zero]
          refine qw_end (fun w5 hb5 => ?_)
          go_wp2
          go_ret
          exact TestIs.no HN.out (HBW.out.trans (hb5.mono HBW.out.size))
        obtain ⟨q, hq, hqt⟩ := sort_place hs
        have KN : Hid (∀ W, Calls Try.prog 25 #[.int .i64 x] W fun e w' => e = .returned (.int .i64 (q : Int)) ∧ W = w') := Lib.hid fun W => hq ▸ rnode_ok x W
        have KS0 : Hid (∀ w', Below wr.heap.size wr w' → Calls Try.prog 38 #[.agg #[.slice A T.length c], .int .i64 (q : Int)] w' fun e w2 => e = .returned (.int .i64 0) ∧ Below w'.heap.size w' w2) := Lib.hid fun w' hw' => by
          have := rsort_ok (c := c) (HTw.out.below hw') (q : Int)
          rwa [← hq, hs, hq] at this
        obtain ⟨bt, offt, hAt, hbt, hct⟩ := HTw.out.at_.resolve_left (by omega)
        subst hAt
        have HOP : Hid (LitMay T x ↔ ¬ T[q].op = 1) := Lib.hid ⟨fun h e => h.2.2 T[q] (by rw [hq, Int.toNat_natCast, List.getElem?_eq_getElem hqt]) e, fun h => ⟨by omega, hs, fun n hn => by
          rw [hq, Int.toNat_natCast, List.getElem?_eq_getElem hqt] at hn
          injection hn with hn
          exact hn ▸ h⟩⟩
        have HNq := Lib.hid (hct q hqt)
        have t3 : (0 : Int) ≤ (q : Int) := by omega
        have t4 : (q : Int) < (T.length : Int) := by omega
        clear hct hs h0 hq
        obtain ⟨ov, hov⟩ : ∃ ov, T[q].op = ov := ⟨_, rfl⟩
        have HG : Hid (∀ w', Below wr.heap.size wr w' → w'.cell? ⟨w.heap.size, 0, none⟩ = some (.slice (some ⟨bt, offt, none⟩) T.length c) ∧ w'.cell? ⟨bl, offl + i, none⟩ = some (.int .i64 x) ∧ w'.cell? ⟨bt, offt + q * 8, none⟩ = some (.int .i8 ov)) := Lib.hid fun w' hb => ⟨(HF.out w' hb).1, (HF.out w' hb).2, hov ▸ (HNq.out.below hb).all.1⟩
        rw [hov] at HOP
        clear hov
        by_cases ho : ov = 1
        · subst ho
          have HN := Lib.hid (HNO.out x HX1.out fun hm => HOP.out.1 hm rfl)
          refine wp_region_quiet (C := fun w' => Below wr.heap.size wr w') (by kernel_rfl) (by kernel_rfl) (⟨rfl, rfl, rfl, Nat.le_refl _, fun _ _ => rfl⟩) ?_
          refine QW.lit ?_
          refine qw_want rfl ?_ (fun w' hw' => ?_) ?_
          rotate_left
          · unfold Oper.quietAt
            go_simp
            exact rfl
          simp only [Act.put, List.setIfInBounds_toArray, List.set_cons_succ, List.set_cons_zero]
          refine qw_want rfl ?_ (fun w' hw' => ?_) ?_
          rotate_left
          · unfold Oper.quietAt
            go_simp
            exact rfl
          simp only [Act.put, List.setIfInBounds_toArray, List.set_cons_succ, List.set_cons_zero]
          refine qw_want rfl ?_ (fun w' hw' => ?_) ?_
          rotate_left
          · unfold Oper.quietAt
            go_simp
            exact rfl
          simp only [Act.put, List.setIfInBounds_toArray, List.set_cons_succ, List.set_cons_zero]
          refine qw_want rfl ?_ (fun w' hw' => ?_) ?_
          rotate_left
          · obtain ⟨k0, k1, k2⟩ := HG.out w' hw'
            unfold Oper.quietAt
            go_simp
            exact rfl
          simp only [Act.put, List.setIfInBounds_toArray, List.set_cons_succ, List.set_cons_zero]
          refine qw_want rfl ?_ (fun w' hw' => ?_) ?_
          rotate_left
          · unfold Oper.quietAt
            go_simp
            exact rfl
          simp only [Act.put, List.setIfInBounds_toArray, List.set_cons_succ, List.set_cons_zero]
          refine qw_want rfl ?_ (fun w' hw' => ?_) ?_
          rotate_left
          · unfold Oper.quietAt
            go_simp
            exact rfl
          simp only [Act.put, List.setIfInBounds_toArray, List.set_cons_succ, List.set_cons_zero]
          refine qw_want rfl ?_ (fun w' hw' => ?_) ?_
          rotate_left
          · obtain ⟨k0, k1, k2⟩ := HG.out w' hw'
            unfold Oper.quietAt
            go_simp
            exact rfl
          simp only [Act.put, List.setIfInBounds_toArray, List.set_cons_succ, List.set_cons_zero]
          refine qw_want rfl ?_ (fun w' hw' => ?_) ?_
          rotate_left
          · unfold Oper.quietAt
            go_simp
            exact rfl
          simp only [Act.put, List.setIfInBounds_toArray, List.set_cons_succ, List.set_cons_zero]
          refine qw_want rfl ?_ (fun w' hw' => ?_) ?_
          rotate_left
          · unfold Oper.quietAt
            go_simp
            exact rfl
          simp only [Act.put, List.setIfInBounds_toArray, List.set_cons_succ, List.set_cons_zero]
          refine qw_want rfl ?_ (fun w' hw' => ?_) ?_
          rotate_left
          · unfold Oper.quietAt
            go_simp
            exact rfl
          simp only [Act.put, List.setIfInBounds_toArray, List.set_cons_succ, List.set_cons_zero]
          refine qw_want rfl ?_ (fun w' hw' => ?_) ?_
          rotate_left
          · obtain ⟨k0, k1, k2⟩ := HG.out w' hw'
            unfold Oper.quietAt
            go_simp
            exact rfl
          simp only [Act.put, List.setIfInBounds_toArray, List.set_cons_succ, List.set_cons_zero]
          refine qw_want rfl (.int .i64 (q : Int)) (fun w' hw' => ?_) ?_
          · unfold Oper.quietAt
            go_simp
            refine (KN.out w').mono ?_
            rintro e w2 ⟨rfl, rfl⟩
            exact ⟨rfl, hw'⟩
          simp only [Act.put, List.setIfInBounds_toArray, List.set_cons_succ, List.set_cons_zero]
          refine qw_want rfl (.int .i64 0) (fun w' hw' => ?_) ?_
          · unfold Oper.quietAt
            go_simp
            refine (KS0.out w' hw').mono ?_
            rintro e w2 ⟨rfl, hb⟩
            have hz := below_then hw' (Nat.le_refl _) hb
            exact ⟨rfl, by simpa using hz⟩
          simp only [Act.put, List.setIfInBounds_toArray, List.set_cons_succ, List.set_cons_zero]
          refine qw_want rfl ?_ (fun w' hw' => ?_) ?_
          rotate_left
          · unfold Oper.quietAt
            go_simp
            exact rfl
          simp only [Act.put, List.setIfInBounds_toArray, List.set_cons_succ, List.set_cons_zero]
          refine qw_want rfl ?_ (fun w' hw' => ?_) ?_
          rotate_left
          · unfold Oper.quietAt
            go_simp
            exact rfl
          simp only [Act.put, List.setIfInBounds_toArray, List.set_cons_succ, List.set_cons_zero]
          refine qw_want rfl ?_ (fun w' hw' => ?_) ?_
          rotate_left
          · unfold Oper.quietAt
            go_simp
            exact rfl
          simp only [Act.put, List.setIfInBounds_toArray, List.set_cons_succ, List.set_cons_zero]
          refine qw_want rfl ?_ (fun w' hw' => ?_) ?_
          rotate_left
          · unfold Oper.quietAt
            go_simp
            exact rfl
          simp only [Act.put, List.setIfInBounds_toArray, List.set_cons_succ, List.set_cons_zero]
          refine qw_want rfl ?_ (fun w' hw' => ?_) ?_
          rotate_left
          · obtain ⟨k0, k1, k2⟩ := HG.out w' hw'
            unfold Oper.quietAt
            go_simp
            exact rfl
          simp only [Act.put, List.setIfInBounds_toArray, List.set_cons_succ, List.set_cons_zero]
          refine qw_want rfl ?_ (fun w' hw' => ?_) ?_
          rotate_left
          · unfold Oper.quietAt
            go_simp
            exact rfl
          simp only [Act.put, List.setIfInBounds_toArray, List.set_cons_succ, List.set_cons_zero]
          refine qw_want rfl ?_ (fun w' hw' => ?_) ?_
          rotate_left
          · unfold Oper.quietAt
            go_simp
            exact rfl
          simp only [Act.put, List.setIfInBounds_toArray, List.set_cons_succ, List.set_cons_zero]
          refine qw_want rfl ?_ (fun w' hw' => ?_) ?_
          rotate_left
          · unfold Oper.quietAt
            go_simp
            exact rfl
          simp only [Act.put, List.setIfInBounds_toArray, List.set_cons_succ, List.set_cons_zero]
          refine qw_want rfl ?_ (fun w' hw' => ?_) ?_
          rotate_left
          · obtain ⟨k0, k1, k2⟩ := HG.out w' hw'
            unfold Oper.quietAt
            go_simp
            exact rfl
          simp only [Act.put, List.setIfInBounds_toArray, List.set_cons_succ, List.set_cons_zero]
          refine qw_want rfl (.int .i64 (q : Int)) (fun w' hw' => ?_) ?_
          · unfold Oper.quietAt
            go_simp
            refine (KN.out w').mono ?_
            rintro e w2 ⟨rfl, rfl⟩
            exact ⟨rfl, hw'⟩
          simp only [Act.put, List.setIfInBounds_toArray, List.set_cons_succ, List.set_cons_zero]
          refine qw_want rfl ?_ (fun w' hw' => ?_) ?_
          rotate_left
          · unfold Oper.quietAt
            go_simp
            exact rfl
          simp only [Act.put, List.setIfInBounds_toArray, List.set_cons_succ, List.set_cons_zero]
          refine qw_want rfl ?_ (fun w' hw' => ?_) ?_
          rotate_left
          · unfold Oper.quietAt
            go_simp
            exact rfl
          simp only [Act.put, List.setIfInBounds_toArray, List.set_cons_succ, List.set_cons_zero]
          refine qw_want rfl ?_ (fun w' hw' => ?_) ?_
          rotate_left
          · obtain ⟨k0, k1, k2⟩ := HG.out w' hw'
            unfold Oper.quietAt
            go_simp
            exact rfl
          simp only [Act.put, List.setIfInBounds_toArray, List.set_cons_succ, List.set_cons_zero]
          refine qw_want rfl ?_ (fun w' hw' => ?_) ?_
          rotate_left
          · unfold Oper.quietAt
            go_simp
            exact rfl
          simp only [Act.put, List.setIfInBounds_toArray, List.set_cons_succ, List.set_cons_zero]
          refine qw_want rfl ?_ (fun w' hw' => ?_) ?_
          rotate_left
          · unfold Oper.quietAt
            go_simp
            exact rfl
          simp only [Act.put, List.setIfInBounds_toArray, List.set_cons_succ, List.set_cons_zero]
          refine qw_end (fun w5 hb5 => ?_)
          go_wp2
          go_ret
          exact TestIs.no HN.out (HBW.out.trans (hb5.mono HBW.out.size))
        · have b1 : (ov == 1) = false := by simp [ho]
          have HM := Lib.hid (HOP.out.2 ho)
          clear ho
          refine wp_region_quiet (C := fun w' => Below wr.heap.size wr w') (by kernel_rfl) (by kernel_rfl) (⟨rfl, rfl, rfl, Nat.le_refl _, fun _ _ => rfl⟩) ?_
          refine QW.lit ?_
          refine qw_want rfl ?_ (fun w' hw' => ?_) ?_
          rotate_left
          · unfold Oper.quietAt
            go_simp
            exact rfl
          simp only [Act.put, List.setIfInBounds_toArray, List.set_cons_succ, List.set_cons_zero]
          refine qw_want rfl ?_ (fun w' hw' => ?_) ?_
          rotate_left
          · unfold Oper.quietAt
            go_simp
            exact rfl
          simp only [Act.put, List.setIfInBounds_toArray, List.set_cons_succ, List.set_cons_zero]
          refine qw_want rfl ?_ (fun w' hw' => ?_) ?_
          rotate_left
          · unfold Oper.quietAt
            go_simp
            exact rfl
          simp only [Act.put, List.setIfInBounds_toArray, List.set_cons_succ, List.set_cons_zero]
          refine qw_want rfl ?_ (fun w' hw' => ?_) ?_
          rotate_left
          · obtain ⟨k0, k1, k2⟩ := HG.out w' hw'
            unfold Oper.quietAt
            go_simp
            exact rfl
          simp only [Act.put, List.setIfInBounds_toArray, List.set_cons_succ, List.set_cons_zero]
          refine qw_want rfl ?_ (fun w' hw' => ?_) ?_
          rotate_left
          · unfold Oper.quietAt
            go_simp
            exact rfl
          simp only [Act.put, List.setIfInBounds_toArray, List.set_cons_succ, List.set_cons_zero]
          refine qw_want rfl ?_ (fun w' hw' => ?_) ?_
          rotate_left
          · unfold Oper.quietAt
            go_simp
            exact rfl
          simp only [Act.put, List.setIfInBounds_toArray, List.set_cons_succ, List.set_cons_zero]
          refine qw_want rfl ?_ (fun w' hw' => ?_) ?_
          rotate_left
          · obtain ⟨k0, k1, k2⟩ := HG.out w' hw'
            unfold Oper.quietAt
            go_simp
            exact rfl
          simp only [Act.put, List.setIfInBounds_toArray, List.set_cons_succ, List.set_cons_zero]
          refine qw_want rfl ?_ (fun w' hw' => ?_) ?_
          rotate_left
          · unfold Oper.quietAt
            go_simp
            exact rfl
          simp only [Act.put, List.setIfInBounds_toArray, List.set_cons_succ, List.set_cons_zero]
          refine qw_want rfl ?_ (fun w' hw' => ?_) ?_
          rotate_left
          · unfold Oper.quietAt
            go_simp
            exact rfl
          simp only [Act.put, List.setIfInBounds_toArray, List.set_cons_succ, List.set_cons_zero]
          refine qw_want rfl ?_ (fun w' hw' => ?_) ?_
          rotate_left
          · unfold Oper.quietAt
            go_simp
            exact rfl
          simp only [Act.put, List.setIfInBounds_toArray, List.set_cons_succ, List.set_cons_zero]
          refine qw_want rfl ?_ (fun w' hw' => ?_) ?_
          rotate_left
          · obtain ⟨k0, k1, k2⟩ := HG.out w' hw'
            unfold Oper.quietAt
            go_simp
            exact rfl
          simp only [Act.put, List.setIfInBounds_toArray, List.set_cons_succ, List.set_cons_zero]
          refine qw_want rfl (.int .i64 (q : Int)) (fun w' hw' => ?_) ?_
          · unfold Oper.quietAt
            go_simp
            refine (KN.out w').mono ?_
            rintro e w2 ⟨rfl, rfl⟩
            exact ⟨rfl, hw'⟩
          simp only [Act.put, List.setIfInBounds_toArray, List.set_cons_succ, List.set_cons_zero]
          refine qw_want rfl (.int .i64 0) (fun w' hw' => ?_) ?_
          · unfold Oper.quietAt
            go_simp
            refine (KS0.out w' hw').mono ?_
            rintro e w2 ⟨rfl, hb⟩
            have hz := below_then hw' (Nat.le_refl _) hb
            exact ⟨rfl, by simpa using hz⟩
          simp only [Act.put, List.setIfInBounds_toArray, List.set_cons_succ, List.set_cons_zero]
          refine qw_want rfl ?_ (fun w' hw' => ?_) ?_
          rotate_left
          · unfold Oper.quietAt
            go_simp
            exact rfl
          simp only [Act.put, List.setIfInBounds_toArray, List.set_cons_succ, List.set_cons_zero]
          refine qw_want rfl ?_ (fun w' hw' => ?_) ?_
          rotate_left
          · unfold Oper.quietAt
            go_simp
            exact rfl
          simp only [Act.put, List.setIfInBounds_toArray, List.set_cons_succ, List.set_cons_zero]
          refine qw_want rfl ?_ (fun w' hw' => ?_) ?_
          rotate_left
          · unfold Oper.quietAt
            go_simp
            exact rfl
          simp only [Act.put, List.setIfInBounds_toArray, List.set_cons_succ, List.set_cons_zero]
          refine qw_want rfl ?_ (fun w' hw' => ?_) ?_
          rotate_left
          · unfold Oper.quietAt
            go_simp
            exact rfl
          simp only [Act.put, List.setIfInBounds_toArray, List.set_cons_succ, List.set_cons_zero]
          refine qw_want rfl ?_ (fun w' hw' => ?_) ?_
          rotate_left
          · obtain ⟨k0, k1, k2⟩ := HG.out w' hw'
            unfold Oper.quietAt
            go_simp
            exact rfl
          simp only [Act.put, List.setIfInBounds_toArray, List.set_cons_succ, List.set_cons_zero]
          refine qw_want rfl ?_ (fun w' hw' => ?_) ?_
          rotate_left
          · unfold Oper.quietAt
            go_simp
            exact rfl
          simp only [Act.put, List.setIfInBounds_toArray, List.set_cons_succ, List.set_cons_zero]
          refine qw_want rfl ?_ (fun w' hw' => ?_) ?_
          rotate_left
          · unfold Oper.quietAt
            go_simp
            exact rfl
          simp only [Act.put, List.setIfInBounds_toArray, List.set_cons_succ, List.set_cons_zero]
          refine qw_want rfl ?_ (fun w' hw' => ?_) ?_
          rotate_left
          · unfold Oper.quietAt
            go_simp
            exact rfl
          simp only [Act.put, List.setIfInBounds_toArray, List.set_cons_succ, List.set_cons_zero]
          refine qw_want rfl ?_ (fun w' hw' => ?_) ?_
          rotate_left
          · obtain ⟨k0, k1, k2⟩ := HG.out w' hw'
            unfold Oper.quietAt
            go_simp
            exact rfl
          simp only [Act.put, List.setIfInBounds_toArray, List.set_cons_succ, List.set_cons_zero]
          refine qw_want rfl (.int .i64 (q : Int)) (fun w' hw' => ?_) ?_
          · unfold Oper.quietAt
            go_simp
            refine (KN.out w').mono ?_
            rintro e w2 ⟨rfl, rfl⟩
            exact ⟨rfl, hw'⟩
          simp only [Act.put, List.setIfInBounds_toArray, List.set_cons_succ, List.set_cons_zero]
          refine qw_want rfl ?_ (fun w' hw' => ?_) ?_
          rotate_left
          · unfold Oper.quietAt
            go_simp
            exact rfl
          simp only [Act.put, List.setIfInBounds_toArray, List.set_cons_succ, List.set_cons_zero]
          refine qw_want rfl ?_ (fun w' hw' => ?_) ?_
          rotate_left
          · unfold Oper.quietAt
            go_simp
            exact rfl
          simp only [Act.put, List.setIfInBounds_toArray, List.set_cons_succ, List.set_cons_zero]
          refine qw_want rfl ?_ (fun w' hw' => ?_) ?_
          rotate_left
          · obtain ⟨k0, k1, k2⟩ := HG.out w' hw'
            unfold Oper.quietAt
            go_simp
            exact rfl
          simp only [Act.put, List.setIfInBounds_toArray, List.set_cons_succ, List.set_cons_zero]
          refine qw_want rfl ?_ (fun w' hw' => ?_) ?_
          rotate_left
          · unfold Oper.quietAt
            go_simp
            exact rfl
          simp only [Act.put, List.setIfInBounds_toArray, List.set_cons_succ, List.set_cons_zero]
          refine qw_want rfl ?_ (fun w' hw' => ?_) ?_
          rotate_left
          · unfold Oper.quietAt
            go_simp
            exact rfl
          simp only [Act.put, List.setIfInBounds_toArray, List.set_cons_succ, List.set_cons_zero]
          refine qw_end (fun w5 hb5 => ?_)
          go_wp2
          go_roundg gk
          case measure => omega
          case rel => exact ⟨i + 1, by omega, by go_num, HBW.out.trans (hb5.mono HBW.out.size), HBR.out.below hb5 HBR.out.lt, (HLI.out x HX1.out).2 HM.out⟩
end Go.Proofs.Ytbgbhfmchpdkcaa

/- ContainsFunc over rows of ints, by a predicate that makes memory. -/
import Derived.Test.YtlipnnibagidiaaGreatWrN
namespace Go.Proofs.YtlipnnibagidiaaGreat
theorem litT_facts {T : List Nd} {n : Nd} (h : n ∈ T) : 0 ≤ litT T n ∧ litT T n / 2 < T.length ∧ ndAt T (litT T n / 2) = n := by
  have hl := List.idxOf_lt_length_iff.2 h
  rw [litT_half.1]
  refine ⟨by unfold litT; omega, by omega, ?_⟩
  rw [ndAt_nat hl]
  simp
theorem at_of {T : List Nd} (h : Well T) {id : Int} (h0 : 0 ≤ id) (h1 : id < T.length) : Stands (ndAt T id) id := by
  obtain ⟨k, rfl⟩ : ∃ n : Nat, id = n := ⟨id.toNat, by omega⟩
  rw [ndAt_nat (by omega)]
  exact h.core.ok.st k _ (List.getElem?_eq_getElem (by omega))
theorem srt_and {T : List Nd} (h : Well T) {id : Int} (h0 : 0 ≤ id) (h1 : id < T.length) (ho : (ndAt T id).op = 2 ∨ (ndAt T id).op = 3) : (ndAt T id).sort = 0 ∧ (ndAt T (ndAt T id).a0).sort = 0 ∧ (ndAt T (ndAt T id).a1).sort = 0 := by
  have hr := h.srt _ (ndAt_mem h0 h1) (by omega)
  rcases ho with ho | ho
  all_goals
    rw [ho] at hr
    unfold opSort at hr
    simp at hr
    exact ⟨hr.2.symm, hr.1.1, hr.1.2⟩
theorem srt_eq {T : List Nd} (h : Well T) {id : Int} (h0 : 0 ≤ id) (h1 : id < T.length) (ho : (ndAt T id).op = 6) : (ndAt T id).sort = 0 ∧ (ndAt T (ndAt T id).a0).sort = (ndAt T (ndAt T id).a1).sort := by
  have hr := h.srt _ (ndAt_mem h0 h1) (by omega)
  rw [ho] at hr
  unfold opSort at hr
  simp at hr
  exact ⟨hr.2.symm, hr.1⟩
theorem srt_ite {T : List Nd} (h : Well T) {id : Int} (h0 : 0 ≤ id) (h1 : id < T.length) (ho : (ndAt T id).op = 7) : (ndAt T (ndAt T id).a0).sort = 0 ∧ (ndAt T (ndAt T id).a1).sort = (ndAt T id).sort ∧ (ndAt T (ndAt T id).a2).sort = (ndAt T id).sort := by
  have hr := h.srt _ (ndAt_mem h0 h1) (by omega)
  rw [ho] at hr
  unfold opSort at hr
  simp at hr
  exact ⟨hr.1.1, hr.2, by rw [← hr.1.2]; exact hr.2⟩
def InT (T : List Nd) (x : Int) : Prop := 0 ≤ x ∧ x / 2 < T.length
theorem InT.neg {T : List Nd} {x : Int} (h : InT T x) : InT T (negL x) := by
  obtain ⟨h1, h2, _⟩ := negL_facts h.1
  exact ⟨h1, by rw [h2]; exact h.2⟩
theorem litP_in {T : List Nd} (h : Well T) {id : Int} (h0 : 0 ≤ id) (h1 : id < T.length) (hs : (ndAt T id).sort = 0) : InT T (litP T id) := ⟨(litP_facts h h0 h1 hs).1, (litP_facts h h0 h1 hs).2.1⟩
end Go.Proofs.YtlipnnibagidiaaGreat
namespace Go.Proofs.YtlipnnibagidiaaGreat
open Go.RowKit Go.Lib
theorem Tab.wf {W : World} {A : Option Addr} {T : List Nd} (h : Tab W A T) {n : Nd} (hn : n ∈ T) : NdWf n := by
  obtain ⟨i, hi, rfl⟩ := List.getElem_of_mem hn
  obtain ⟨b, off, _, _, hc⟩ := h.at_.resolve_left (by omega)
  exact (hc i hi).wf
theorem fit_diff {T : List Nd} (h : Well T) {x y d : Int} (hn : diffNd x y d ∈ T) : x ≠ y := by
  have := h.core.fit _ hn
  unfold fitB diffNd at this
  simp at this
  exact this.1.1
theorem difW_diff {T : List Nd} (hw : Well T) (hT : T.length ≤ 1000000) {r c k : Nat} {A : Option Addr} {bad : Bool} (hc : T.length ≤ c) {a b : Int} (ha : Shd T a) (hb : Shd T b) (hm : mayI (difN T a b) = true) (hn : diffNd (baseT T a).1 (baseT T b).1 (difN T a b) ∈ T) : DifW 131 r c k A T bad a b (diffP T a b) := fun _ _ _ h =>
  wdiff_ok hc h (ordB_iff.2 hw.core.ord) a b _ _ _ ⟨ha.lo, by have := ha.hi; omega⟩ ⟨hb.lo, by have := hb.hi; omega⟩ (by rw [diffT_shd hw.core hw.sum ha hb, if_pos hm]) (fit_diff hw hn) (h.tab.wf hn) hn
theorem difW_same {T : List Nd} {r c k : Nat} {A : Option Addr} {bad : Bool} {a b : Int} (hn : eqNd (min a b) (max a b) ∈ T) : DifW 132 r c k A T bad a b (sameP T a b) := fun _ _ _ h => wsame_ok h a b (h.tab.wf hn) hn
theorem difN_neg {T : List Nd} {a b : Int} (h : mayI (difN T a b) = true) : mayI (difN T b a) = true := by
  rw [mayI_iff] at h ⊢
  unfold difN at h ⊢
  omega
set_option maxHeartbeats 1000000 in
theorem wwrite_ok {w : World} {r c k : Nat} {A : Option Addr} {T : List Nd} {ov : Value} {rows : List (Option Addr × Nat × List Int)} {bad : Bool} (hc : T.length ≤ c) (h : WrS w r A T c k ov rows bad) (hr9 : rows.length ≤ 890) (hw : Well T) (hI : IteOk T) (hT : T.length ≤ 1000000) (hk : k < T.length) :
    Calls Tryz.prog 46 #[.pointer (some ⟨r, 0, none⟩)] w fun e w' => e = .returned (.tuple #[]) ∧ WrP r c k A T rows bad w w' (clausesP T k) := by
  have h0 : (0 : Int) ≤ (k : Int) := by omega
  have h1 : (k : Int) < (T.length : Int) := by omega
  have hst := at_of hw h0 h1
  have nat : ∀ x : Int, 0 ≤ x ∧ x < (k : Int) → ∃ n : Nat, x = n ∧ n < T.length := fun x hx => ⟨x.toNat, by omega, by omega⟩
  unfold clausesP
  dsimp only
  by_cases o0 : (ndAt T k).op = 0
  · rw [if_pos o0]
    exact wwrite_0 h hk o0 fun W ov hW => wtruth_ok hW hr9 (by omega)
  rw [if_neg o0]
  by_cases o2 : (ndAt T k).op = 2
  · rw [if_pos o2]
    obtain ⟨s0, s1, s2⟩ := srt_and hw h0 h1 (.inl o2)
    obtain ⟨p, q⟩ := hst.two (.inr (.inr (.inl o2)))
    obtain ⟨a, ea, la⟩ := nat _ p
    obtain ⟨b, eb, lb⟩ := nat _ q
    rw [ea] at s1
    rw [eb] at s2
    rw [ea, eb]
    exact wwrite_2 h hk o2 fun W ov hW => wand_ok hc hW hr9 hw hT hk ea eb la lb s0 s1 s2
  rw [if_neg o2]
  by_cases o3 : (ndAt T k).op = 3
  · rw [if_pos o3]
    obtain ⟨s0, s1, s2⟩ := srt_and hw h0 h1 (.inr o3)
    obtain ⟨p, q⟩ := hst.two (.inr (.inr (.inr o3)))
    obtain ⟨a, ea, la⟩ := nat _ p
    obtain ⟨b, eb, lb⟩ := nat _ q
    rw [ea] at s1
    rw [eb] at s2
    rw [ea, eb]
    exact wwrite_3 h hk o3 fun W ov hW => wor_ok hc hW hr9 hw hT hk ea eb la lb s0 s1 s2
  rw [if_neg o3]
  by_cases o6 : (ndAt T k).op = 6
  · rw [if_pos o6]
    obtain ⟨s0, s1⟩ := srt_eq hw h0 h1 o6
    obtain ⟨p, q⟩ := hst.two (.inl o6)
    obtain ⟨a, ea, la⟩ := nat _ p
    obtain ⟨b, eb, lb⟩ := nat _ q
    rw [ea, eb] at s1
    rw [ea, eb]
    by_cases sa : (ndAt T a).sort = 0
    · rw [if_pos sa]
      exact wwrite_6 h hk o6 fun W ov hW => weq_ok hc hW hr9 hw hT hk ea eb la lb s0 sa (by rw [← s1]; exact sa)
    · rw [if_neg sa]
      exact wwrite_6 h hk o6 fun W ov hW => weq_none hW hk ea la sa
  rw [if_neg o6]
  by_cases o7 : (ndAt T k).op = 7
  · rw [if_pos o7]
    obtain ⟨s0, s1, s2⟩ := srt_ite hw h0 h1 o7
    have hl := hst.len_of (lo := 3) (by rw [o7]; decide)
    have p0 : 0 ≤ (ndAt T k).a0 ∧ (ndAt T k).a0 < k := hst.arg_lt 0 (by omega) (by rw [hl]; decide)
    have p1 : 0 ≤ (ndAt T k).a1 ∧ (ndAt T k).a1 < k := hst.arg_lt 1 (by omega) (by rw [hl]; decide)
    have p2 : 0 ≤ (ndAt T k).a2 ∧ (ndAt T k).a2 < k := hst.arg_lt 2 (by omega) (by rw [hl]; decide)
    obtain ⟨a, ea, la⟩ := nat _ p0
    obtain ⟨b, eb, lb⟩ := nat _ p1
    obtain ⟨d, ed, ld⟩ := nat _ p2
    have hget : T[k]? = some (ndAt T (k : Int)) := by rw [ndAt_nat hk]; exact List.getElem?_eq_getElem hk
    obtain ⟨k1, k2⟩ := hI k _ hget o7
    have nb := base_ne hw (i := (k : Int)) ⟨h0, h1⟩ o7 p1
    rw [ea] at s0
    rw [eb] at s1 k1
    rw [ed] at s2 k2
    rw [ea, eb, ed]
    by_cases t0 : (ndAt T k).sort = 0
    · rw [if_pos t0]
      exact wwrite_7 h hk o7 fun W ov hW => wite0_ok hc hW hr9 hw hT hk ea eb ed la lb ld t0 s0 (by rw [s1]; exact t0) (by rw [s2]; exact t0)
    rw [if_neg t0]
    by_cases t1 : (ndAt T k).sort = 1
    · rw [if_pos t1]
      obtain ⟨m1, m2, m3⟩ := k1.1 t1
      obtain ⟨m4, m5, m6⟩ := k2.1 t1
      have sk : Shd T (k : Int) := ⟨h0, h1, t1⟩
      have sb : Shd T (b : Int) := ⟨by omega, by omega, by rw [s1]; exact t1⟩
      have sd : Shd T (d : Int) := ⟨by omega, by omega, by rw [s2]; exact t1⟩
      have ps : ∀ x y, diffNd x y (difN T x y) ∈ T → 0 ≤ litT T (diffNd x y (difN T x y)) := fun x y hn => (litT_facts hn).1
      have e : (baseT T (k : Int)).1 = k := nb.1
      have n1 : diffNd (baseT T (k : Int)).1 (baseT T b).1 (difN T k b) ∈ T := by rw [e]; exact m2
      have n2 : diffNd (baseT T b).1 (baseT T (k : Int)).1 (difN T b k) ∈ T := by rw [e]; exact m3
      have n3 : diffNd (baseT T (k : Int)).1 (baseT T d).1 (difN T k d) ∈ T := by rw [e]; exact m5
      have n4 : diffNd (baseT T d).1 (baseT T (k : Int)).1 (difN T d k) ∈ T := by rw [e]; exact m6
      exact wwrite_7 h hk o7 fun W ov hW => wite1_ok hc hW hr9 hw hT hk ea eb ed la s0 t1
        (difW_diff hw hT hc sk sb m1 n1) (litT_facts n1).1 (difW_diff hw hT hc sb sk (difN_neg m1) n2) (litT_facts n2).1
        (difW_diff hw hT hc sk sd m4 n3) (litT_facts n3).1 (difW_diff hw hT hc sd sk (difN_neg m4) n4) (litT_facts n4).1
    · rw [if_neg t1]
      exact wwrite_7 h hk o7 fun W ov hW => wite2_ok hc hW hr9 hw hT hk ea eb ed la s0 rfl t0 t1 (difW_same (k1.2 t0 t1)) (litT_facts (k1.2 t0 t1)).1 (difW_same (k2.2 t0 t1)) (litT_facts (k2.2 t0 t1)).1
  rw [if_neg o7]
  have hf := hw.core.fit _ (ndAt_mem h0 h1)
  have ho : 0 ≤ (ndAt T k).op ∧ (ndAt T k).op ≤ 13 := by
    obtain ⟨lo, hi, ha, _⟩ := hst.ar
    unfold arityM at ha
    by_cases hn : 0 ≤ (ndAt T k).op ∧ (ndAt T k).op ≤ 13
    · exact hn
    · rw [if_neg (by omega), if_neg (by omega), if_neg (by omega), if_neg (by omega), if_neg (by omega)] at ha
      cases ha
  have n4 : ¬ ((ndAt T k).op = 4 ∨ (ndAt T k).op = 5 ∨ (ndAt T k).op = 8 ∨ (ndAt T k).op = 9) := fun e => by
    unfold fitB at hf
    rw [if_pos e] at hf
    cases hf
  rcases (show (ndAt T k).op = 1 ∨ (ndAt T k).op = 10 ∨ (ndAt T k).op = 11 ∨ (ndAt T k).op = 12 ∨ (ndAt T k).op = 13 by omega) with o | o | o | o | o
  · exact wwrite_1 h hk o
  · exact wwrite_10 h hk o
  · exact wwrite_11 h hk o
  · exact wwrite_12 h hk o
  · exact wwrite_13 h hk o
def ShOfIs (T : List Nd) (k : Nat) (w : World) (e : Ending) (w' : World) : Prop :=
  ∃ v rows, e = .returned (.tuple #[v, .int .i64 0]) ∧ GridV (fun b => w.heap.size ≤ b) w' v rows ∧ rows.map (fun r => r.2.2) = shapeP T k ∧ Below w.heap.size w w'
set_option maxRecDepth 100000 in
set_option maxHeartbeats 2000000 in
theorem shof_ok {T : List Nd} {w : World} {A : Option Addr} (c : Nat) (hc : T.length ≤ c) (h : Tab w A T) (hw : Well T) (hI : IteOk T) (k : Nat) (hk : k < T.length) :
    Calls Tryz.prog 17 #[.agg #[.slice A T.length c], .int .i64 (k : Nat)] w (ShOfIs T k w) := by
  have hlen := h.len
  have HB0 : Hid (Below w.heap.size w (w.alloc (.cells #[.slice A T.length c] 33))) := Lib.hid ((Below.refl _ w).alloc (Nat.le_refl _) _)
  have HT0 := Lib.hid (Blk.new w 33 #[.slice A T.length c])
  have KC := Lib.hid (check_ok c hc (h.below HB0.out))
  have KW := Lib.hid (fun (W : World) (r : Nat) (hW : WrS W r A T c k (.slice none 0 0) [] false) => wwrite_ok hc hW (by simp) hw hI (by omega) hk)
  have HS := Lib.hid (fun (W : World) (r : Nat) (hW : Below w.heap.size w W) (hB : Blk W r 92 #[.slice A T.length c, .int .i64 k, .slice none 0 0, .bool false]) (hr : w.heap.size ≤ r) =>
    show WrS W r A T c k (.slice none 0 0) [] false from ⟨hB, World.ownsRow_nil _ _ _ _, fun q hq => (by cases hq), h.below hW, (fun b e h0 => by
      obtain ⟨b2, off, hA, hb, _⟩ := h.at_.resolve_left (by omega)
      rw [hA] at e
      injection e with e
      rw [← e]
      exact Nat.lt_of_lt_of_le hb hr), by simp⟩)
  have HTo := Lib.hid hw.core.ok
  have x0 := HT0.out.cell 0
  simp only [List.getElem?_toArray, List.getElem?_cons_zero] at x0
  have dk : decide ((k : Int) < 0) = false := by simp
  have dk2 : decide ((k : Int) ≥ (T.length : Int)) = false := by simp; omega
  have dk3 : decide (T.length ≤ k) = false := by simp; omega
  clear hc h hw hI hk
  go_enter Tryz.func17, Tryz.ntmps17
  go_wp2_with fail
  refine KC.out.mono ?_
  rintro e w1 ⟨rr, rfl, hr, hb⟩
  obtain rfl : rr = true := hr.2 HTo.out
  have HB1 := Lib.hid (HB0.out.trans (hb.mono HB0.out.size))
  have HT1 := Lib.hid (HT0.out.below hb HT0.out.lt)
  have x1 := HT1.out.cell 0
  simp only [List.getElem?_toArray, List.getElem?_cons_zero] at x1
  clear hr hb x0 KC
  go_wp2_with fail
  have HB2 := Lib.hid (HB1.out.alloc HB1.out.size (.cells #[.slice A T.length c, .int .i64 k, .slice none 0 0, .bool false] 92))
  have HW2 := Lib.hid (HS.out _ _ HB2.out (Blk.new w1 _ _) HB1.out.size)
  refine (KW.out _ _ HW2.out).mono ?_
  rintro e w3 ⟨rfl, ov, ps, h3, hp, hb3⟩
  obtain ⟨A3, cap3, rfl⟩ : ∃ A3 cap3, ov = .slice A3 ps.length cap3 := by
    obtain ⟨A3, cap3, e, _⟩ := (GridV.of_own (N := fun _ => True) h3.own (h3.rn.mono (fun _ _ _ => trivial)) (fun _ _ => trivial) (by have := h3.len; omega)).form
    exact ⟨A3, cap3, e⟩
  have y2 : w3.cell? ⟨w1.heap.size, 2, none⟩ = some (.slice A3 ps.length cap3) := h3.blk.cell 2
  have y3 : w3.cell? ⟨w1.heap.size, 3, none⟩ = some (.bool false) := h3.blk.cell 3
  have H3 := Lib.hid h3
  have HP := Lib.hid hp
  have HB3 := Lib.hid hb3
  clear h3 hp hb3 x1
  go_wp2
  refine bodyPost_ret (v := .tuple #[.slice A3 ps.length cap3, .int .i64 0]) (by simp [results, Tryz.results17, go_sem]) rfl ?_
  have hle : w.heap.size ≤ w1.heap.size := HB1.out.size
  refine ⟨_, ps, rfl, GridV.of_own H3.out.own (H3.out.rn.mono (fun b _ hN => by have := hN.1; omega)) (fun b hb => by omega) (by have := H3.out.len; simp at this; omega), by rw [HP.out]; rfl, HB2.out.trans (HB3.out.mono hle)⟩
set_option maxRecDepth 100000 in
set_option maxHeartbeats 2000000 in
theorem shcount_ok {T : List Nd} {w : World} {A : Option Addr} (c : Nat) (hc : T.length ≤ c) (h : Tab w A T) (hw : Well T) (hI : IteOk T) (k : Nat) (hk : k < T.length) :
    Calls Tryz.prog 20 #[.agg #[.slice A T.length c], .int .i64 (k : Nat)] w fun e w' => e = .returned (.int .i64 ((shapeP T k).length : Nat)) ∧ Below w.heap.size w w' := by
  have HB0 : Hid (Below w.heap.size w (w.alloc (.cells #[.slice A T.length c] 33))) := Lib.hid ((Below.refl _ w).alloc (Nat.le_refl _) _)
  have HT0 := Lib.hid (Blk.new w 33 #[.slice A T.length c])
  have KO := Lib.hid (shof_ok c hc (h.below HB0.out) hw hI k hk)
  have x0 := HT0.out.cell 0
  simp only [List.getElem?_toArray, List.getElem?_cons_zero] at x0
  clear hc h hw hI hk
  go_enter Tryz.func20, Tryz.ntmps20
  go_wp2_with fail
  refine KO.out.mono ?_
  rintro e w1 ⟨v, rows, rfl, hg, hm, hb⟩
  obtain ⟨A1, cap1, rfl, _⟩ := hg.form
  have HB1 := Lib.hid (HB0.out.trans (hb.mono HB0.out.size))
  have HL : Hid ((shapeP T k).length = rows.length) := Lib.hid (by rw [← hm, List.length_map])
  clear hg hm hb x0
  go_wp2
  refine bodyPost_ret (v := .int .i64 (rows.length : Nat)) (by simp [results, Tryz.results20, go_sem]) rfl ?_
  rw [HL.out]
  exact ⟨rfl, HB1.out⟩
set_option maxHeartbeats 1000000 in
theorem gindex_ok {N : Nat → Prop} {w : World} {B : Option Addr} {L : List (Option Addr × Nat × List Int)} (cap : Nat) (g : Nat) (lb : Array Value) (p : Option Addr × Nat × List Int → Bool) (eg : ∀ args w, (callFunc g args).run Tryz.prog w = .ok (.enter g args) w) (h0 : GridV N w (.slice B L.length cap) L)
    (hp : ∀ W x, x ∈ L → Below w.heap.size w W → Calls Tryz.prog g (#[encR x] ++ lb) W fun e w' => e = .returned (.bool (p x)) ∧ Below W.heap.size W w') :
    Calls Tryz.prog 86 #[.slice B L.length cap, .func (.func g) #[] lb] w fun e w' => ∃ r : Int, e = .returned (.int .i64 r) ∧ (0 ≤ r ↔ L.any p = true) ∧ Below w.heap.size w w' := by
  have hlen := h0.len
  have HP := Lib.hid hp
  have H0 := Lib.hid h0
  clear hp h0
  go_enter Tryz.func86, Tryz.ntmps86
  go_wp2
  go_loopg [8] L.length (fun g v wr => ∃ i : Nat, i + g = L.length ∧ v = .int .i64 i ∧ Below w.heap.size w wr ∧ (L.any p = true ↔ (L.drop i).any p = true))
  case atStart => exact ⟨0, by omega, rfl, Below.refl _ _, Iff.rfl⟩
  case round =>
    obtain ⟨i, hig, rfl, hi, hinv⟩ := hrel
    have HW := Lib.hid hi
    have HV := Lib.hid hinv
    clear hi hinv
    cases gk with
    | zero =>
      obtain rfl : i = L.length := by omega
      have d1 : decide ((L.length : Int) < L.length) = false := by simp
      have HN : Hid ((0 : Int) ≤ -1 ↔ L.any p = true) := Lib.hid ⟨fun h => by omega, fun h => by have := HV.out.1 h; rw [List.drop_length] at this; cases this⟩
      go_wp2
      go_ret
      exact ⟨_, rfl, HN.out, HW.out⟩
    | succ gk =>
      have hlt : i < L.length := by omega
      have d1 : decide ((i : Int) < L.length) = true := by simp; omega
      have t1 : (0 : Int) ≤ (i : Int) := by omega
      have t2 : (i : Int) < (L.length : Int) := by omega
      obtain ⟨A0, cap0, hV, _, _, hat⟩ := H0.out.form
      injection hV with hV1 hV2 hV3
      subst hV1 hV3
      obtain ⟨b, off, hA, _, hbb, hcell⟩ := hat.resolve_left (by omega)
      have y0 : wr.cell? ⟨b, off + i, none⟩ = some (encR L[i]) := by rw [HW.out.cell (p := ⟨b, off + i, none⟩) hbb]; exact hcell i hlt
      have KP := Lib.hid (HP.out wr L[i] (List.getElem_mem hlt) HW.out)
      have HD := Lib.hid (show (L.drop i).any p = (p L[i] || (L.drop (i + 1)).any p) by rw [List.drop_eq_getElem_cons hlt, List.any_cons])
      subst hA
      clear hcell
      generalize L[i] = x at *
      clear hV2
      unfold encR at y0 KP
      obtain ⟨r, hr⟩ : ∃ r, p x = r := ⟨_, rfl⟩
      rw [hr] at KP HD
      clear hr
      go_wp2_with fail
      refine KP.out.mono ?_
      rintro e w2 ⟨rfl, h2⟩
      have H2 := Lib.hid (HW.out.trans (h2.mono HW.out.size))
      clear h2 y0
      cases r with
      | true =>
        have HN : Hid ((0 : Int) ≤ (i : Int) ↔ L.any p = true) := Lib.hid ⟨fun _ => HV.out.2 (by rw [HD.out]; rfl), fun _ => by omega⟩
        go_wp2
        go_ret
        exact ⟨_, rfl, HN.out, H2.out⟩
      | false =>
        go_wp2
        go_roundg gk
        case measure => omega
        case rel => exact ⟨i + 1, by omega, by go_num, H2.out, by rw [HV.out, HD.out]; simp⟩
theorem gcontains_ok {N : Nat → Prop} {w : World} {B : Option Addr} {L : List (Option Addr × Nat × List Int)} (cap : Nat) (g : Nat) (lb : Array Value) (p : Option Addr × Nat × List Int → Bool) (eg : ∀ args w, (callFunc g args).run Tryz.prog w = .ok (.enter g args) w) (h0 : GridV N w (.slice B L.length cap) L)
    (hp : ∀ W x, x ∈ L → Below w.heap.size w W → Calls Tryz.prog g (#[encR x] ++ lb) W fun e w' => e = .returned (.bool (p x)) ∧ Below W.heap.size W w') :
    Calls Tryz.prog 48 #[.slice B L.length cap, .func (.func g) #[] lb] w fun e w' => e = .returned (.bool (L.any p)) ∧ Below w.heap.size w w' := by
  have KI := Lib.hid (gindex_ok cap g lb p eg h0 hp)
  obtain ⟨bb, hbb⟩ : ∃ bb, L.any p = bb := ⟨_, rfl⟩
  have HBB := Lib.hid hbb
  rw [hbb]
  clear hp h0 hbb eg
  go_enter Tryz.func48, Tryz.ntmps48
  go_wp2_with fail
  refine KI.out.mono ?_
  rintro e w2 ⟨r, rfl, hr, hk⟩
  have HK := Lib.hid hk
  have d0 : decide (0 ≤ r) = bb := by
    rw [← HBB.out, Bool.eq_iff_iff, decide_eq_true_iff]
    exact hr
  clear hk hr
  go_wp2
  go_ret
  exact ⟨by rw [← d0]; rfl, HK.out⟩
end Go.Proofs.YtlipnnibagidiaaGreat

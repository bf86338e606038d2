/- A node's sort, what a Bool node is. -/
import Derived.Test.YtkapbdjobfbhhaaGreatEuE
namespace Go.Proofs.YtkapbdjobfbhhaaGreat
open Go.RowKit Go.Lib
structure TabP (w : World) (q : Nat) (A : Option Addr) (c : Nat) (T : List Nd) : Prop where
  blk : Blk w q 33 #[.slice A T.length c]
  tab : Tab w A T
  cap : T.length ≤ c
theorem TabP.below {w w' : World} {q : Nat} {A : Option Addr} {c : Nat} {T : List Nd} (h : TabP w q A c T) (hb : Below w.heap.size w w') : TabP w' q A c T := ⟨h.blk.below hb h.blk.lt, h.tab.below hb, h.cap⟩
theorem TabP.box {w : World} {A : Option Addr} {c : Nat} {T : List Nd} (h : Tab w A T) (hc : T.length ≤ c) : TabP (w.alloc (.cells #[.slice A T.length c] 33)) w.heap.size A c T :=
  ⟨Blk.new w _ _, h.below ((Below.refl _ w).alloc (Nat.le_refl _) _), hc⟩
theorem sortM_out {T : List Nd} {x : Int} (h : x < 0 ∨ (T.length : Int) ≤ x) : sortM T x = -1 := by
  unfold sortM
  split
  · rfl
  · rw [List.getElem?_eq_none (by omega)]
theorem sortM_in {T : List Nd} {i : Nat} (h : i < T.length) : sortM T i = T[i].sort := by
  unfold sortM
  rw [if_neg (by omega), Int.toNat_natCast, List.getElem?_eq_getElem h]
theorem int_cases {T : List Nd} (x : Int) : (x < 0) ∨ (0 ≤ x ∧ (T.length : Int) ≤ x) ∨ ∃ i : Nat, x = i ∧ i < T.length := by
  by_cases h : x < 0
  · exact .inl h
  · by_cases h2 : (T.length : Int) ≤ x
    · exact .inr (.inl ⟨by omega, h2⟩)
    · exact .inr (.inr ⟨x.toNat, by omega, by omega⟩)
theorem sort_ok {w : World} {q : Nat} {A : Option Addr} {c : Nat} {T : List Nd} (h : TabP w q A c T) (x : Int) :
    Calls Tryz.prog 43 #[.pointer (some ⟨q, 0, none⟩), .int .i64 x] w fun e w' => e = .returned (.int .i64 (sortM T x)) ∧ w = w' := by
  have c0 := h.blk.cell 0
  simp only [List.getElem?_toArray, List.getElem?_cons_zero] at c0
  have hq := h.blk.lt
  have HT := Lib.hid h.tab
  clear h
  rcases int_cases (T := T) x with h0 | ⟨h0, h1⟩ | ⟨i, rfl, hi⟩
  · have d0 : decide (x < 0) = true := decide_eq_true h0
    rw [sortM_out (.inl h0)]
    clear h0
    go_enter Tryz.func43, Tryz.ntmps43
    go_wp2
    go_ret
    exact ⟨rfl, rfl⟩
  · have d0 : decide (x < 0) = false := decide_eq_false (by omega)
    have d1 : decide ((T.length : Int) ≤ x) = true := decide_eq_true h1
    rw [sortM_out (.inr h1)]
    clear h0 h1
    go_enter Tryz.func43, Tryz.ntmps43
    go_wp2
    go_ret
    exact ⟨rfl, rfl⟩
  · have d0 : decide ((i : Int) < 0) = false := decide_eq_false (by omega)
    have d1 : decide ((T.length : Int) ≤ (i : Int)) = false := decide_eq_false (by omega)
    have d2 : decide (T.length ≤ i) = false := decide_eq_false (by omega)
    obtain ⟨b, off, hA, hbb, hcell⟩ := HT.out.at_.resolve_left (by omega)
    subst hA
    obtain ⟨_, _, _, _, _, y5, _, _⟩ := (hcell i hi).all
    rw [sortM_in hi]
    generalize T[i].sort = s at *
    have t1 : (0 : Int) ≤ (i : Int) := by omega
    have t2 : (i : Int) < (T.length : Int) := by omega
    clear hcell
    go_enter Tryz.func43, Tryz.ntmps43
    go_wp2
    go_ret
    exact ⟨rfl, rfl⟩
theorem rsort_ok {w : World} {A : Option Addr} {c : Nat} {T : List Nd} (h : Tab w A T) (x : Int) :
    Calls Tryz.prog 14 #[.agg #[.slice A T.length c], .int .i64 x] w fun e w' => e = .returned (.int .i64 (sortM T x)) ∧ Below w.heap.size w w' := by
  have HT := Lib.hid h
  have HB := Lib.hid (show Below w.heap.size w (w.alloc (.cells #[.slice A T.length c] 33)) from (Below.refl _ w).alloc (Nat.le_refl _) _)
  clear h
  rcases int_cases (T := T) x with h0 | ⟨h0, h1⟩ | ⟨i, rfl, hi⟩
  · have d0 : decide (x < 0) = true := decide_eq_true h0
    rw [sortM_out (.inl h0)]
    clear h0
    go_enter Tryz.func14, Tryz.ntmps14
    go_wp2
    go_ret
    exact ⟨rfl, HB.out⟩
  · have d0 : decide (x < 0) = false := decide_eq_false (by omega)
    have d1 : decide ((T.length : Int) ≤ x) = true := decide_eq_true h1
    rw [sortM_out (.inr h1)]
    clear h0 h1
    go_enter Tryz.func14, Tryz.ntmps14
    go_wp2
    go_ret
    exact ⟨rfl, HB.out⟩
  · have d0 : decide ((i : Int) < 0) = false := decide_eq_false (by omega)
    have d1 : decide ((T.length : Int) ≤ (i : Int)) = false := decide_eq_false (by omega)
    have d2 : decide (T.length ≤ i) = false := decide_eq_false (by omega)
    obtain ⟨b, off, hA, hbb, hcell⟩ := HT.out.at_.resolve_left (by omega)
    subst hA
    obtain ⟨_, _, _, _, _, y5, _, _⟩ := ((hcell i hi).below HB.out).all
    rw [sortM_in hi]
    generalize T[i].sort = s at *
    have t1 : (0 : Int) ≤ (i : Int) := by omega
    have t2 : (i : Int) < (T.length : Int) := by omega
    clear hcell
    go_enter Tryz.func14, Tryz.ntmps14
    go_wp2
    go_ret
    exact ⟨rfl, HB.out⟩
theorem kindM_no {T : List Nd} {x : Int} (h : ¬ sortM T x = 0) : kindM T x = 0 := by unfold kindM; rw [if_pos h]
theorem kindM_op {T : List Nd} {i : Nat} (hi : i < T.length) (h : T[i].sort = 0) (ho : ¬ T[i].op = 6) : kindM T i = kindOp T[i].op := by
  unfold kindM
  rw [if_neg (by rw [sortM_in hi]; simpa using h), Int.toNat_natCast, List.getElem?_eq_getElem hi]
  simp only
  rw [if_neg ho]
theorem kindM_eq {T : List Nd} {i : Nat} (hi : i < T.length) (h : T[i].sort = 0) (ho : T[i].op = 6) : kindM T i = kindEq (sortM T T[i].a0) := by
  unfold kindM
  rw [if_neg (by rw [sortM_in hi]; simpa using h), Int.toNat_natCast, List.getElem?_eq_getElem hi]
  simp only
  rw [if_pos ho]
theorem kindOp_far {op : Int} (h : op < 0 ∨ 13 < op) : kindOp op = 0 := by
  unfold kindOp
  repeat' split
  all_goals first | rfl | (exfalso; omega)
theorem kindEq_cases (s : Int) : (s = 0 ∧ kindEq s = 3) ∨ (s = 1 ∧ kindEq s = 5) ∨ (2 ≤ s ∧ kindEq s = 4) ∨ (s < 0 ∧ kindEq s = 0) := by
  unfold kindEq
  by_cases h0 : s = 0
  · rw [if_pos h0]; omega
  by_cases h1 : s = 1
  · rw [if_neg h0, if_pos h1]; omega
  by_cases h2 : 2 ≤ s
  · rw [if_neg h0, if_neg h1, if_pos h2]; omega
  · rw [if_neg h0, if_neg h1, if_neg h2]; omega
def KindIs (T : List Nd) (x : Int) (w : World) (e : Ending) (w' : World) : Prop := e = .returned (.int .i8 (kindM T x)) ∧ Below w.heap.size w w'
set_option maxRecDepth 100000 in
set_option maxHeartbeats 4000000 in
theorem kind_ok {w : World} {A : Option Addr} {c : Nat} {T : List Nd} (h : Tab w A T) (hc : T.length ≤ c) (x : Int) :
    Calls Tryz.prog 47 #[.agg #[.slice A T.length c], .int .i64 x] w (KindIs T x w) := by
  have HP := Lib.hid (TabP.box h hc)
  have HT := Lib.hid h
  have HB := Lib.hid (show Below w.heap.size w (w.alloc (.cells #[.slice A T.length c] 33)) from (Below.refl _ w).alloc (Nat.le_refl _) _)
  have KS := Lib.hid (fun y => sort_ok (TabP.box h hc) y)
  clear h hc
  by_cases hs : sortM T x = 0
  rotate_left
  · have b0 : (sortM T x != 0) = true := by simp [hs]
    have HK := Lib.hid (kindM_no hs)
    clear hs
    go_enter Tryz.func47, Tryz.ntmps47
    go_wp2_with (go_at_call 43; refine (KS.out x).mono ?_; rintro e w1 ⟨rfl, rfl⟩)
    go_ret
    exact ⟨by rw [HK.out]; rfl, HB.out⟩
  rcases int_cases (T := T) x with h0 | ⟨h0, h1⟩ | ⟨i, rfl, hi⟩
  · rw [sortM_out (.inl h0)] at hs; cases hs
  · rw [sortM_out (.inr h1)] at hs; cases hs
  have KS0 := Lib.hid (show Calls Tryz.prog 43 #[.pointer (some ⟨w.heap.size, 0, none⟩), .int .i64 (i : Int)] (w.alloc (.cells #[.slice A T.length c] 33)) (fun e w' => e = .returned (.int .i64 0) ∧ (w.alloc (.cells #[.slice A T.length c] 33)) = w') from by
    have := KS.out i
    rwa [hs] at this)
  rw [sortM_in hi] at hs
  obtain ⟨b, off, hA, hbb, hcell⟩ := HT.out.at_.resolve_left (by omega)
  subst hA
  have hn := (hcell i hi).below HB.out
  have HN := Lib.hid hn
  obtain ⟨y0, _, y2, _, _, _, _, _⟩ := hn.all
  have hwf := hn.wf.op
  have KA := Lib.hid (KS.out T[i].a0)
  have HE := Lib.hid (kindM_eq hi hs)
  have HO := Lib.hid (kindM_op hi hs)
  have t1 : (0 : Int) ≤ (i : Int) := by omega
  have t2 : (i : Int) < (T.length : Int) := by omega
  have c0 := HP.out.blk.cell 0
  have hbx := HP.out.blk.lt
  simp only [List.getElem?_toArray, List.getElem?_cons_zero] at c0
  clear hcell hn hs
  generalize T[i] = n at *
  have hbc : ∀ cs t, Below w.heap.size w ((w.alloc (.cells #[.slice (some ⟨b, off, none⟩) T.length c] 33)).alloc (.cells cs t)) := fun cs t => HB.out.alloc (by simp) _
  have HBC := Lib.hid hbc
  clear hbc
  by_cases h6 : n.op = 6
  · have b1 : (n.op != 6) = false := by simp [h6]
    have HK := Lib.hid (HE.out h6)
    clear h6 hwf
    obtain ⟨sv, hsv⟩ : ∃ sv, sortM T n.a0 = sv := ⟨_, rfl⟩
    have HSV := Lib.hid hsv
    rw [hsv] at HK
    clear hsv
    have hb2 : b < w.heap.size + 1 := by omega
    rcases kindEq_cases sv with ⟨g, e⟩ | ⟨g, e⟩ | ⟨g, e⟩ | ⟨g, e⟩
    · subst g
      have HKE := Lib.hid (HK.out.trans e)
      clear e
      go_enter Tryz.func47, Tryz.ntmps47
      go_wp2_with fail
      refine KS0.out.mono ?_
      rintro e w1 ⟨rfl, rfl⟩
      go_wp2_with fail
      refine (sort_ok (HP.out.below ((Below.refl _ _).alloc (Nat.le_refl _) _)) n.a0).mono ?_
      rintro e w2 ⟨rfl, rfl⟩
      rw [HSV.out]
      go_wp2
      go_ret
      exact ⟨by rw [HKE.out]; rfl, HBC.out _ _⟩
    · subst g
      have HKE := Lib.hid (HK.out.trans e)
      clear e
      go_enter Tryz.func47, Tryz.ntmps47
      go_wp2_with fail
      refine KS0.out.mono ?_
      rintro e w1 ⟨rfl, rfl⟩
      go_wp2_with fail
      refine (sort_ok (HP.out.below ((Below.refl _ _).alloc (Nat.le_refl _) _)) n.a0).mono ?_
      rintro e w2 ⟨rfl, rfl⟩
      rw [HSV.out]
      go_wp2
      go_ret
      exact ⟨by rw [HKE.out]; rfl, HBC.out _ _⟩
    · have g0 : (sv == 0) = false := by simp; omega
      have g1 : (sv == 1) = false := by simp; omega
      have g2 : decide (2 ≤ sv) = true := decide_eq_true g
      have HKE := Lib.hid (HK.out.trans e)
      clear e g
      go_enter Tryz.func47, Tryz.ntmps47
      go_wp2_with fail
      refine KS0.out.mono ?_
      rintro e w1 ⟨rfl, rfl⟩
      go_wp2_with fail
      refine (sort_ok (HP.out.below ((Below.refl _ _).alloc (Nat.le_refl _) _)) n.a0).mono ?_
      rintro e w2 ⟨rfl, rfl⟩
      rw [HSV.out]
      go_wp2
      go_ret
      exact ⟨by rw [HKE.out]; rfl, HBC.out _ _⟩
    · have g0 : (sv == 0) = false := by simp; omega
      have g1 : (sv == 1) = false := by simp; omega
      have g2 : decide (2 ≤ sv) = false := decide_eq_false (by omega)
      have HKE := Lib.hid (HK.out.trans e)
      clear e g
      go_enter Tryz.func47, Tryz.ntmps47
      go_wp2_with fail
      refine KS0.out.mono ?_
      rintro e w1 ⟨rfl, rfl⟩
      go_wp2_with fail
      refine (sort_ok (HP.out.below ((Below.refl _ _).alloc (Nat.le_refl _) _)) n.a0).mono ?_
      rintro e w2 ⟨rfl, rfl⟩
      rw [HSV.out]
      go_wp2
      go_ret
      exact ⟨by rw [HKE.out]; rfl, HBC.out _ _⟩
  · have b1 : (n.op != 6) = true := by simp [h6]
    have HK := Lib.hid (HO.out h6)
    have hb2 : b < w.heap.size + 1 := by omega
    by_cases q0 : n.op < 0
    · have g0 := decide_eq_true q0
      have HKE := Lib.hid (HK.out.trans (kindOp_far (.inl q0)))
      clear q0 h6
      go_enter Tryz.func47, Tryz.ntmps47
      go_wp2_with fail
      refine KS0.out.mono ?_
      rintro e w1 ⟨rfl, rfl⟩
      go_wp2
      go_ret
      exact ⟨by rw [HKE.out]; rfl, HBC.out _ _⟩
    have g0 := decide_eq_false q0
    by_cases q1 : 13 < n.op
    · have g1 : decide (14 ≤ n.op) = true := decide_eq_true (by omega)
      have q2 := hwf.2
      have HKE := Lib.hid (HK.out.trans (kindOp_far (.inr q1)))
      clear q0 h6 hwf
      go_enter Tryz.func47, Tryz.ntmps47
      go_wp2_with fail
      refine KS0.out.mono ?_
      rintro e w1 ⟨rfl, rfl⟩
      go_wp2
      go_ret
      exact ⟨by rw [HKE.out]; rfl, HBC.out _ _⟩
    have hc : n.op = 0 ∨ n.op = 1 ∨ n.op = 2 ∨ n.op = 3 ∨ n.op = 4 ∨ n.op = 5 ∨ n.op = 7 ∨ n.op = 8 ∨ n.op = 9 ∨ n.op = 10 ∨ n.op = 11 ∨ n.op = 12 ∨ n.op = 13 := by omega
    obtain ⟨ov, hov⟩ : ∃ ov, n.op = ov := ⟨_, rfl⟩
    rw [hov] at hc HK y0
    clear b1 g0 q0 q1 h6 hwf hov
    rcases hc with rfl | rfl | rfl | rfl | rfl | rfl | rfl | rfl | rfl | rfl | rfl | rfl | rfl
    all_goals
      go_enter Tryz.func47, Tryz.ntmps47
      go_wp2_with fail
      refine KS0.out.mono ?_
      rintro e w1 ⟨rfl, rfl⟩
      go_wp2
      go_ret
      exact ⟨by rw [HK.out]; rfl, HBC.out _ _⟩
end Go.Proofs.YtkapbdjobfbhhaaGreat

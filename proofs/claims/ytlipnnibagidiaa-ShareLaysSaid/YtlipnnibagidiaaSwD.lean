/- At most: offset.Le, in a table that is in order. -/
import Derived.Test.YtlipnnibagidiaaTaA
import Derived.Test.YtlipnnibagidiaaTaC
import Derived.Test.YtlipnnibagidiaaSwC
namespace Go.Proofs.Ytlipnnibagidiaa
open Go.RowKit

def In64 (x : Int) : Prop := -9223372036854775808 ≤ x ∧ x ≤ 9223372036854775807
theorem ndAt_wf {T : List Nd} (h : ∀ n ∈ T, NdWf n) (i : Int) : NdWf (ndAt T i) := by
  unfold ndAt
  split
  · exact ⟨by decide, by decide, fun j => by unfold Nd.arg; split <;> (try split) <;> decide, by decide, by decide, by decide⟩
  · rw [List.getD_eq_getElem?_getD]
    cases hi : T[i.toNat]? with
    | none => exact ⟨by decide, by decide, fun j => by unfold Nd.arg; split <;> (try split) <;> decide, by decide, by decide, by decide⟩
    | some n => exact h n (List.mem_of_getElem? hi)
theorem ofT_in {T : List Nd} (h : ∀ n ∈ T, NdWf n) {i : Int} (hi : In64 i) : In64 (ofT T i).b := by
  unfold ofT
  split
  · split
    · unfold baseT
      split
      · exact (ndAt_wf h i).arg 0
      · split
        · show In64 1; unfold In64; decide
        · exact hi
    · show In64 0; unfold In64; decide
  · show In64 0; unfold In64; decide
theorem sumD_may {c m n : Int} (h : (sumD c m n).2 = 0) : mayI (sumD c m n).1 = true := by
  unfold sumD stepA at h ⊢
  split at h
  · rename_i h1
    rw [if_pos h1]
    unfold addN at h ⊢
    split at h
    · rename_i h2
      rw [if_pos h2]
      rw [Bool.and_eq_true] at h2
      exact h2.2
    · cases h
  · rename_i h1
    exact absurd h h1
theorem may_in {x : Int} (h : mayI x = true) : In64 x := by
  have := mayI_iff.1 h
  unfold In64
  omega
theorem diffT_in {T : List Nd} (h : ∀ n ∈ T, NdWf n) {a b : Int} (ha : In64 a) (hb : In64 b) {c : Int} (he : (diffT T a b c).e = 0) : In64 (diffT T a b c).x ∧ In64 (diffT T a b c).y ∧ In64 (diffT T a b c).d := by
  rw [diffT_sum] at he ⊢
  by_cases h1 : (ofT T a).e ≠ 0
  · rw [if_pos h1] at he
    exact absurd he h1
  rw [if_neg h1] at he ⊢
  by_cases h2 : (ofT T b).e ≠ 0
  · rw [if_pos h2] at he
    exact absurd he h2
  rw [if_neg h2] at he ⊢
  by_cases h3 : (sumD c (ofT T a).n (ofT T b).n).2 ≠ 0
  · rw [if_pos h3] at he
    exact absurd he h3
  rw [if_neg h3]
  exact ⟨ofT_in h ha, ofT_in h hb, may_in (sumD_may (by omega))⟩
theorem diffT_pos {T : List Nd} {a b c : Int} (he : (diffT T a b c).e = 0) : 0 < T.length := by
  rw [diffT_sum] at he
  by_cases h1 : (ofT T a).e ≠ 0
  · rw [if_pos h1] at he
    exact absurd he h1
  unfold ofT at h1
  split at h1
  · rename_i h2
    simp only [Bool.and_eq_true, decide_eq_true_eq] at h2
    omega
  · exact absurd (by decide) h1
theorem in0 : In64 0 := by unfold In64; decide
theorem diffNd_wf {x y d : Int} (hx : In64 x) (hy : In64 y) (hd : In64 d) : NdWf (diffNd x y d) := by
  refine ⟨?_, ?_, fun j => ?_, ?_, ?_, hd⟩
  · show (-128 : Int) ≤ 12 ∧ (12 : Int) ≤ 127; decide
  · show (-128 : Int) ≤ 2 ∧ (2 : Int) ≤ 127; decide
  · unfold Nd.arg diffNd
    split
    · exact hx
    · split
      · exact hy
      · exact in0
  · exact in0
  · exact in0
theorem notNd_wf : NdWf (notNd 0) := ⟨by decide, by decide, fun j => by unfold Nd.arg notNd; split <;> (try split) <;> decide, by decide, by decide, by decide⟩

def leR (T : List Nd) (most : Int) (p : DiffR) : LeR :=
  if p.e ≠ 0 then ⟨[], 0, false, p.e⟩ else
  if p.x ≠ p.y then ⟨(putT T (diffNd p.x p.y p.d) most).T, (putT T (diffNd p.x p.y p.d) most).id, decide ((putT T (diffNd p.x p.y p.d) most).e = 0), (putT T (diffNd p.x p.y p.d) most).e⟩
  else if 0 ≤ p.d then ⟨T, 0, false, 0⟩
  else ⟨(putT T (notNd 0) most).T, (putT T (notNd 0) most).id, false, (putT T (notNd 0) most).e⟩
theorem leT_R (T : List Nd) (a b c most : Int) : leT T a b c most = leR T most (diffT T a b c) := rfl
def LeIs (A : Option Addr) (T : List Nd) (r : LeR) (w : World) (e : Ending) (w' : World) : Prop :=
  ∃ A' c, e = .returned (.tuple #[.agg #[.slice A' r.T.length c], .int .i64 r.id, .bool r.is, .int .i64 r.e]) ∧ Tab w' A' r.T ∧ r.T.length ≤ c ∧ Fr A T w A' ∧ Below w.heap.size w w'
set_option maxRecDepth 100000 in
set_option maxHeartbeats 4000000 in
theorem le_ok {T : List Nd} {w : World} {A : Option Addr} (k : Nat) (a b c most : Int) (ha : In64 a) (hb : In64 b) (hk : T.length ≤ k) (h : Tab w A T) (hl : T.length < 100000) (ho : TabOk T → ordB T = true) :
    Calls Try.prog 30 #[.agg #[.slice A T.length k], .int .i64 a, .int .i64 b, .int .i64 c, .int .i64 most] w (LeIs A T (leT T a b c most) w) := by
  obtain ⟨w0, hw0⟩ : ∃ w0, w0 = (w.alloc (.cells #[.slice A T.length k] 24)).alloc (.cells #[.slice none 0 0] 24) := ⟨_, rfl⟩
  have HS0 : Hid (w0.heap.size = w.heap.size + 2) := Lib.hid (by rw [hw0]; simp)
  have HBT : Hid (Blk w0 w.heap.size 24 #[.slice A T.length k]) := Lib.hid (by rw [hw0]; exact (Blk.new w _ _).alloc _)
  have HBR : Hid (Blk w0 (w.heap.size + 1) 24 #[.slice none 0 0]) := Lib.hid (by rw [hw0]; have := Blk.new (w.alloc (.cells #[.slice A T.length k] 24)) 24 #[.slice none 0 0]; rw [World.size_alloc] at this; exact this)
  have HB0 : Hid (Below w.heap.size w w0) := Lib.hid (by rw [hw0]; exact ((Below.refl _ w).alloc (Nat.le_refl _) _).alloc (by simp) _)
  have KD := Lib.hid (fun (W : World) (hw : Below w.heap.size w W) => diff_ok k a b c ha hb hk (h.below hw) ho)
  have KP := Lib.hid (fun (W : World) (hw : Below w.heap.size w W) (n : Nd) (hn : NdWf n) => tput_ok k n hn most hk (h.below hw) hl)
  have HIN := Lib.hid (fun he => diffT_in h.wfs ha hb (c := c) he)
  have HG := Lib.hid (leT_R T a b c most)
  have HLE := Lib.hid (fun (he : (diffT T a b c).e = 0) => diffT_pos he)
  have H := Lib.hid h
  have HK := Lib.hid hk
  clear h ho hk ha hb hl
  go_enter Try.func30, Try.ntmps30
  go_wp2_with fail
  rw [← hw0]
  refine (KD.out _ HB0.out).mono ?_
  rintro e w1 ⟨rfl, hb⟩
  generalize diffT T a b c = p at *
  obtain ⟨x, y, d, e⟩ := p
  have l0 : w.heap.size < w0.heap.size := by have := HS0.out; omega
  have l1 : w.heap.size + 1 < w0.heap.size := by have := HS0.out; omega
  have HT1 := Lib.hid (HBT.out.below hb l0)
  have HR1 := Lib.hid (HBR.out.below hb l1)
  have HB1 : Hid (Below w.heap.size w w1) := Lib.hid (HB0.out.trans (hb.mono (Nat.le_of_lt l0)))
  have a0 := HT1.out.cell 0
  have b0 := HR1.out.cell 0
  have f0 := HR1.out.frozen 0
  simp only [List.getElem?_toArray, List.getElem?_cons_zero] at a0 b0
  clear hb hw0 l0 l1
  by_cases t1 : e = 0
  · subst t1
    have hin := HIN.out rfl
    have HPos := Lib.hid (HLE.out rfl)
    by_cases t2 : x = y
    · have d2 : (x == y) = true := by simp [t2]
      by_cases t3 : 0 ≤ d
      · have d3 := decide_eq_true t3
        have HS : Hid (leT T a b c most = ⟨T, 0, false, 0⟩) := Lib.hid (by rw [HG.out]; simp [leR, t2, t3])
        clear t3 hin t2
        go_wp2
        refine bodyPost_ret (v := .tuple #[.agg #[.slice A T.length k], .int .i64 0, .bool false, .int .i64 0]) ?_ rfl ?_
        · have c1 := (HR1.out.set_ 0 (.slice A T.length k)).cell 0
          simp only [List.getElem?_toArray, List.getElem?_cons_zero, List.setIfInBounds_toArray, List.set_cons_zero] at c1
          simp [results, Try.results30, go_sem, c1]
        · rw [HS.out]
          have h4 := HB1.out.setCell (p := ⟨w.heap.size + 1, 0, none⟩) (by simp) (.slice A T.length k)
          exact ⟨_, k, rfl, H.out.below h4, HK.out, fun b e => .inl ⟨e, HPos.out⟩, h4⟩
      · have d3 := decide_eq_false t3
        have HS : Hid (leT T a b c most = ⟨(putT T (notNd 0) most).T, (putT T (notNd 0) most).id, false, (putT T (notNd 0) most).e⟩) := Lib.hid (by rw [HG.out]; simp [leR, t2, t3])
        clear t3 hin t2
        go_wp2_with fail
        refine (KP.out _ HB1.out (notNd 0) notNd_wf).mono ?_
        rintro e w2 ⟨A2, c2, rfl, ht, hc2, hf, hb⟩
        generalize putT T (notNd 0) most = r at *
        obtain ⟨T', id', e'⟩ := r
        have HT2 := Lib.hid ht
        have HC2 := Lib.hid hc2
        have HF2 : Hid (∀ b, A2 = some b → b.block ≠ w.heap.size + 1) := Lib.hid (fun b e => by
          rcases hf b e with ⟨e1, h0⟩ | h1
          · have := Tab.lt (e1 ▸ H.out) h0
            omega
          · have := HR1.out.lt
            omega)
        have HF3 : Hid (Fr A T w A2) := Lib.hid (fun b e => (hf b e).imp id fun h1 => Nat.le_trans HB1.out.size h1)
        have HB2 := Lib.hid (HB1.out.trans (hb.mono HB1.out.size))
        have HR2 := Lib.hid ((HR1.out.below hb HR1.out.lt).alloc (.cells #[.slice A2 T'.length c2] 24))
        have b1 := HR2.out.cell 0
        have f1 := HR2.out.frozen 0
        simp only [List.getElem?_toArray, List.getElem?_cons_zero] at b1
        clear ht hc2 hf hb
        go_wp2
        refine bodyPost_ret (v := .tuple #[.agg #[.slice A2 T'.length c2], .int .i64 id', .bool false, .int .i64 e']) ?_ rfl ?_
        · have c1 := (HR2.out.set_ 0 (.slice A2 T'.length c2)).cell 0
          simp only [List.getElem?_toArray, List.getElem?_cons_zero, List.setIfInBounds_toArray, List.set_cons_zero] at c1
          simp [results, Try.results30, go_sem, c1]
        · rw [HS.out]
          exact ⟨A2, c2, rfl, (HT2.out.alloc _).kept1 (Kept.set1 _ (w.heap.size + 1) 0 _) HF2.out, HC2.out, HF3.out, (HB2.out.alloc HB2.out.size _).setCell (by simp) _⟩
    · have d2 : (x == y) = false := by simp [t2]
      have HS : Hid (leT T a b c most = ⟨(putT T (diffNd x y d) most).T, (putT T (diffNd x y d) most).id, decide ((putT T (diffNd x y d) most).e = 0), (putT T (diffNd x y d) most).e⟩) := Lib.hid (by rw [HG.out]; simp [leR, t2])
      clear t2
      go_wp2_with fail
      refine (KP.out _ HB1.out (diffNd x y d) (diffNd_wf hin.1 hin.2.1 hin.2.2)).mono ?_
      rintro e w2 ⟨A2, c2, rfl, ht, hc2, hf, hb⟩
      generalize putT T (diffNd x y d) most = r at *
      obtain ⟨T', id', e'⟩ := r
      have HT2 := Lib.hid ht
      have HC2 := Lib.hid hc2
      have HF2 : Hid (∀ b, A2 = some b → b.block ≠ w.heap.size + 1) := Lib.hid (fun b e => by
        rcases hf b e with ⟨e1, h0⟩ | h1
        · have := Tab.lt (e1 ▸ H.out) h0
          omega
        · have := HR1.out.lt
          omega)
      have HF3 : Hid (Fr A T w A2) := Lib.hid (fun b e => (hf b e).imp id fun h1 => Nat.le_trans HB1.out.size h1)
      have HB2 := Lib.hid (HB1.out.trans (hb.mono HB1.out.size))
      have HR2 := Lib.hid ((HR1.out.below hb HR1.out.lt).alloc (.cells #[.slice A2 T'.length c2] 24))
      have b1 := HR2.out.cell 0
      have f1 := HR2.out.frozen 0
      simp only [List.getElem?_toArray, List.getElem?_cons_zero] at b1
      clear ht hc2 hf hb hin
      go_wp2
      refine bodyPost_ret (v := .tuple #[.agg #[.slice A2 T'.length c2], .int .i64 id', .bool (decide (e' = 0)), .int .i64 e']) ?_ rfl ?_
      · have c1 := (HR2.out.set_ 0 (.slice A2 T'.length c2)).cell 0
        simp only [List.getElem?_toArray, List.getElem?_cons_zero, List.setIfInBounds_toArray, List.set_cons_zero] at c1
        simp [results, Try.results30, go_sem, c1]
        rfl
      · rw [HS.out]
        exact ⟨A2, c2, rfl, (HT2.out.alloc _).kept1 (Kept.set1 _ (w.heap.size + 1) 0 _) HF2.out, HC2.out, HF3.out, (HB2.out.alloc HB2.out.size _).setCell (by simp) _⟩
  · have d1 : (e == 0) = false := by simp [t1]
    have HS : Hid (leT T a b c most = ⟨[], 0, false, e⟩) := Lib.hid (by rw [HG.out]; simp [leR, t1])
    clear t1
    go_wp2
    refine bodyPost_ret (v := .tuple #[.agg #[.slice none 0 0], .int .i64 0, .bool false, .int .i64 e]) ?_ rfl ?_
    · have c1 := (HR1.out.set_ 0 (.slice none 0 0)).cell 0
      simp only [List.getElem?_toArray, List.getElem?_cons_zero, List.setIfInBounds_toArray, List.set_cons_zero] at c1
      simp [results, Try.results30, go_sem, c1]
    · rw [HS.out]
      exact ⟨none, 0, rfl, ⟨by simp, .inl rfl⟩, Nat.le_refl _, Fr.none, HB1.out.setCell (by simp) _⟩
end Go.Proofs.Ytlipnnibagidiaa

/- An equality; a layer keeps what a put came to. -/
namespace Go.Proofs.Ytlipnnibagidiaa
open Go.RowKit

set_option maxRecDepth 100000 in
theorem equality_ok (w : World) (x y : Int) : Calls Try.prog 18 #[.int .i64 x, .int .i64 y] w fun e w' => e = .returned (nodeVal (eqNd x y)) ∧ Below w.heap.size w w' := by
  have HB0 := Lib.hid (show Below w.heap.size w (w.alloc (.cells (nodeCells (eqNd x y)).toArray 36)) from (Below.refl _ w).alloc (Nat.le_refl _) _)
  have HBN := Lib.hid (show Blk (w.alloc (.cells (nodeCells (eqNd x y)).toArray 36)) w.heap.size 36 (nodeCells (eqNd x y)).toArray from Blk.new w _ _)
  simp only [nodeCells, eqNd] at HB0 HBN
  go_enter Try.func18, Try.ntmps18
  go_wp2
  refine bodyPost_ret (v := nodeVal (eqNd x y)) ?_ rfl ⟨rfl, HB0.out⟩
  have n0 := HBN.out.cell 0
  have n1 := HBN.out.cell 1
  have n2 := HBN.out.cell 2
  have n3 := HBN.out.cell 3
  have n4 := HBN.out.cell 4
  have n5 := HBN.out.cell 5
  have n6 := HBN.out.cell 6
  have n7 := HBN.out.cell 7
  simp only [List.getElem?_toArray, List.getElem?_cons_zero, List.getElem?_cons_succ] at n0 n1 n2 n3 n4 n5 n6 n7
  simp [results, Try.results18, go_sem, n0, n1, n2, n3, n4, n5, n6, n7, nodeVal, nodeCells, eqNd]

structure LayAt (w : World) (l : Nat) (A : Option Addr) (n c : Nat) (most e : Int) : Prop where
  blk : Blk w l 44 #[.slice A n c, .int .i64 most, .int .i64 e]
set_option maxRecDepth 100000 in
theorem keep_ok {w : World} {l : Nat} {A : Option Addr} {n c : Nat} {most e0 : Int} (h : LayAt w l A n c most e0) (A' : Option Addr) (n' c' : Nat) (e : Int) :
    Calls Try.prog 19 #[.pointer (some ⟨l, 0, none⟩), .agg #[.slice A' n' c'], .int .i64 e] w fun r w' => r = .returned (.tuple #[]) ∧
      (if e = 0 then LayAt w' l A' n' c' most 0 else LayAt w' l A n c most e) ∧ Kept (fun b => b = l) w w' := by
  have hb1 := h.blk.alloc (.cells #[.slice A' n' c'] 24)
  have HB1 := Lib.hid hb1
  have HK := Lib.hid (show Kept (fun b => b = l) w (w.alloc (.cells #[.slice A' n' c'] 24)) from (Kept.refl _ w).alloc _)
  have hlt := h.blk.lt
  have f0 := hb1.frozen 0
  have f2 := hb1.frozen 2
  have c0 := hb1.cell 0
  have c2 := hb1.cell 2
  simp only [List.getElem?_toArray, List.getElem?_cons_zero, List.getElem?_cons_succ] at c0 c2
  have HBW := Lib.hid h.blk
  have hb2 := (h.blk.set_ 2 (.int .i64 e)).alloc (.cells #[.slice A' n' c'] 24)
  simp only [List.setIfInBounds_toArray, List.set_cons_zero, List.set_cons_succ] at hb2
  have HB2 := Lib.hid hb2
  have HK2 := Lib.hid ((Kept.set1 w l 2 (.int .i64 e)).alloc (.cells #[.slice A' n' c'] 24))
  have f02 := hb2.frozen 0
  have c02 := hb2.cell 0
  simp only [List.getElem?_toArray, List.getElem?_cons_zero, List.getElem?_cons_succ] at c02
  clear h hb1 hb2
  by_cases t : e = 0
  · subst t
    go_enter Try.func19, Try.ntmps19
    go_wp2
    refine bodyPost_end (results_none rfl _ _ _) rfl ⟨rfl, ?_, ((Kept.set1 w l 2 (.int .i64 0)).setCell (.inl rfl) _).alloc _⟩
    exact ⟨((HBW.out.set_ 2 (.int .i64 0)).set_ 0 (.slice A' n' c')).alloc _⟩
  · have d : (e == 0) = false := by simp [t]
    go_enter Try.func19, Try.ntmps19
    go_wp2
    refine bodyPost_end (results_none rfl _ _ _) rfl ⟨rfl, ?_, HK2.out⟩
    exact ⟨HB2.out⟩
end Go.Proofs.Ytlipnnibagidiaa

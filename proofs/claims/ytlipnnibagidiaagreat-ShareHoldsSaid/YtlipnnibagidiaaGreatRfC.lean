/- The document's differences: gantryref11.Diff. -/
import Derived.Test.YtlipnnibagidiaaGreatRfA
namespace Go.Proofs.YtlipnnibagidiaaGreat
open Go.RowKit Go.Lib
def DiffIs (r : DiffR) (w : World) (e : Ending) (w' : World) : Prop := e = .returned (.tuple #[.int .i64 r.x, .int .i64 r.y, .int .i64 r.d, .int .i64 r.e]) ∧ Below w.heap.size w w'
def sumD (c m n : Int) : Int × Int := stepA (stepS c 0 m).1 (stepS c 0 m).2 n
theorem diffT_sum (T : List Nd) (a b c : Int) : diffT T a b c = if (ofT T a).e ≠ 0 then ⟨0, 0, 0, (ofT T a).e⟩ else if (ofT T b).e ≠ 0 then ⟨0, 0, 0, (ofT T b).e⟩ else if (sumD c (ofT T a).n (ofT T b).n).2 ≠ 0 then ⟨0, 0, 0, (sumD c (ofT T a).n (ofT T b).n).2⟩ else ⟨(ofT T a).b, (ofT T b).b, (sumD c (ofT T a).n (ofT T b).n).1, 0⟩ := by
  unfold diffT sumD stepA stepS
  simp only [if_true]
  by_cases h : (subN c (ofT T a).n).2 = 0
  · simp [h]
  · simp [h]
set_option maxRecDepth 100000 in
set_option maxHeartbeats 4000000 in
theorem diff_ok {T : List Nd} {w : World} {A : Option Addr} (k : Nat) (a b c : Int) (ha : -9223372036854775808 ≤ a ∧ a ≤ 9223372036854775807) (hb : -9223372036854775808 ≤ b ∧ b ≤ 9223372036854775807) (hk : T.length ≤ k) (h : Tab w A T) (ho : TabOk T → ordB T = true) :
    Calls Tryz.prog 91 #[.agg #[.slice A T.length k], .int .i64 a, .int .i64 b, .int .i64 c] w (DiffIs (diffT T a b c) w) := by
  have HB0 := zzh (show Below w.heap.size w (w.alloc (.cells #[.slice A T.length k] 33)) from (Below.refl _ w).alloc (Nat.le_refl _) _)
  have HBL := zzh (show Blk (w.alloc (.cells #[.slice A T.length k] 33)) w.heap.size 33 #[.slice A T.length k] from Blk.new w _ _)
  have HL1 : Hid (w.heap.size < (w.alloc (.cells #[.slice A T.length k] 33)).heap.size) := zzh (by simp)
  have KA := zzh (fun (W : World) (hw : Below w.heap.size w W) => of_ok k a ha hk (h.below hw) ho)
  have KB := zzh (fun (W : World) (hw : Below w.heap.size w W) => of_ok k b hb hk (h.below hw) ho)
  have HD := zzh (diffT_sum T a b c)
  clear h ho hk ha hb
  go_enter Tryz.func91, Tryz.ntmps91
  go_wp2_with fail
  refine (KA.out _ HB0.out).mono ?_
  rintro e w1 ⟨rfl, hb⟩
  generalize ofT T a = p at *
  obtain ⟨p1, p2, p3⟩ := p
  have c0 := (HBL.out.below hb HL1.out).cell 0
  simp only [zzg, zzi] at c0
  have HB1 : Hid (Below w.heap.size w w1) := zzh (HB0.out.trans (hb.mono (Nat.le_of_lt HL1.out)))
  have HBL1 := zzh (HBL.out.below hb HL1.out)
  clear hb
  by_cases t1 : p3 = 0
  · subst t1
    go_wp2_with fail
    refine (KB.out _ HB1.out).mono ?_
    rintro e w2 ⟨rfl, hb⟩
    generalize ofT T b = q at *
    obtain ⟨q1, q2, q3⟩ := q
    have HB2 : Hid (Below w.heap.size w w2) := zzh (HB1.out.trans (hb.mono HB1.out.size))
    clear hb
    by_cases t2 : q3 = 0
    · subst t2
      have HSM := zzh (show Blk (w2.alloc (.cells #[.int .i64 c, .int .i64 0] 184)) w2.heap.size 184 #[.int .i64 c, .int .i64 0] from Blk.new w2 _ _)
      have HB3 := zzh (HB2.out.alloc HB2.out.size (.cells #[.int .i64 c, .int .i64 0] 184))
      have HS : Hid (diffT T a b c = if (sumD c p2 q2).2 ≠ 0 then ⟨0, 0, 0, (sumD c p2 q2).2⟩ else ⟨p1, q1, (sumD c p2 q2).1, 0⟩) := zzh (by rw [HD.out]; simp)
      go_wp2_with fail
      refine (ssub_ok c 0 p2 HSM.out).mono ?_
      rintro e w3 ⟨rfl, hs, hk3⟩
      have HS3 := zzh hs
      have HB4 := zzh (HB3.out.trans (hk3.below (B := w.heap.size) HB3.out.size (fun k e => by have := HB2.out.size; omega)))
      clear hs hk3
      go_wp2_with fail
      refine (sadd_ok _ _ q2 HS3.out).mono ?_
      rintro e w4 ⟨rfl, hs, hk4⟩
      have HS4 := zzh (show Blk w4 w2.heap.size 184 #[.int .i64 (sumD c p2 q2).1, .int .i64 (sumD c p2 q2).2] from hs)
      have HB5 := zzh (HB4.out.trans (hk4.below (B := w.heap.size) HB4.out.size (fun k e => by have := HB2.out.size; omega)))
      clear hs hk4
      have s0 := HS4.out.cell 0
      have s1 := HS4.out.cell 1
      simp only [zzg, zzi, zzj] at s0 s1
      generalize sumD c p2 q2 = z at *
      obtain ⟨z1, z2⟩ := z
      by_cases t3 : z2 = 0
      · subst t3
        go_wp2
        go_quiet (fail)
        go_wp2
        refine bodyPost_ret (v := .tuple #[.int .i64 p1, .int .i64 q1, .int .i64 z1, .int .i64 0]) (by simp [results, Tryz.results91, go_sem]) rfl ?_
        rw [HS.out, if_neg (by simp)]
        exact ⟨rfl, below_drewN HB5.out _⟩
      · have d3 : (z2 == 0) = false := by simp [t3]
        have HS' : Hid (diffT T a b c = ⟨0, 0, 0, z2⟩) := zzh (by rw [HS.out, if_pos t3])
        clear t3
        go_wp2
        go_quiet (fail)
        go_wp2
        refine bodyPost_ret (v := .tuple #[.int .i64 0, .int .i64 0, .int .i64 0, .int .i64 z2]) (by simp [results, Tryz.results91, go_sem]) rfl ?_
        rw [HS'.out]
        exact ⟨rfl, below_drewN HB5.out _⟩
    · have d2 : (q3 == 0) = false := by simp [t2]
      have HS : Hid (diffT T a b c = ⟨0, 0, 0, q3⟩) := zzh (by rw [HD.out]; simp [t2])
      clear t2
      go_wp2
      refine bodyPost_ret (v := .tuple #[.int .i64 0, .int .i64 0, .int .i64 0, .int .i64 q3]) (by simp [results, Tryz.results91, go_sem]) rfl ?_
      rw [HS.out]
      exact ⟨rfl, HB2.out⟩
  · have d1 : (p3 == 0) = false := by simp [t1]
    have HS : Hid (diffT T a b c = ⟨0, 0, 0, p3⟩) := zzh (by rw [HD.out]; simp [t1])
    clear t1
    go_wp2
    refine bodyPost_ret (v := .tuple #[.int .i64 0, .int .i64 0, .int .i64 0, .int .i64 p3]) (by simp [results, Tryz.results91, go_sem]) rfl ?_
    rw [HS.out]
    exact ⟨rfl, HB1.out⟩
def In64 (x : Int) : Prop := -9223372036854775808 ≤ x ∧ x ≤ 9223372036854775807
theorem ndAt_wf {T : List Nd} (h : ∀ n ∈ T, NdWf n) (i : Int) : NdWf (ndAt T i) := by
  unfold ndAt
  split
  · exact ⟨by decide, by decide, fun j => by unfold Nd.arg; split <;> (try split) <;> decide, by decide, by decide, by decide⟩
  · rw [List.getD_eq_getElem?_getD]
    cases hi : T[i.toNat]? with
    | none => exact ⟨by decide, by decide, fun j => by unfold Nd.arg; split <;> (try split) <;> decide, by decide, by decide, by decide⟩
    | some n => exact h n (List.mem_of_getElem? hi)
theorem ofT_in {T : List Nd} (h : ∀ n ∈ T, NdWf n) {i : Int} (hi : In64 i) : In64 (ofT T i).b := by
  unfold ofT
  split
  · split
    · unfold baseT
      split
      · exact (ndAt_wf h i).arg 0
      · split
        · show In64 1; unfold In64; decide
        · exact hi
    · show In64 0; unfold In64; decide
  · show In64 0; unfold In64; decide
theorem sumD_may {c m n : Int} (h : (sumD c m n).2 = 0) : mayI (sumD c m n).1 = true := by
  unfold sumD stepA at h ⊢
  split at h
  · rename_i h1
    rw [if_pos h1]
    unfold addN at h ⊢
    split at h
    · rename_i h2
      rw [if_pos h2]
      rw [Bool.and_eq_true] at h2
      exact h2.2
    · cases h
  · rename_i h1
    exact absurd h h1
theorem may_in {x : Int} (h : mayI x = true) : In64 x := by
  have := mayI_iff.1 h
  unfold In64
  omega
theorem diffT_in {T : List Nd} (h : ∀ n ∈ T, NdWf n) {a b : Int} (ha : In64 a) (hb : In64 b) {c : Int} (he : (diffT T a b c).e = 0) : In64 (diffT T a b c).x ∧ In64 (diffT T a b c).y ∧ In64 (diffT T a b c).d := by
  rw [diffT_sum] at he ⊢
  by_cases h1 : (ofT T a).e ≠ 0
  · rw [if_pos h1] at he
    exact absurd he h1
  rw [if_neg h1] at he ⊢
  by_cases h2 : (ofT T b).e ≠ 0
  · rw [if_pos h2] at he
    exact absurd he h2
  rw [if_neg h2] at he ⊢
  by_cases h3 : (sumD c (ofT T a).n (ofT T b).n).2 ≠ 0
  · rw [if_pos h3] at he
    exact absurd he h3
  rw [if_neg h3]
  exact ⟨ofT_in h ha, ofT_in h hb, may_in (sumD_may (by omega))⟩
theorem diffT_pos {T : List Nd} {a b c : Int} (he : (diffT T a b c).e = 0) : 0 < T.length := by
  rw [diffT_sum] at he
  by_cases h1 : (ofT T a).e ≠ 0
  · rw [if_pos h1] at he
    exact absurd he h1
  unfold ofT at h1
  split at h1
  · rename_i h2
    simp only [Bool.and_eq_true, decide_eq_true_eq] at h2
    omega
  · exact absurd (by decide) h1
theorem in0 : In64 0 := by unfold In64; decide
theorem diffNd_wf {x y d : Int} (hx : In64 x) (hy : In64 y) (hd : In64 d) : NdWf (diffNd x y d) := by
  refine ⟨?_, ?_, fun j => ?_, ?_, ?_, hd⟩
  · show (-128 : Int) ≤ 12 ∧ (12 : Int) ≤ 127; decide
  · show (-128 : Int) ≤ 2 ∧ (2 : Int) ≤ 127; decide
  · unfold Nd.arg diffNd
    split
    · exact hx
    · split
      · exact hy
      · exact in0
  · exact in0
  · exact in0
theorem notNd_wf : NdWf (notNd 0) := ⟨by decide, by decide, fun j => by unfold Nd.arg notNd; split <;> (try split) <;> decide, by decide, by decide, by decide⟩
def leR (T : List Nd) (most : Int) (p : DiffR) : LeR :=
  if p.e ≠ 0 then ⟨[], 0, false, p.e⟩ else
  if p.x ≠ p.y then ⟨(putT T (diffNd p.x p.y p.d) most).T, (putT T (diffNd p.x p.y p.d) most).id, decide ((putT T (diffNd p.x p.y p.d) most).e = 0), (putT T (diffNd p.x p.y p.d) most).e⟩
  else if 0 ≤ p.d then ⟨T, 0, false, 0⟩
  else ⟨(putT T (notNd 0) most).T, (putT T (notNd 0) most).id, false, (putT T (notNd 0) most).e⟩
theorem leT_R (T : List Nd) (a b c most : Int) : leT T a b c most = leR T most (diffT T a b c) := rfl
def LeIs (A : Option Addr) (T : List Nd) (r : LeR) (w : World) (e : Ending) (w' : World) : Prop :=
  ∃ A' c, e = .returned (.tuple #[.agg #[.slice A' r.T.length c], .int .i64 r.id, .bool r.is, .int .i64 r.e]) ∧ Tab w' A' r.T ∧ r.T.length ≤ c ∧ Fr A T w A' ∧ Below w.heap.size w w'
set_option maxRecDepth 100000 in
set_option maxHeartbeats 4000000 in
theorem le_ok {T : List Nd} {w : World} {A : Option Addr} (k : Nat) (a b c most : Int) (ha : In64 a) (hb : In64 b) (hk : T.length ≤ k) (h : Tab w A T) (hl : T.length < 100000) (ho : TabOk T → ordB T = true) :
    Calls Tryz.prog 92 #[.agg #[.slice A T.length k], .int .i64 a, .int .i64 b, .int .i64 c, .int .i64 most] w (LeIs A T (leT T a b c most) w) := by
  obtain ⟨w0, hw0⟩ : ∃ w0, w0 = (w.alloc (.cells #[.slice A T.length k] 33)).alloc (.cells #[.slice none 0 0] 33) := ⟨_, rfl⟩
  have HS0 : Hid (w0.heap.size = w.heap.size + 2) := zzh (by rw [hw0]; simp)
  have HBT : Hid (Blk w0 w.heap.size 33 #[.slice A T.length k]) := zzh (by rw [hw0]; exact (Blk.new w _ _).alloc _)
  have HBR : Hid (Blk w0 (w.heap.size + 1) 33 #[.slice none 0 0]) := zzh (by rw [hw0]; have := Blk.new (w.alloc (.cells #[.slice A T.length k] 33)) 33 #[.slice none 0 0]; rw [World.size_alloc] at this; exact this)
  have HB0 : Hid (Below w.heap.size w w0) := zzh (by rw [hw0]; exact ((Below.refl _ w).alloc (Nat.le_refl _) _).alloc (by simp) _)
  have KD := zzh (fun (W : World) (hw : Below w.heap.size w W) => diff_ok k a b c ha hb hk (h.below hw) ho)
  have KP := zzh (fun (W : World) (hw : Below w.heap.size w W) (n : Nd) (hn : NdWf n) => tput_ok k n hn most hk (h.below hw) hl)
  have HIN := zzh (fun he => diffT_in h.wfs ha hb (c := c) he)
  have HG := zzh (leT_R T a b c most)
  have HLE := zzh (fun (he : (diffT T a b c).e = 0) => diffT_pos he)
  have H := zzh h
  have HK := zzh hk
  clear h ho hk ha hb hl
  go_enter Tryz.func92, Tryz.ntmps92
  go_wp2_with fail
  rw [← hw0]
  refine (KD.out _ HB0.out).mono ?_
  rintro e w1 ⟨rfl, hb⟩
  generalize diffT T a b c = p at *
  obtain ⟨x, y, d, e⟩ := p
  have l0 : w.heap.size < w0.heap.size := by have := HS0.out; omega
  have l1 : w.heap.size + 1 < w0.heap.size := by have := HS0.out; omega
  have HT1 := zzh (HBT.out.below hb l0)
  have HR1 := zzh (HBR.out.below hb l1)
  have HB1 : Hid (Below w.heap.size w w1) := zzh (HB0.out.trans (hb.mono (Nat.le_of_lt l0)))
  have a0 := HT1.out.cell 0
  have b0 := HR1.out.cell 0
  have f0 := HR1.out.frozen 0
  simp only [zzg, zzi] at a0 b0
  clear hb hw0 l0 l1
  by_cases t1 : e = 0
  · subst t1
    have hin := HIN.out rfl
    have HPos := zzh (HLE.out rfl)
    by_cases t2 : x = y
    · have d2 : (x == y) = true := by simp [t2]
      by_cases t3 : 0 ≤ d
      · have d3 := decide_eq_true t3
        have HS : Hid (leT T a b c most = ⟨T, 0, false, 0⟩) := zzh (by rw [HG.out]; simp [leR, t2, t3])
        clear t3 hin t2
        go_wp2
        refine bodyPost_ret (v := .tuple #[.agg #[.slice A T.length k], .int .i64 0, .bool false, .int .i64 0]) ?_ rfl ?_
        · have c1 := (HR1.out.set_ 0 (.slice A T.length k)).cell 0
          simp only [zzg, zzi, zza, zzb] at c1
          simp [results, Tryz.results92, go_sem, c1]
        · rw [HS.out]
          have h4 := HB1.out.setCell (p := ⟨w.heap.size + 1, 0, none⟩) (by simp) (.slice A T.length k)
          exact ⟨_, k, rfl, H.out.below h4, HK.out, fun b e => .inl ⟨e, HPos.out⟩, h4⟩
      · have d3 := decide_eq_false t3
        have HS : Hid (leT T a b c most = ⟨(putT T (notNd 0) most).T, (putT T (notNd 0) most).id, false, (putT T (notNd 0) most).e⟩) := zzh (by rw [HG.out]; simp [leR, t2, t3])
        clear t3 hin t2
        go_wp2_with fail
        refine (KP.out _ HB1.out (notNd 0) notNd_wf).mono ?_
        rintro e w2 ⟨A2, c2, rfl, ht, hc2, hf, hb⟩
        generalize putT T (notNd 0) most = r at *
        obtain ⟨T', id', e'⟩ := r
        have HT2 := zzh ht
        have HC2 := zzh hc2
        have HF2 : Hid (∀ b, A2 = some b → b.block ≠ w.heap.size + 1) := zzh (fun b e => by
          rcases hf b e with ⟨e1, h0⟩ | h1
          · have := Tab.lt (e1 ▸ H.out) h0
            omega
          · have := HR1.out.lt
            omega)
        have HF3 : Hid (Fr A T w A2) := zzh (fun b e => (hf b e).imp id fun h1 => Nat.le_trans HB1.out.size h1)
        have HB2 := zzh (HB1.out.trans (hb.mono HB1.out.size))
        have HR2 := zzh ((HR1.out.below hb HR1.out.lt).alloc (.cells #[.slice A2 T'.length c2] 33))
        have b1 := HR2.out.cell 0
        have f1 := HR2.out.frozen 0
        simp only [zzg, zzi] at b1
        clear ht hc2 hf hb
        go_wp2
        refine bodyPost_ret (v := .tuple #[.agg #[.slice A2 T'.length c2], .int .i64 id', .bool false, .int .i64 e']) ?_ rfl ?_
        · have c1 := (HR2.out.set_ 0 (.slice A2 T'.length c2)).cell 0
          simp only [zzg, zzi, zza, zzb] at c1
          simp [results, Tryz.results92, go_sem, c1]
        · rw [HS.out]
          exact ⟨A2, c2, rfl, (HT2.out.alloc _).kept1 (Kept.set1 _ (w.heap.size + 1) 0 _) HF2.out, HC2.out, HF3.out, (HB2.out.alloc HB2.out.size _).setCell (by simp) _⟩
    · have d2 : (x == y) = false := by simp [t2]
      have HS : Hid (leT T a b c most = ⟨(putT T (diffNd x y d) most).T, (putT T (diffNd x y d) most).id, decide ((putT T (diffNd x y d) most).e = 0), (putT T (diffNd x y d) most).e⟩) := zzh (by rw [HG.out]; simp [leR, t2])
      clear t2
      go_wp2_with fail
      refine (KP.out _ HB1.out (diffNd x y d) (diffNd_wf hin.1 hin.2.1 hin.2.2)).mono ?_
      rintro e w2 ⟨A2, c2, rfl, ht, hc2, hf, hb⟩
      generalize putT T (diffNd x y d) most = r at *
      obtain ⟨T', id', e'⟩ := r
      have HT2 := zzh ht
      have HC2 := zzh hc2
      have HF2 : Hid (∀ b, A2 = some b → b.block ≠ w.heap.size + 1) := zzh (fun b e => by
        rcases hf b e with ⟨e1, h0⟩ | h1
        · have := Tab.lt (e1 ▸ H.out) h0
          omega
        · have := HR1.out.lt
          omega)
      have HF3 : Hid (Fr A T w A2) := zzh (fun b e => (hf b e).imp id fun h1 => Nat.le_trans HB1.out.size h1)
      have HB2 := zzh (HB1.out.trans (hb.mono HB1.out.size))
      have HR2 := zzh ((HR1.out.below hb HR1.out.lt).alloc (.cells #[.slice A2 T'.length c2] 33))
      have b1 := HR2.out.cell 0
      have f1 := HR2.out.frozen 0
      simp only [zzg, zzi] at b1
      clear ht hc2 hf hb hin
      go_wp2
      refine bodyPost_ret (v := .tuple #[.agg #[.slice A2 T'.length c2], .int .i64 id', .bool (decide (e' = 0)), .int .i64 e']) ?_ rfl ?_
      · have c1 := (HR2.out.set_ 0 (.slice A2 T'.length c2)).cell 0
        simp only [zzg, zzi, zza, zzb] at c1
        simp [results, Tryz.results92, go_sem, c1]
        rfl
      · rw [HS.out]
        exact ⟨A2, c2, rfl, (HT2.out.alloc _).kept1 (Kept.set1 _ (w.heap.size + 1) 0 _) HF2.out, HC2.out, HF3.out, (HB2.out.alloc HB2.out.size _).setCell (by simp) _⟩
  · have d1 : (e == 0) = false := by simp [t1]
    have HS : Hid (leT T a b c most = ⟨[], 0, false, e⟩) := zzh (by rw [HG.out]; simp [leR, t1])
    clear t1
    go_wp2
    refine bodyPost_ret (v := .tuple #[.agg #[.slice none 0 0], .int .i64 0, .bool false, .int .i64 e]) ?_ rfl ?_
    · have c1 := (HR1.out.set_ 0 (.slice none 0 0)).cell 0
      simp only [zzg, zzi, zza, zzb] at c1
      simp [results, Tryz.results92, go_sem, c1]
    · rw [HS.out]
      exact ⟨none, 0, rfl, ⟨by simp, .inl rfl⟩, Nat.le_refl _, Fr.none, HB1.out.setCell (by simp) _⟩
theorem tabB_false {T : List Nd} (h : ¬ TabOk T) : tabB T = false := by
  cases ht : tabB T with
  | false => rfl
  | true => exact absurd (tabB_iff.1 ht) h
set_option maxRecDepth 100000 in
set_option maxHeartbeats 4000000 in
theorem rof_ok {T : List Nd} {w : World} {A : Option Addr} (c : Nat) (id : Int) (hid : In64 id) (h : Tab w A T) (ho : TabOk T → ordB T = true) :
    Calls Tryz.prog 69 #[.agg #[.slice A T.length c], .int .i64 id] w (OfIs (ofT T id) w) := by
  have hlen := h.len
  have HB1 := zzh (show Below w.heap.size w (w.alloc (.cells #[.slice A T.length c] 33)) from (Below.refl _ w).alloc (Nat.le_refl _) _)
  have HBL := zzh (show Blk (w.alloc (.cells #[.slice A T.length c] 33)) w.heap.size 33 #[.slice A T.length c] from Blk.new w _ _)
  have H := zzh h
  have HO := zzh ho
  unfold In64 at hid
  clear h ho
  go_enter Tryz.func69, Tryz.ntmps69
  go_wp2_with fail
  refine (rcheck_ok c (H.out.below HB1.out)).mono ?_
  rintro e w1 ⟨r, rfl, hr, hb⟩
  have c0 := (HBL.out.below hb HBL.out.lt).cell 0
  simp only [zzg, zzi] at c0
  have HR := zzh hr
  have HB2 : Hid (Below w.heap.size w w1) := zzh (HB1.out.trans (hb.mono HB1.out.size))
  clear hr hb
  cases r with
  | false =>
    have HN : Hid (tabB T = false) := zzh (tabB_false fun ht => by have := HR.out.2 ht; cases this)
    go_wp2
    go_ret3
    refine ⟨?_, HB2.out⟩
    simp only [ofT, HN.out]
    rfl
  | true =>
  have ht := HR.out.1 rfl
  have HT := zzh ht
  have HT2 := zzh (tabB_iff.2 ht)
  clear ht
  by_cases t1 : id < 0
  · have d1 := decide_eq_true t1
    have HS : Hid (ofT T id = ⟨0, 0, 2⟩) := zzh (by unfold ofT; rw [if_neg (by simp; intro _ h; omega)])
    clear t1
    go_wp2
    go_ret3
    rw [HS.out]
    exact ⟨rfl, HB2.out⟩
  have d1 := decide_eq_false t1
  obtain ⟨i, rfl⟩ : ∃ i : Nat, id = i := ⟨id.toNat, by omega⟩
  by_cases t2 : T.length ≤ i
  · have d2 : decide (T.length ≤ i) = true := by simp; omega
    have HS : Hid (ofT T i = ⟨0, 0, 2⟩) := zzh (by unfold ofT; rw [if_neg (by simp; intro _; omega)])
    clear t1 t2
    go_wp2
    go_ret3
    rw [HS.out]
    exact ⟨rfl, HB2.out⟩
  have d2 : decide (T.length ≤ i) = false := by simp; omega
  have hil : i < T.length := by omega
  obtain ⟨b, off, hA, hbb, hcell⟩ := H.out.at_.resolve_left (by omega)
  subst hA
  have d3 : (0 : Int) ≤ (i : Int) := by omega
  have d4 : (i : Int) < (T.length : Int) := by omega
  have HCell := zzh (fun k hk => (hcell k hk).below HB2.out)
  obtain ⟨x0, x1, x2, x3, x4, x5, x6, x7⟩ := (HCell.out i hil).all
  have HST := zzh (HT.out.st i T[i] (List.getElem?_eq_getElem hil))
  have HM := zzh (List.getElem_mem hil)
  have HND : Hid (ndAt T i = T[i]) := zzh (ndAt_nat hil)
  have HG : Hid (ofT T i = if T[i].sort = 1 then ⟨(baseT T i).1, (baseT T i).2, 0⟩ else ⟨0, 0, 33⟩) := zzh (by unfold ofT; rw [if_pos (by rw [HT2.out]; simp; omega), HND.out])
  clear hcell t1 t2
  generalize T[i] = n at *
  by_cases t3 : n.sort = 1
  rotate_left
  · have d5 : (n.sort == 1) = false := by simp [t3]
    have HS : Hid (ofT T i = ⟨0, 0, 33⟩) := zzh (by rw [HG.out, if_neg t3])
    clear t3
    go_wp2
    go_ret3
    rw [HS.out]
    exact ⟨rfl, HB2.out⟩
  have HS : Hid (ofT T i = ⟨(baseT T i).1, (baseT T i).2, 0⟩) := zzh (by rw [HG.out, if_pos t3])
  rw [t3] at x5
  clear t3
  go_wp2
  go_loopg [1, 7] 1 (fun g vi vn wr => ∃ (k : Nat) (q : Int), vi = .int .i64 k ∧ vn = .int .i64 q ∧ k < T.length ∧ wr = w1 ∧ ((g = 1 ∧ k = i ∧ q = 0) ∨ (g = 0 ∧ ofT T i = ⟨k, q, 0⟩ ∧ (ndAt T k).op ≠ 11 ∧ (ndAt T k).op ≠ 10)))
  case atStart => exact ⟨i, 0, rfl, rfl, hil, rfl, .inl ⟨rfl, rfl, rfl⟩⟩
  case round =>
    obtain ⟨k, q, rfl, rfl, hk, rfl, hst⟩ := hrel
    have e3 : (0 : Int) ≤ (k : Int) := by omega
    have e4 : (k : Int) < (T.length : Int) := by omega
    cases gk with
    | zero =>
      obtain ⟨_, h1, h2, h3⟩ := hst.resolve_left (by omega)
      have HS1 := zzh h1
      rw [ndAt_nat hk] at h2 h3
      obtain ⟨y0, y1, y2, y3, y4, y5, y6, y7⟩ := (HCell.out k hk).all
      clear h1 hst
      generalize T[k] = m at *
      have d6 : (m.op == 11) = false := by simp [h2]
      have d7 : (m.op == 10) = false := by simp [h3]
      clear h2 h3
      go_wp2
      go_ret3
      rw [HS1.out]
      exact ⟨rfl, HB2.out⟩
    | succ gk =>
      obtain ⟨h0, rfl, rfl⟩ := hst.resolve_right (by omega)
      obtain rfl : gk = 0 := by omega
      clear hst h0
      by_cases q1 : n.op = 11
      · rw [q1] at x0
        have hnum : mayI n.num = true := mayI_iff.2 (HST.out.numb.1 (.inr (.inl q1)))
        have HA : Hid (addN 0 n.num = (n.num, 0)) := zzh (by
          unfold addN
          rw [Int.zero_add, hnum]
          rfl)
        have ha0 := HST.out.one (.inr q1)
        obtain ⟨k0, hk0⟩ : ∃ k0 : Nat, n.a0 = k0 := ⟨n.a0.toNat, by omega⟩
        have HBT : Hid (ofT T k = ⟨(k0 : Int), n.num, 0⟩) := zzh (by rw [HS.out]; unfold baseT; rw [HND.out, if_pos q1, hk0])
        have HOD := zzh (ordB_iff.1 (HO.out HT.out) n HM.out q1)
        have hk0T : k0 < T.length := by omega
        rw [hk0] at HOD
        rw [hk0] at x2
        clear q1 hnum ha0 hk0
        go_wp2_with fail
        refine (radd_ok 0 n.num _).mono ?_
        rintro e w3 ⟨rfl, rfl⟩
        rw [HA.out]
        go_wp2
        go_roundg 0
        case measure => omega
        case rel => exact ⟨k0, n.num, rfl, rfl, hk0T, rfl, .inr ⟨rfl, HBT.out, HOD.out.2.1, HOD.out.2.2⟩⟩
      · have d6 : (n.op == 11) = false := by simp [q1]
        by_cases q2 : n.op = 10
        · rw [q2] at x0
          have hnum : mayI n.num = true := mayI_iff.2 (HST.out.numb.1 (.inl q2))
          have HA : Hid (addN 0 n.num = (n.num, 0)) := zzh (by
            unfold addN
            rw [Int.zero_add, hnum]
            rfl)
          have HBT : Hid (ofT T k = ⟨1, n.num, 0⟩) := zzh (by rw [HS.out]; unfold baseT; rw [HND.out, if_neg q1, if_pos q2])
          clear q1 q2 hnum d6
          go_wp2_with fail
          refine (radd_ok 0 n.num _).mono ?_
          rintro e w3 ⟨rfl, rfl⟩
          rw [HA.out]
          go_wp2
          go_ret3
          rw [HBT.out]
          exact ⟨rfl, HB2.out⟩
        · have d7 : (n.op == 10) = false := by simp [q2]
          have HBT : Hid (ofT T k = ⟨(k : Int), 0, 0⟩) := zzh (by rw [HS.out]; unfold baseT; rw [HND.out, if_neg q1, if_neg q2])
          clear q1 q2
          go_wp2
          go_ret3
          rw [HBT.out]
          exact ⟨rfl, HB2.out⟩
set_option maxRecDepth 100000 in
set_option maxHeartbeats 4000000 in
theorem rdiff_ok {T : List Nd} {w : World} {A : Option Addr} (k : Nat) (a b c : Int) (ha : In64 a) (hb : In64 b) (h : Tab w A T) (ho : TabOk T → ordB T = true) :
    Calls Tryz.prog 174 #[.agg #[.slice A T.length k], .int .i64 a, .int .i64 b, .int .i64 c] w (DiffIs (diffT T a b c) w) := by
  have HB0 := zzh (show Below w.heap.size w (w.alloc (.cells #[.slice A T.length k] 33)) from (Below.refl _ w).alloc (Nat.le_refl _) _)
  have HBL := zzh (show Blk (w.alloc (.cells #[.slice A T.length k] 33)) w.heap.size 33 #[.slice A T.length k] from Blk.new w _ _)
  have KA := zzh (fun (W : World) (hw : Below w.heap.size w W) => rof_ok k a ha (h.below hw) ho)
  have KB := zzh (fun (W : World) (hw : Below w.heap.size w W) => rof_ok k b hb (h.below hw) ho)
  have HD : Hid (diffT T a b c = if (ofT T a).e ≠ 0 then ⟨0, 0, 0, (ofT T a).e⟩ else if (ofT T b).e ≠ 0 then ⟨0, 0, 0, (ofT T b).e⟩ else if (subN c (ofT T a).n).2 ≠ 0 then ⟨0, 0, 0, (subN c (ofT T a).n).2⟩ else if (addN (subN c (ofT T a).n).1 (ofT T b).n).2 ≠ 0 then ⟨0, 0, 0, (addN (subN c (ofT T a).n).1 (ofT T b).n).2⟩ else ⟨(ofT T a).b, (ofT T b).b, (addN (subN c (ofT T a).n).1 (ofT T b).n).1, 0⟩) := zzh rfl
  clear h ho ha hb
  go_enter Tryz.func174, Tryz.ntmps174
  go_wp2_with fail
  refine (KA.out _ HB0.out).mono ?_
  rintro e w1 ⟨rfl, hb⟩
  generalize ofT T a = p at *
  obtain ⟨p1, p2, p3⟩ := p
  have c0 := (HBL.out.below hb HBL.out.lt).cell 0
  simp only [zzg, zzi] at c0
  have HB1 : Hid (Below w.heap.size w w1) := zzh (HB0.out.trans (hb.mono HB0.out.size))
  clear hb
  by_cases t1 : p3 = 0
  rotate_left
  · have d1 : (p3 == 0) = false := by simp [t1]
    have HS : Hid (diffT T a b c = ⟨0, 0, 0, p3⟩) := zzh (by rw [HD.out, if_pos t1])
    clear t1
    go_wp2
    refine bodyPost_ret (v := .tuple #[.int .i64 0, .int .i64 0, .int .i64 0, .int .i64 p3]) (by simp [results, Tryz.results174, go_sem]) rfl ?_
    rw [HS.out]
    exact ⟨rfl, HB1.out⟩
  subst t1
  go_wp2_with fail
  refine (KB.out _ HB1.out).mono ?_
  rintro e w2 ⟨rfl, hb⟩
  generalize ofT T b = q at *
  obtain ⟨q1, q2, q3⟩ := q
  have HB2 : Hid (Below w.heap.size w w2) := zzh (HB1.out.trans (hb.mono HB1.out.size))
  clear hb
  by_cases t2 : q3 = 0
  rotate_left
  · have d1 : (q3 == 0) = false := by simp [t2]
    have HS : Hid (diffT T a b c = ⟨0, 0, 0, q3⟩) := zzh (by rw [HD.out, if_neg (by simp), if_pos t2])
    clear t2
    go_wp2
    refine bodyPost_ret (v := .tuple #[.int .i64 0, .int .i64 0, .int .i64 0, .int .i64 q3]) (by simp [results, Tryz.results174, go_sem]) rfl ?_
    rw [HS.out]
    exact ⟨rfl, HB2.out⟩
  subst t2
  go_wp2_with fail
  refine (rsub_ok c p2 _).mono ?_
  rintro e w3 ⟨rfl, rfl⟩
  generalize subN c p2 = z at *
  obtain ⟨z1, z2⟩ := z
  by_cases t3 : z2 = 0
  rotate_left
  · have d1 : (z2 == 0) = false := by simp [t3]
    have HS : Hid (diffT T a b c = ⟨0, 0, 0, z2⟩) := zzh (by rw [HD.out, if_neg (by simp), if_neg (by simp), if_pos t3])
    clear t3
    go_wp2
    refine bodyPost_ret (v := .tuple #[.int .i64 0, .int .i64 0, .int .i64 0, .int .i64 z2]) (by simp [results, Tryz.results174, go_sem]) rfl ?_
    rw [HS.out]
    exact ⟨rfl, HB2.out⟩
  subst t3
  go_wp2_with fail
  refine (radd_ok z1 q2 _).mono ?_
  rintro e w3 ⟨rfl, rfl⟩
  try dsimp only at HD
  generalize addN z1 q2 = y at *
  obtain ⟨y1, y2⟩ := y
  by_cases t4 : y2 = 0
  · subst t4
    have HS : Hid (diffT T a b c = ⟨p1, q1, y1, 0⟩) := zzh (by rw [HD.out]; simp)
    go_wp2
    refine bodyPost_ret (v := .tuple #[.int .i64 p1, .int .i64 q1, .int .i64 y1, .int .i64 0]) (by simp [results, Tryz.results174, go_sem]) rfl ?_
    rw [HS.out]
    exact ⟨rfl, HB2.out⟩
  · have d1 : (y2 == 0) = false := by simp [t4]
    have HS : Hid (diffT T a b c = ⟨0, 0, 0, y2⟩) := zzh (by rw [HD.out]; simp [t4])
    clear t4
    go_wp2
    refine bodyPost_ret (v := .tuple #[.int .i64 0, .int .i64 0, .int .i64 0, .int .i64 y2]) (by simp [results, Tryz.results174, go_sem]) rfl ?_
    rw [HS.out]
    exact ⟨rfl, HB2.out⟩
end Go.Proofs.YtlipnnibagidiaaGreat

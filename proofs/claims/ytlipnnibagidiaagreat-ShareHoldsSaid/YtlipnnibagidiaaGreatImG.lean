/- gantryref12.behind. -/
import Derived.Test.YtlipnnibagidiaaGreatImE
namespace Go.Proofs.YtlipnnibagidiaaGreat
open Go.RowKit Go.Lib
theorem same_img {C : List Nd} (h : Well C) (hi : IteOk C) {a b most : Int} (hs : (ndAt C a).sort = (ndAt C b).sort) (h1 : (ndAt C a).sort ≠ 1) (he : (sameT C a b most).e = 0) : ImgS C (sameT C a b most).T (sameT C a b most).id 0 ∧ ((sameT C a b most).T.length : Int) ≤ max (C.length : Int) most := by
  unfold sameT at he ⊢
  split at he
  · rename_i hab
    rw [if_pos hab]
    exact ⟨ImgS.true h hi, by show (C.length : Int) ≤ _; omega⟩
  · rename_i hab
    rw [if_neg hab]
    refine ⟨(putL_img h hi (op := 6) (V := [min a b, max a b]) (most := most) (.inr (.inr (.inr rfl))) (fun e => by cases e) (fun _ => ⟨?_, .inr ?_⟩) he).1, putL_most he⟩
    · show (ndAt C (min a b)).sort ≠ 1
      rcases (show min a b = a ∨ min a b = b by omega) with e | e
      · rw [e]
        exact h1
      · rw [e, ← hs]
        exact h1
    · show min a b ≠ max a b
      omega
set_option maxRecDepth 100000 in
set_option maxHeartbeats 8000000 in
theorem cequal_ok {C : List Nd} {w : World} {A : Option Addr} (c : Nat) (a b : Nat) (most : Int) (hw : Well C) (hi : IteOk C) (ha : a < C.length) (hb : b < C.length) (hc : C.length ≤ c) (h : Tab w A C) (hl : C.length < 50000) (hm : most < 50000) :
    Calls Tryz.prog 120 #[.agg #[.slice A C.length c], .int .i64 a, .int .i64 b, .int .i64 most] w (OutT A C (ImgQ C most 0) w) := by
  have hl0 := hl
  have hl : C.length < 100000 := by omega
  obtain ⟨w0, hw0⟩ : ∃ w0, ((w.alloc (.cells #[.slice A C.length c] 33)).alloc (.cells #[.slice none 0 0] 33)) = w0 := ⟨_, rfl⟩
  have HX0 : Hid (MX w A C w.heap.size A C c w0) := zzh (hw0 ▸ MX.start h hc)
  have HW := zzh hw
  have HI := zzh hi
  have HL := zzh hl
  have HS : Hid (∀ n ∈ C, 0 ≤ n.sort) := zzh (fun n hn => by obtain ⟨_, _, _, hst⟩ := hw.core.ok.stands hn; exact hst.srt.1)
  have HL0 := zzh hl0
  have HM := zzh hm
  have HA := zzh (And.intro ha hb)
  have HSS : Hid (∀ x : Nat, x < C.length → 0 ≤ (ndAt C (x : Int)).sort) := zzh (fun x hx => HS.out _ (ndAt_mem (by omega) (by omega)))
  obtain ⟨g, goff, hA, hgb, hgc⟩ := HX0.out.tab.at_.resolve_left (by omega)
  have ya := (hgc a ha).all.2.2.2.2.2.1
  have yb := (hgc b hb).all.2.2.2.2.2.1
  have ea : C[a].sort = (ndAt C (a : Int)).sort := by rw [ndAt_nat ha]
  have eb : C[b].sort = (ndAt C (b : Int)).sort := by rw [ndAt_nat hb]
  rw [ea] at ya
  rw [eb] at yb
  subst hA
  have t1 : (0 : Int) ≤ (a : Int) := by omega
  have t2 : (a : Int) < (C.length : Int) := by omega
  have t3 : (0 : Int) ≤ (b : Int) := by omega
  have t4 : (b : Int) < (C.length : Int) := by omega
  clear hl hl0 hm hgc hgb ea eb hw hi hc h ha hb
  obtain ⟨s0, s1, s2, s3⟩ := HX0.out.cells
  obtain ⟨sa, hsa⟩ : ∃ sa, (ndAt C (a : Int)).sort = sa := ⟨_, rfl⟩
  obtain ⟨sb, hsb⟩ : ∃ sb, (ndAt C (b : Int)).sort = sb := ⟨_, rfl⟩
  have HSA := zzh hsa
  have HSB := zzh hsb
  rw [hsa] at ya
  rw [hsb] at yb
  clear hsa hsb
  by_cases h1 : sa = sb
  rotate_left
  · have d1 : (sa != sb) = true := by simpa using h1
    clear h1
    go_enter Tryz.func120, Tryz.ntmps120
    go_wp2
    refine bodyPost_ret (v := .tuple #[.agg #[.slice none 0 0], .int .i64 0, .int .i64 33]) (by simp [results, Tryz.results120, go_sem, HX0.out.res]) rfl ?_
    exact HX0.out.ret_bad (ImgQ.bad (by decide))
  · subst h1
    have d1 : (sa != sa) = false := by simp
    by_cases h0 : sa = 0
    · subst h0
      have hbA : Below w0.heap.size w0 (w0.alloc (.cells #[.int .i64 (a : Int), .int .i64 (b : Int)] 3)) := (Below.refl _ w0).alloc (Nat.le_refl _) _
      have HXA := zzh (HX0.out.below hbA)
      have KP : Hid (Calls Tryz.prog 118 #[.agg #[.slice (some ⟨g, goff, none⟩) C.length c], .int .i8 6, .slice (some ⟨w0.heap.size, 0, none⟩) 2 2, .int .i64 most] (w0.alloc (.cells #[.int .i64 (a : Int), .int .i64 (b : Int)] 3)) (PutIs (some ⟨g, goff, none⟩) C (putL C 6 [(a : Int), (b : Int)] most) (w0.alloc (.cells #[.int .i64 (a : Int), .int .i64 (b : Int)] 3)))) := zzh (cput_ok c (.inr (.inr (.inr (.inr (.inr (.inr (.inl rfl))))))) most (V := [(a : Int), (b : Int)]) 2 HXA.out.hc HXA.out.tab HS.out HL.out (row2 w0 ((a : Int)) ((b : Int))) (by simp) (in_two ⟨t1, t2⟩ ⟨t3, t4⟩))
      clear hbA
      go_enter Tryz.func120, Tryz.ntmps120
      go_wp2_with fail
      refine KP.out.mono ?_
      rintro e w3 ⟨A', c', rfl, ht, hc', hf, hb3⟩
      have HE2 := zzh (fun he => And.intro ((putL_img HW.out HI.out (op := 6) (V := [(a : Int), (b : Int)]) (most := most) (.inr (.inr (.inr rfl))) (fun e => by cases e) (fun _ => ⟨by show (ndAt C (a : Int)).sort ≠ 1; rw [HSA.out]; decide, .inl HSA.out⟩) he).1) (putL_most he))
      clear KP
      generalize putL C 6 [(a : Int), (b : Int)] most = r at *
      obtain ⟨T', id', e'⟩ := r
      dsimp only at HE2 ht hc' ⊢
      have hq : True := trivial
      have HY := zzh (HXA.out.below hb3)
      have HTC := zzh (And.intro hb3 (And.intro ht (And.intro hc' (And.intro hf hq))))
      obtain ⟨q0, q1, q2, q3⟩ := HY.out.cells
      clear ht hc' hf hb3 hq s0 s1 s2 s3
      go_wp2
      refine bodyPost_ret (v := .tuple #[.agg #[.slice A' T'.length c'], .int .i64 id', .int .i64 e']) (by simp [results, Tryz.results120, go_sem, HY.out.res]) rfl ?_
      exact HXA.out.ret_call HTC.out.1 HTC.out.2.1 HTC.out.2.2.1 HTC.out.2.2.2.1 (fun he => HE2.out he)
    · have d2 : (sa == 0) = false := by simpa using h0
      by_cases h1 : sa = 1
      rotate_left
      · have d3 : (sa != 1) = true := by simpa using h1
        have H1 := zzh h1
        have KP := zzh (csame_ok c a b most HW.out ⟨t1, t2⟩ ⟨t3, t4⟩ HX0.out.hc HX0.out.tab HL.out)
        clear h1 h0
        go_enter Tryz.func120, Tryz.ntmps120
        go_wp2_with fail
        refine KP.out.mono ?_
        rintro e w3 ⟨A', c', T', id', e', rfl, ht, hc', hf, hq, hb3⟩
        have HE2 : Hid (ImgQ C most 0 T' id' e') := zzh (fun he => by
          have hsame := same_img HW.out HI.out (a := a) (b := b) (most := most) (by rw [HSA.out, HSB.out]) (by rw [HSA.out]; exact H1.out)
          rw [← hq] at hsame
          exact hsame he)
        have HY := zzh (HX0.out.below hb3)
        have HTC := zzh (And.intro hb3 (And.intro ht (And.intro hc' (And.intro hf hq))))
        obtain ⟨q0, q1, q2, q3⟩ := HY.out.cells
        clear ht hc' hf hb3 hq s0 s1 s2 s3 KP
        go_wp2
        refine bodyPost_ret (v := .tuple #[.agg #[.slice A' T'.length c'], .int .i64 id', .int .i64 e']) (by simp [results, Tryz.results120, go_sem, HY.out.res]) rfl ?_
        exact HX0.out.ret_call HTC.out.1 HTC.out.2.1 HTC.out.2.2.1 HTC.out.2.2.2.1 (HE2.out)
      · subst h1
        clear h0 d2
        have ia : In64 (a : Int) := by have := HL.out; unfold In64; omega
        have ib : In64 (b : Int) := by have := HL.out; unfold In64; omega
        have KL1 := zzh (rle_ok c a b 0 most ia ib HX0.out.hc HX0.out.tab HL.out HW.out.ordB)
        go_enter Tryz.func120, Tryz.ntmps120
        go_wp2_with fail
        refine KL1.out.mono ?_
        rintro e v1 ⟨A1, c1, rfl, ht1, hc1, hf1, hb1⟩
        have HE1 := zzh (fun he => And.intro (leT_img HW.out HI.out (a := (a : Int)) (b := (b : Int)) (c := 0) (most := most) he) (leT_most he))
        have HXB1 := zzh (HX0.out.below hb1)
        have HX1 := zzh (HX0.out.set hb1 ht1 hc1 hf1)
        clear KL1 ht1 hc1 hf1 hb1 s0 s1 s2 s3 ya yb
        generalize leT C (a : Int) (b : Int) 0 most = r1 at *
        obtain ⟨T1, id1, is1, e1⟩ := r1
        dsimp only at HE1 HX1
        obtain ⟨z10, z11, z12, z13⟩ := HXB1.out.cells
        obtain ⟨y10, y11, y12, y13⟩ := HX1.out.cells
        by_cases he : e1 = 0
        rotate_left
        · have d1 : (e1 != 0) = true := by simpa using he
          have HNE := zzh he
          clear he
          go_wp2
          refine bodyPost_ret (v := .tuple #[.agg #[.slice none 0 0], .int .i64 0, .int .i64 e1]) (by simp [results, Tryz.results120, go_sem, HX1.out.res]) rfl ?_
          exact HX1.out.ret_bad (ImgQ.bad HNE.out)
        · subst he
          have HG1 := zzh (HE1.out rfl)
          have hl1 : T1.length < 100000 := by have := HG1.out.2; have := HM.out; have := HL0.out; omega
          have HL1 := zzh hl1
          clear hl1
          obtain ⟨W1, hW1⟩ : ∃ W1, v1.setCell ⟨w.heap.size, 0, none⟩ (.slice A1 T1.length c1) = W1 := ⟨_, rfl⟩
          rw [hW1] at HX1 y10 y11 y12 y13
          have KL2 := zzh (rle_ok c1 b a 0 most ib ia HX1.out.hc HX1.out.tab HL1.out HG1.out.1.img.ext.well.ordB)
          go_wp2_with fail
          refine KL2.out.mono ?_
          rintro e v2 ⟨A2, c2, rfl, ht2, hc2, hf2, hb2⟩
          have HE2 := zzh (fun he => And.intro (leT_img HG1.out.1.img.ext.well HG1.out.1.img.ite (a := (b : Int)) (b := (a : Int)) (c := 0) (most := most) he) (leT_most he))
          have HXB2 := zzh (HX1.out.below hb2)
          have HX2 := zzh (HX1.out.set hb2 ht2 hc2 hf2)
          clear KL2 ht2 hc2 hf2 hb2 y10 y11 y12 y13
          generalize leT T1 (b : Int) (a : Int) 0 most = r2 at *
          obtain ⟨T2, id2, is2, e2⟩ := r2
          dsimp only at HE2 HX2
          obtain ⟨z20, z21, z22, z23⟩ := HXB2.out.cells
          obtain ⟨y20, y21, y22, y23⟩ := HX2.out.cells
          by_cases he : e2 = 0
          rotate_left
          · have d1 : (e2 != 0) = true := by simpa using he
            have HNE := zzh he
            clear he
            go_wp2
            refine bodyPost_ret (v := .tuple #[.agg #[.slice none 0 0], .int .i64 0, .int .i64 e2]) (by simp [results, Tryz.results120, go_sem, HX2.out.res]) rfl ?_
            exact HX2.out.ret_bad (ImgQ.bad HNE.out)
          · subst he
            have HG2 := zzh (HE2.out rfl)
            have HL2 : Hid (T2.length < 100000) := zzh (by have := HG1.out.2; have := HG2.out.2; have := HM.out; have := HL0.out; omega)
            have HS2 : Hid (∀ n ∈ T2, 0 ≤ n.sort) := zzh (fun n hn => by obtain ⟨_, _, _, hst⟩ := HG2.out.1.img.ext.well.core.ok.stands hn; exact hst.srt.1)
            obtain ⟨W2, hW2⟩ : ∃ W2, v2.setCell ⟨w.heap.size, 0, none⟩ (.slice A2 T2.length c2) = W2 := ⟨_, rfl⟩
            rw [hW2] at HX2 y20 y21 y22 y23
            have hbA : Below W2.heap.size W2 (W2.alloc (.cells #[.int .i64 id1, .int .i64 id2] 3)) := (Below.refl _ W2).alloc (Nat.le_refl _) _
            have HXA := zzh (HX2.out.below hbA)
            have KP : Hid (Calls Tryz.prog 118 #[.agg #[.slice A2 T2.length c2], .int .i8 2, .slice (some ⟨W2.heap.size, 0, none⟩) 2 2, .int .i64 most] (W2.alloc (.cells #[.int .i64 id1, .int .i64 id2] 3)) (PutIs A2 T2 (putL T2 2 [id1, id2] most) (W2.alloc (.cells #[.int .i64 id1, .int .i64 id2] 3)))) := zzh (cput_ok c2 (.inr (.inr (.inl rfl))) most (V := [id1, id2]) 2 HXA.out.hc HXA.out.tab HS2.out HL2.out (row2 W2 (id1) (id2)) (by simp) (in_two ⟨HG1.out.1.img.lo, by have := HG1.out.1.img.hi; have := HG2.out.1.img.ext.len; omega⟩ ⟨HG2.out.1.img.lo, HG2.out.1.img.hi⟩))
            clear hbA
            go_wp2_with fail
            refine KP.out.mono ?_
            rintro e w3 ⟨A', c', rfl, ht, hc', hf, hb3⟩
            have HE3 := zzh (fun he => And.intro (putL_img HG2.out.1.img.ext.well HG2.out.1.img.ite (op := 2) (V := [id1, id2]) (most := most) (.inr (.inl rfl)) (fun e => by cases e) (fun e => by cases e) he).1 (putL_most he))
            clear KP
            generalize putL T2 2 [id1, id2] most = r at *
            obtain ⟨T', id', e'⟩ := r
            dsimp only at HE3 ht hc' ⊢
            have hq : True := trivial
            have HY := zzh (HXA.out.below hb3)
            have HTC := zzh (And.intro hb3 (And.intro ht (And.intro hc' (And.intro hf hq))))
            obtain ⟨q0, q1, q2, q3⟩ := HY.out.cells
            clear ht hc' hf hb3 hq y20 y21 y22 y23
            go_wp2
            refine bodyPost_ret (v := .tuple #[.agg #[.slice A' T'.length c'], .int .i64 id', .int .i64 e']) (by simp [results, Tryz.results120, go_sem, HY.out.res]) rfl ?_
            exact HXA.out.ret_call HTC.out.1 HTC.out.2.1 HTC.out.2.2.1 HTC.out.2.2.2.1 (ImgQ.mono (HG1.out.1.trans HG2.out.1) (by have := HG1.out.2; have := HG2.out.2; omega) (fun he => HE3.out he))
def OutT2 (A : Option Addr) (C : List Nd) (Q : List Nd → Int → Prop) (w : World) (e : Ending) (w' : World) : Prop :=
  ∃ A' c' T' er, e = .returned (.tuple #[.agg #[.slice A' T'.length c'], .int .i64 er]) ∧ Tab w' A' T' ∧ T'.length ≤ c' ∧ Fr A C w A' ∧ Q T' er ∧ Below w.heap.size w w'
section
variable {w W W2 : World} {A A1 A2 : Option Addr} {C T1 T2 : List Nd} {p c c1 c2 n : Nat} {Q : List Nd → Int → Prop} {id er : Int}
theorem OutT.two (h : OutT A C (fun T' _ er => Q T' er) w (.returned (.tuple #[.agg #[.slice A1 n c1], .int .i64 id, .int .i64 er])) W) : OutT2 A C Q w (.returned (.tuple #[.agg #[.slice A1 n c1], .int .i64 er])) W := by
  obtain ⟨A', c', T', id', er', h1, h2, h3, h4, h5, h6⟩ := h
  injection h1 with h1
  simp at h1
  obtain ⟨⟨rfl, rfl, rfl⟩, rfl, rfl⟩ := h1
  exact ⟨_, _, T', _, rfl, h2, h3, h4, h5, h6⟩
theorem MX.ret_via (h : MX w A C p A1 T1 c1 W) (hb : Below W.heap.size W W2) (ht : Tab W2 A2 T2) (hc : T2.length ≤ c2) (hf : Fr A1 T1 W A2) {Q : List Nd → Int → Int → Prop} {id er : Int} (hq : Q T2 id er) (hle : w.heap.size ≤ p := by simp) : OutT A C Q w (.returned (.tuple #[.agg #[.slice A2 T2.length c2], .int .i64 id, .int .i64 er])) ((W2.setCell ⟨p, 0, none⟩ (.slice A2 T2.length c2)).setCell ⟨w.heap.size + 1, 0, none⟩ (.slice A2 T2.length c2)) := by
  have h2 := h.below hb
  have hr := h.r.lt
  have ht1 := h.t.lt
  have hfr : ∀ b, A2 = some b → b.block ≠ p ∧ ((A = some b ∧ 0 < C.length ∧ b.block < w.heap.size) ∨ w.heap.size + 2 ≤ b.block) := fun b e => by
    rcases hf b e with ⟨e1, h1⟩ | h1
    · exact h.fr b e1 h1
    · exact ⟨by omega, .inr (by omega)⟩
  refine ⟨A2, c2, T2, id, er, rfl, (ht.kept1 (Kept.set1 W2 p 0 _) (fun b e => (hfr b e).1)).kept1 (Kept.set1 _ (w.heap.size + 1) 0 _) (fun b e => ?_), hc, fun b e => ?_, hq, (h2.bel.setCell hle _).setCell (by simp) _⟩
  · have := (hfr b e).2
    omega
  · exact (hfr b e).2.imp (fun h => ⟨h.1, h.2.1⟩) (fun h => by omega)
end
def BehQ (C : List Nd) (i b : Nat) (s most : Int) (T' : List Nd) (er : Int) : Prop := er = 0 → (∃ id, Put1 C T' id) ∧ iteN T' i b s ∧ (T'.length : Int) ≤ max (C.length : Int) most
theorem beh_same {C : List Nd} (h : Well C) {i b : Nat} {s most : Int} (hb : b < i) (_hi : i < C.length) (hs : (ndAt C (i : Int)).sort = s ∧ (ndAt C (b : Int)).sort = s) (h1 : s ≠ 1) (he : (sameT C i b most).e = 0) : (∃ id, Put1 C (sameT C i b most).T id) ∧ iteN (sameT C i b most).T i b s ∧ ((sameT C i b most).T.length : Int) ≤ max (C.length : Int) most := by
  have hne : ¬ (i : Int) = (b : Int) := by omega
  have hml := fun h => putL_most (T := C) (op := 6) (V := [min (i : Int) b, max (i : Int) b]) (most := most) h
  unfold sameT at he ⊢
  rw [if_neg hne] at he ⊢
  have e : putL C 6 [min (i : Int) b, max (i : Int) b] most = putT C (eqNd (min (i : Int) b) (max (i : Int) b)) most := by
    have em : min (i : Int) b = b := by omega
    have ex : max (i : Int) b = i := by omega
    have ho : opL 6 ([(b : Int), (i : Int)].map fun x => (ndAt C x).sort) = some 0 := by simp [opL, manyM, opSort, hs.1, hs.2]
    unfold putL
    rw [em, ex, ho]
    rfl
  have hm := hml he
  rw [e] at he hm ⊢
  obtain ⟨p1, p2⟩ := behind_own h (i := (i : Int)) (a := (b : Int)) (most := most) (s := s) ⟨by omega, by omega⟩ hs h1 he
  exact ⟨⟨_, p1⟩, p2, hm⟩
set_option maxRecDepth 100000 in
set_option maxHeartbeats 8000000 in
theorem cbehind_ok {C : List Nd} {w : World} {A : Option Addr} (c : Nat) (i b : Nat) (s most : Int) (hw : Well C) (hbi : b < i) (hin : i < C.length) (h7 : (ndAt C (i : Int)).op = 7) (hs : (ndAt C (i : Int)).sort = s ∧ (ndAt C (b : Int)).sort = s) (hc : C.length ≤ c) (h : Tab w A C) (hl : C.length < 50000) (hm : most < 50000) :
    Calls Tryz.prog 156 #[.agg #[.slice A C.length c], .int .i64 i, .int .i64 b, .int .i64 most] w (OutT2 A C (BehQ C i b s most) w) := by
  have hl0 := hl
  have hl : C.length < 100000 := by omega
  obtain ⟨w0, hw0⟩ : ∃ w0, ((w.alloc (.cells #[.slice A C.length c] 33)).alloc (.cells #[.slice none 0 0] 33)) = w0 := ⟨_, rfl⟩
  have HX0 : Hid (MX w A C w.heap.size A C c w0) := zzh (hw0 ▸ MX.start h hc)
  have HW := zzh hw
  have HL := zzh hl
  have HS : Hid (∀ n ∈ C, 0 ≤ n.sort) := zzh (fun n hn => by obtain ⟨_, _, _, hst⟩ := hw.core.ok.stands hn; exact hst.srt.1)
  have HL0 := zzh hl0
  have HM := zzh hm
  have HA := zzh (And.intro hbi hin)
  have H7 := zzh h7
  have HSR := zzh hs
  obtain ⟨g, goff, hA, hgb, hgc⟩ := HX0.out.tab.at_.resolve_left (by omega)
  have ya := (hgc i hin).all.2.2.2.2.2.1
  have ea : C[i].sort = (ndAt C (i : Int)).sort := by rw [ndAt_nat hin]
  rw [ea, hs.1] at ya
  subst hA
  have t1 : (0 : Int) ≤ (i : Int) := by omega
  have t2 : (i : Int) < (C.length : Int) := by omega
  clear hl hl0 hm hgc hgb ea hw hc h hs h7
  obtain ⟨s0, s1, s2, s3⟩ := HX0.out.cells
  by_cases h1 : s = 1
  rotate_left
  · have d1 : (s == 1) = false := by simpa using h1
    have H1 := zzh h1
    have KP := zzh (csame_ok c i b most HW.out ⟨t1, t2⟩ ⟨by omega, by omega⟩ HX0.out.hc HX0.out.tab HL.out)
    clear h1 hbi hin
    go_enter Tryz.func156, Tryz.ntmps156
    go_wp2_with fail
    refine KP.out.mono ?_
    rintro e w3 ⟨A', c', T', id', e', rfl, ht, hc', hf, hq, hb3⟩
    have HE2 : Hid (BehQ C i b s most T' e') := zzh (fun he => by
      have hsame := beh_same HW.out (i := i) (b := b) (most := most) HA.out.1 HA.out.2 HSR.out H1.out
      rw [← hq] at hsame
      exact hsame he)
    have HXB := zzh (HX0.out.below hb3)
    have HX1 := zzh (HX0.out.set hb3 ht hc' hf)
    have HTC := zzh (And.intro hb3 (And.intro ht (And.intro hc' hf)))
    obtain ⟨z0, z1, z2, z3⟩ := HXB.out.cells
    obtain ⟨q0, q1, q2, q3⟩ := HX1.out.cells
    clear ht hc' hf hb3 hq s0 s1 s2 s3 KP ya
    go_wp2
    refine bodyPost_ret (v := .tuple #[.agg #[.slice A' T'.length c'], .int .i64 e']) (by simp [results, Tryz.results156, go_sem, HX1.out.res]) rfl ?_
    exact (HX0.out.ret_via (Q := fun T' _ er => BehQ C i b s most T' er) (id := 0) HTC.out.1 HTC.out.2.1 HTC.out.2.2.1 HTC.out.2.2.2 HE2.out).two
  · subst h1
    have ia : In64 (i : Int) := by have := HL.out; unfold In64; omega
    have ib : In64 (b : Int) := by have := HL.out; unfold In64; omega
    have KL := zzh (rle_ok c i b 0 most ia ib HX0.out.hc HX0.out.tab HL.out HW.out.ordB)
    clear hbi hin
    go_enter Tryz.func156, Tryz.ntmps156
    go_wp2_with fail
    refine KL.out.mono ?_
    rintro e v1 ⟨A1, c1, rfl, ht1, hc1, hf1, hb1⟩
    have HE1 := zzh (fun he => And.intro (leT_put1 HW.out (a := (i : Int)) (b := (b : Int)) (c := 0) (most := most) he) (leT_most he))
    have HX1 := zzh (HX0.out.into hb1 ht1 hc1 hf1)
    have hV := hb1.size
    have HBe := zzh (fun he he2 => behind_int HW.out (i := (i : Int)) (a := (b : Int)) (most := most) ⟨by omega, t2⟩ H7.out ⟨by omega, by have := HA.out.1; omega⟩ he he2)
    have HMo := zzh (fun he => leT_most (T := (leT C (i : Int) (b : Int) 0 most).T) (a := (b : Int)) (b := (i : Int)) (c := 0) (most := most) he)
    clear KL ht1 hc1 hf1 hb1 s0 s1 s2 s3 ya
    generalize leT C (i : Int) (b : Int) 0 most = r1 at *
    obtain ⟨T1, id1, is1, e1⟩ := r1
    dsimp only at HE1 HX1 HBe HMo
    obtain ⟨y0, y1, y2, y3⟩ := HX1.out.cells
    by_cases he : e1 = 0
    rotate_left
    · have d1 : (e1 != 0) = true := by simpa using he
      have HNE := zzh he
      clear he
      go_wp2
      refine bodyPost_ret (v := .tuple #[.agg #[.slice none 0 0], .int .i64 e1]) (by simp [results, Tryz.results156, go_sem, HX1.out.res]) rfl ?_
      exact (HX1.out.ret_bad (Q := fun T' _ er => BehQ C i b 1 most T' er) (id := 0) (fun e => absurd e HNE.out)).two
    · subst he
      have HG1 := zzh (HE1.out rfl)
      have HL1 : Hid (T1.length < 100000) := zzh (by have := HG1.out.2; have := HM.out; have := HL0.out; omega)
      obtain ⟨W1, hW1⟩ : ∃ W1, v1.alloc (.cells #[.slice A1 T1.length c1] 33) = W1 := ⟨_, rfl⟩
      rw [hW1] at HX1 y0 y1 y2 y3
      have KL2 := zzh (rle_ok c1 b i 0 most ib ia HX1.out.hc HX1.out.tab HL1.out HG1.out.1.1.ext.well.ordB)
      go_wp2_with fail
      refine KL2.out.mono ?_
      rintro e v2 ⟨A2, c2, rfl, ht2, hc2, hf2, hb2⟩
      have HE2 : Hid (BehQ C i b 1 most (leT T1 (b : Int) (i : Int) 0 most).T (leT T1 (b : Int) (i : Int) 0 most).e) := zzh (fun he => by
        obtain ⟨k1, k2⟩ := HBe.out (by simp) he
        have k3 := HMo.out he
        have k4 := HG1.out.2
        exact ⟨⟨_, k1⟩, k2, by omega⟩)
      have HXB := zzh (HX1.out.below hb2)
      have HLE : Hid (w.heap.size ≤ v1.heap.size) := zzh (Nat.le_trans HX0.out.bel.size hV)
      have HX2 := zzh (HX1.out.set hb2 ht2 hc2 hf2 HLE.out)
      have HTC := zzh (And.intro hb2 (And.intro ht2 (And.intro hc2 hf2)))
      clear KL2 ht2 hc2 hf2 hb2 y0 y1 y2 y3 HBe HMo
      generalize leT T1 (b : Int) (i : Int) 0 most = r2 at *
      obtain ⟨T2, id2, is2, e2⟩ := r2
      dsimp only at HE2 HX2 HTC
      obtain ⟨z0, z1, z2, z3⟩ := HXB.out.cells
      obtain ⟨q0, q1, q2, q3⟩ := HX2.out.cells
      go_wp2
      refine bodyPost_ret (v := .tuple #[.agg #[.slice A2 T2.length c2], .int .i64 e2]) (by simp [results, Tryz.results156, go_sem, HX2.out.res]) rfl ?_
      exact (HX1.out.ret_via (Q := fun T' _ er => BehQ C i b 1 most T' er) (id := 0) HTC.out.1 HTC.out.2.1 HTC.out.2.2.1 HTC.out.2.2.2 HE2.out HLE.out).two
end Go.Proofs.YtlipnnibagidiaaGreat

/- gantryref12.bools, equal. -/
import Derived.Test.YtlipnnibagidiaaGreatImD
namespace Go.Proofs.YtlipnnibagidiaaGreat
open Go.RowKit Go.Lib

theorem in_two {n a b : Int} (ha : 0 ≤ a ∧ a < n) (hb : 0 ≤ b ∧ b < n) : ∀ y ∈ [a, b], 0 ≤ y ∧ y < n := fun y hy => by
  rcases List.mem_cons.1 hy with rfl | hy
  · exact ha
  · rw [List.mem_singleton.1 hy]
    exact hb
theorem in_three {n a b d : Int} (ha : 0 ≤ a ∧ a < n) (hb : 0 ≤ b ∧ b < n) (hd : 0 ≤ d ∧ d < n) : ∀ y ∈ [a, b, d], 0 ≤ y ∧ y < n := fun y hy => by
  rcases List.mem_cons.1 hy with rfl | hy
  · exact ha
  · exact in_two hb hd y hy
theorem ImgQ.mono {C : List Nd} {most s s' id : Int} {T T' : List Nd} {i er : Int} (h : ImgS C T i s') (hm : (T.length : Int) ≤ max (C.length : Int) most) (k : ImgQ T most s T' id er) : ImgQ C most s T' id er := fun e => by
  obtain ⟨k1, k2⟩ := k e
  exact ⟨h.trans k1, by omega⟩
set_option maxRecDepth 100000 in
set_option maxHeartbeats 4000000 in
theorem cbools_ok {C : List Nd} {w : World} {A : Option Addr} (c : Nat) {op : Int} (hop : op = 4 ∨ op = 5) (a b : Nat) (most : Int) (hw : Well C) (hi : IteOk C) (ha : a < C.length) (hb : b < C.length) (hsa : (ndAt C a).sort = 0) (hc : C.length ≤ c) (h : Tab w A C) (hl : C.length < 50000) (hm : most < 50000) :
    Calls Tryz.prog 119 #[.agg #[.slice A C.length c], .int .i8 op, .int .i64 a, .int .i64 b, .int .i64 most] w (OutT A C (ImgQ C most 0) w) := by
  have hl0 := hl
  have hl : C.length < 100000 := by omega
  obtain ⟨w0, hw0⟩ : ∃ w0, ((w.alloc (.cells #[.slice A C.length c] 33)).alloc (.cells #[.slice none 0 0] 33)) = w0 := ⟨_, rfl⟩
  have HX0 : Hid (MX w A C w.heap.size A C c w0) := Lib.hid (hw0 ▸ MX.start h hc)
  have HW := Lib.hid hw
  have HI := Lib.hid hi
  have HL := Lib.hid hl
  have HS : Hid (∀ n ∈ C, 0 ≤ n.sort) := Lib.hid (fun n hn => by obtain ⟨_, _, _, hst⟩ := hw.core.ok.stands hn; exact hst.srt.1)
  have HL0 := Lib.hid hl0
  have HM := Lib.hid hm
  have HSA := Lib.hid hsa
  have HA := Lib.hid (And.intro ha hb)
  clear hl hl0 hm hsa
  rcases hop with rfl | rfl
  · skip
    have hbA : Below w0.heap.size w0 (w0.alloc (.cells #[.int .i64 (a : Int), .int .i64 (b : Int)] 3)) := (Below.refl _ w0).alloc (Nat.le_refl _) _
    have HXA := Lib.hid (HX0.out.below hbA)
    have KP : Hid (Calls Tryz.prog 118 #[.agg #[.slice A C.length c], .int .i8 6, .slice (some ⟨w0.heap.size, 0, none⟩) 2 2, .int .i64 most] (w0.alloc (.cells #[.int .i64 (a : Int), .int .i64 (b : Int)] 3)) (PutIs A C (putL C 6 [(a : Int), (b : Int)] most) (w0.alloc (.cells #[.int .i64 (a : Int), .int .i64 (b : Int)] 3)))) := Lib.hid (cput_ok c (.inr (.inr (.inr (.inr (.inr (.inr (.inl rfl))))))) most (V := [(a : Int), (b : Int)]) 2 HXA.out.hc HXA.out.tab HS.out HL.out (row2 w0 ((a : Int)) ((b : Int))) (by simp) (in_two (by omega) (by omega)))
    clear hbA
    obtain ⟨s0, s1, s2, s3⟩ := HX0.out.cells
    clear hw hi hc h ha hb
    go_enter Tryz.func119, Tryz.ntmps119
    go_wp2_with fail
    refine KP.out.mono ?_
    rintro e w3 ⟨A', c', rfl, ht, hc', hf, hb3⟩
    have HE2 := Lib.hid (fun he => And.intro (putL_img HW.out HI.out (op := 6) (V := [(a : Int), (b : Int)]) (most := most) (.inr (.inr (.inr rfl))) (fun e => by cases e) (fun _ => ⟨by show (ndAt C (a : Int)).sort ≠ 1; rw [HSA.out]; decide, .inl HSA.out⟩) he) (putL_most he))
    clear KP
    generalize putL C 6 [(a : Int), (b : Int)] most = r at *
    obtain ⟨T', id', e'⟩ := r
    dsimp only at HE2 ht hc' ⊢
    have HXI := Lib.hid (HXA.out.into hb3 ht hc' hf)
    obtain ⟨q0, q1, q2, q3⟩ := HXI.out.cells
    clear ht hc' hf hb3 s0 s1 s2 s3
    by_cases he : e' = 0
    rotate_left
    · have d1 : (e' != 0) = true := by simpa using he
      have HNE := Lib.hid he
      clear he
      go_wp2
      refine bodyPost_ret (v := .tuple #[.agg #[.slice none 0 0], .int .i64 0, .int .i64 e']) (by simp [results, Tryz.results119, go_sem, HXI.out.res]) rfl ?_
      exact HXI.out.ret_bad (ImgQ.bad HNE.out)
    · subst he
      have HG := Lib.hid (HE2.out rfl)
      obtain ⟨k, rfl⟩ : ∃ k : Nat, id' = k := ⟨id'.toNat, by have := HG.out.1.1.img.lo; omega⟩
      have KN := Lib.hid (cnot_ok c' k most HG.out.1.1.img.ext.well HG.out.1.1.img.ite (by have := HG.out.1.1.img.hi; omega) HXI.out.hc HXI.out.tab (by have := HG.out.2; have := HM.out; have := HL0.out; omega))
      go_wp2_with fail
      refine KN.out.mono ?_
      rintro e w5 ⟨A2, c2, T2, id2, e2, rfl, ht2, hc2, hf2, hq2, hb5⟩
      clear KN
      have HY := Lib.hid (HXI.out.below hb5)
      have HTC := Lib.hid (And.intro hb5 (And.intro ht2 (And.intro hc2 (And.intro hf2 hq2))))
      clear ht2 hc2 hf2 hb5 hq2 q0 q1 q2 q3
      obtain ⟨q0, q1, q2, q3⟩ := HY.out.cells
      go_wp2
      refine bodyPost_ret (v := .tuple #[.agg #[.slice A2 T2.length c2], .int .i64 id2, .int .i64 e2]) (by simp [results, Tryz.results119, go_sem, HY.out.res]) rfl ?_
      exact HXI.out.ret_call HTC.out.1 HTC.out.2.1 HTC.out.2.2.1 HTC.out.2.2.2.1 (HTC.out.2.2.2.2.mono HG.out.1.1 HG.out.2)
  · have KN := Lib.hid (cnot_ok c a most HW.out HI.out HA.out.1 HX0.out.hc HX0.out.tab HL.out)
    obtain ⟨s0, s1, s2, s3⟩ := HX0.out.cells
    clear hw hi hc h ha hb
    go_enter Tryz.func119, Tryz.ntmps119
    go_wp2_with fail
    refine KN.out.mono ?_
    rintro e w3 ⟨A', c', T', id', e', rfl, ht, hc', hf, hq, hb3⟩
    have HQ := Lib.hid hq
    have HXB := Lib.hid (HX0.out.below hb3)
    have HXI := Lib.hid (HX0.out.set hb3 ht hc' hf)
    obtain ⟨z0, z1, z2, z3⟩ := HXB.out.cells
    obtain ⟨q0, q1, q2, q3⟩ := HXI.out.cells
    clear ht hc' hf hb3 hq s0 s1 s2 s3 KN
    by_cases he : e' = 0
    rotate_left
    · have d1 : (e' != 0) = true := by simpa using he
      have HNE := Lib.hid he
      clear he
      go_wp2
      refine bodyPost_ret (v := .tuple #[.agg #[.slice none 0 0], .int .i64 0, .int .i64 e']) (by simp [results, Tryz.results119, go_sem, HXI.out.res]) rfl ?_
      exact HXI.out.ret_bad (ImgQ.bad HNE.out)
    · subst he
      have HG := Lib.hid (HQ.out rfl)
      obtain ⟨W, hW⟩ : ∃ W, w3.setCell ⟨w.heap.size, 0, none⟩ (.slice A' T'.length c') = W := ⟨_, rfl⟩
      rw [hW] at HXI q0 q1 q2 q3
      have HS' : Hid (∀ n ∈ T', 0 ≤ n.sort) := Lib.hid (fun n hn => by obtain ⟨_, _, _, hst⟩ := HG.out.1.img.ext.well.core.ok.stands hn; exact hst.srt.1)
      have HL' : Hid (T'.length < 100000) := Lib.hid (by have := HG.out.2; have := HM.out; have := HL0.out; omega)
      have hbA : Below W.heap.size W (W.alloc (.cells #[.int .i64 id', .int .i64 (b : Int)] 3)) := (Below.refl _ W).alloc (Nat.le_refl _) _
      have HXA := Lib.hid (HXI.out.below hbA)
      have KP : Hid (Calls Tryz.prog 118 #[.agg #[.slice A' T'.length c'], .int .i8 3, .slice (some ⟨W.heap.size, 0, none⟩) 2 2, .int .i64 most] (W.alloc (.cells #[.int .i64 id', .int .i64 (b : Int)] 3)) (PutIs A' T' (putL T' 3 [id', (b : Int)] most) (W.alloc (.cells #[.int .i64 id', .int .i64 (b : Int)] 3)))) := Lib.hid (cput_ok c' (.inr (.inr (.inr (.inl rfl)))) most (V := [id', (b : Int)]) 2 HXA.out.hc HXA.out.tab HS'.out HL'.out (row2 W (id') ((b : Int))) (by simp) (in_two ⟨HG.out.1.img.lo, HG.out.1.img.hi⟩ (by have h3 := HG.out.1.img.ext.len; have h4 := HA.out.2; omega)))
      clear hbA
      go_wp2_with fail
      refine KP.out.mono ?_
      rintro e w5 ⟨A2, c2, rfl, ht2, hc2, hf2, hb5⟩
      have HE2 := Lib.hid (fun he => And.intro (putL_img HG.out.1.img.ext.well HG.out.1.img.ite (op := 3) (V := [id', (b : Int)]) (most := most) (.inr (.inr (.inl rfl))) (fun e => by cases e) (fun e => by cases e) he).1 (putL_most he))
      clear KP
      generalize putL T' 3 [id', (b : Int)] most = r at *
      obtain ⟨T2, id2, e2⟩ := r
      dsimp only at HE2 ht2 hc2 ⊢
      have hq2 : True := trivial
      have HY := Lib.hid (HXA.out.below hb5)
      have HTC := Lib.hid (And.intro hb5 (And.intro ht2 (And.intro hc2 (And.intro hf2 hq2))))
      clear ht2 hc2 hf2 hb5 hq2 q0 q1 q2 q3
      obtain ⟨q0, q1, q2, q3⟩ := HY.out.cells
      go_wp2
      refine bodyPost_ret (v := .tuple #[.agg #[.slice A2 T2.length c2], .int .i64 id2, .int .i64 e2]) (by simp [results, Tryz.results119, go_sem, HY.out.res]) rfl ?_
      exact HXA.out.ret_call HTC.out.1 HTC.out.2.1 HTC.out.2.2.1 HTC.out.2.2.2.1 (ImgQ.mono HG.out.1 HG.out.2 (fun he => HE2.out he))
end Go.Proofs.YtlipnnibagidiaaGreat

/- gantryref12.equal. -/
namespace Go.Proofs.YtlipnnibagidiaaGreat
open Go.RowKit Go.Lib

theorem same_img {C : List Nd} (h : Well C) (hi : IteOk C) {a b most : Int} (hs : (ndAt C a).sort = (ndAt C b).sort) (h1 : (ndAt C a).sort ≠ 1) (he : (sameT C a b most).e = 0) : ImgS C (sameT C a b most).T (sameT C a b most).id 0 ∧ ((sameT C a b most).T.length : Int) ≤ max (C.length : Int) most := by
  unfold sameT at he ⊢
  split at he
  · rename_i hab
    rw [if_pos hab]
    exact ⟨ImgS.true h hi, by show (C.length : Int) ≤ _; omega⟩
  · rename_i hab
    rw [if_neg hab]
    refine ⟨(putL_img h hi (op := 6) (V := [min a b, max a b]) (most := most) (.inr (.inr (.inr rfl))) (fun e => by cases e) (fun _ => ⟨?_, .inr ?_⟩) he).1, putL_most he⟩
    · show (ndAt C (min a b)).sort ≠ 1
      rcases (show min a b = a ∨ min a b = b by omega) with e | e
      · rw [e]
        exact h1
      · rw [e, ← hs]
        exact h1
    · show min a b ≠ max a b
      omega
set_option maxRecDepth 100000 in
set_option maxHeartbeats 8000000 in
theorem cequal_ok {C : List Nd} {w : World} {A : Option Addr} (c : Nat) (a b : Nat) (most : Int) (hw : Well C) (hi : IteOk C) (ha : a < C.length) (hb : b < C.length) (hc : C.length ≤ c) (h : Tab w A C) (hl : C.length < 50000) (hm : most < 50000) :
    Calls Tryz.prog 120 #[.agg #[.slice A C.length c], .int .i64 a, .int .i64 b, .int .i64 most] w (OutT A C (ImgQ C most 0) w) := by
  have hl0 := hl
  have hl : C.length < 100000 := by omega
  obtain ⟨w0, hw0⟩ : ∃ w0, ((w.alloc (.cells #[.slice A C.length c] 33)).alloc (.cells #[.slice none 0 0] 33)) = w0 := ⟨_, rfl⟩
  have HX0 : Hid (MX w A C w.heap.size A C c w0) := Lib.hid (hw0 ▸ MX.start h hc)
  have HW := Lib.hid hw
  have HI := Lib.hid hi
  have HL := Lib.hid hl
  have HS : Hid (∀ n ∈ C, 0 ≤ n.sort) := Lib.hid (fun n hn => by obtain ⟨_, _, _, hst⟩ := hw.core.ok.stands hn; exact hst.srt.1)
  have HL0 := Lib.hid hl0
  have HM := Lib.hid hm
  have HA := Lib.hid (And.intro ha hb)
  have HSS : Hid (∀ x : Nat, x < C.length → 0 ≤ (ndAt C (x : Int)).sort) := Lib.hid (fun x hx => HS.out _ (ndAt_mem (by omega) (by omega)))
  obtain ⟨g, goff, hA, hgb, hgc⟩ := HX0.out.tab.at_.resolve_left (by omega)
  have ya := (hgc a ha).all.2.2.2.2.2.1
  have yb := (hgc b hb).all.2.2.2.2.2.1
  have ea : C[a].sort = (ndAt C (a : Int)).sort := by rw [ndAt_nat ha]
  have eb : C[b].sort = (ndAt C (b : Int)).sort := by rw [ndAt_nat hb]
  rw [ea] at ya
  rw [eb] at yb
  subst hA
  have t1 : (0 : Int) ≤ (a : Int) := by omega
  have t2 : (a : Int) < (C.length : Int) := by omega
  have t3 : (0 : Int) ≤ (b : Int) := by omega
  have t4 : (b : Int) < (C.length : Int) := by omega
  clear hl hl0 hm hgc hgb ea eb hw hi hc h ha hb
  obtain ⟨s0, s1, s2, s3⟩ := HX0.out.cells
  obtain ⟨sa, hsa⟩ : ∃ sa, (ndAt C (a : Int)).sort = sa := ⟨_, rfl⟩
  obtain ⟨sb, hsb⟩ : ∃ sb, (ndAt C (b : Int)).sort = sb := ⟨_, rfl⟩
  have HSA := Lib.hid hsa
  have HSB := Lib.hid hsb
  rw [hsa] at ya
  rw [hsb] at yb
  clear hsa hsb
  by_cases h1 : sa = sb
  rotate_left
  · have d1 : (sa != sb) = true := by simpa using h1
    clear h1
    go_enter Tryz.func120, Tryz.ntmps120
    go_wp2
    refine bodyPost_ret (v := .tuple #[.agg #[.slice none 0 0], .int .i64 0, .int .i64 33]) (by simp [results, Tryz.results120, go_sem, HX0.out.res]) rfl ?_
    exact HX0.out.ret_bad (ImgQ.bad (by decide))
  · subst h1
    have d1 : (sa != sa) = false := by simp
    by_cases h0 : sa = 0
    · subst h0
      have hbA : Below w0.heap.size w0 (w0.alloc (.cells #[.int .i64 (a : Int), .int .i64 (b : Int)] 3)) := (Below.refl _ w0).alloc (Nat.le_refl _) _
      have HXA := Lib.hid (HX0.out.below hbA)
      have KP : Hid (Calls Tryz.prog 118 #[.agg #[.slice (some ⟨g, goff, none⟩) C.length c], .int .i8 6, .slice (some ⟨w0.heap.size, 0, none⟩) 2 2, .int .i64 most] (w0.alloc (.cells #[.int .i64 (a : Int), .int .i64 (b : Int)] 3)) (PutIs (some ⟨g, goff, none⟩) C (putL C 6 [(a : Int), (b : Int)] most) (w0.alloc (.cells #[.int .i64 (a : Int), .int .i64 (b : Int)] 3)))) := Lib.hid (cput_ok c (.inr (.inr (.inr (.inr (.inr (.inr (.inl rfl))))))) most (V := [(a : Int), (b : Int)]) 2 HXA.out.hc HXA.out.tab HS.out HL.out (row2 w0 ((a : Int)) ((b : Int))) (by simp) (in_two ⟨t1, t2⟩ ⟨t3, t4⟩))
      clear hbA
      go_enter Tryz.func120, Tryz.ntmps120
      go_wp2_with fail
      refine KP.out.mono ?_
      rintro e w3 ⟨A', c', rfl, ht, hc', hf, hb3⟩
      have HE2 := Lib.hid (fun he => And.intro ((putL_img HW.out HI.out (op := 6) (V := [(a : Int), (b : Int)]) (most := most) (.inr (.inr (.inr rfl))) (fun e => by cases e) (fun _ => ⟨by show (ndAt C (a : Int)).sort ≠ 1; rw [HSA.out]; decide, .inl HSA.out⟩) he).1) (putL_most he))
      clear KP
      generalize putL C 6 [(a : Int), (b : Int)] most = r at *
      obtain ⟨T', id', e'⟩ := r
      dsimp only at HE2 ht hc' ⊢
      have hq : True := trivial
      have HY := Lib.hid (HXA.out.below hb3)
      have HTC := Lib.hid (And.intro hb3 (And.intro ht (And.intro hc' (And.intro hf hq))))
      obtain ⟨q0, q1, q2, q3⟩ := HY.out.cells
      clear ht hc' hf hb3 hq s0 s1 s2 s3
      go_wp2
      refine bodyPost_ret (v := .tuple #[.agg #[.slice A' T'.length c'], .int .i64 id', .int .i64 e']) (by simp [results, Tryz.results120, go_sem, HY.out.res]) rfl ?_
      exact HXA.out.ret_call HTC.out.1 HTC.out.2.1 HTC.out.2.2.1 HTC.out.2.2.2.1 (fun he => HE2.out he)
    · have d2 : (sa == 0) = false := by simpa using h0
      by_cases h1 : sa = 1
      rotate_left
      · have d3 : (sa != 1) = true := by simpa using h1
        have H1 := Lib.hid h1
        have KP := Lib.hid (csame_ok c a b most HW.out ⟨t1, t2⟩ ⟨t3, t4⟩ HX0.out.hc HX0.out.tab HL.out)
        clear h1 h0
        go_enter Tryz.func120, Tryz.ntmps120
        go_wp2_with fail
        refine KP.out.mono ?_
        rintro e w3 ⟨A', c', T', id', e', rfl, ht, hc', hf, hq, hb3⟩
        have HE2 : Hid (ImgQ C most 0 T' id' e') := Lib.hid (fun he => by
          have hsame := same_img HW.out HI.out (a := a) (b := b) (most := most) (by rw [HSA.out, HSB.out]) (by rw [HSA.out]; exact H1.out)
          rw [← hq] at hsame
          exact hsame he)
        have HY := Lib.hid (HX0.out.below hb3)
        have HTC := Lib.hid (And.intro hb3 (And.intro ht (And.intro hc' (And.intro hf hq))))
        obtain ⟨q0, q1, q2, q3⟩ := HY.out.cells
        clear ht hc' hf hb3 hq s0 s1 s2 s3 KP
        go_wp2
        refine bodyPost_ret (v := .tuple #[.agg #[.slice A' T'.length c'], .int .i64 id', .int .i64 e']) (by simp [results, Tryz.results120, go_sem, HY.out.res]) rfl ?_
        exact HX0.out.ret_call HTC.out.1 HTC.out.2.1 HTC.out.2.2.1 HTC.out.2.2.2.1 (HE2.out)
      · subst h1
        clear h0 d2
        have ia : In64 (a : Int) := by have := HL.out; unfold In64; omega
        have ib : In64 (b : Int) := by have := HL.out; unfold In64; omega
        have KL1 := Lib.hid (rle_ok c a b 0 most ia ib HX0.out.hc HX0.out.tab HL.out HW.out.ordB)
        go_enter Tryz.func120, Tryz.ntmps120
        go_wp2_with fail
        refine KL1.out.mono ?_
        rintro e v1 ⟨A1, c1, rfl, ht1, hc1, hf1, hb1⟩
        have HE1 := Lib.hid (fun he => And.intro (leT_img HW.out HI.out (a := (a : Int)) (b := (b : Int)) (c := 0) (most := most) he) (leT_most he))
        have HXB1 := Lib.hid (HX0.out.below hb1)
        have HX1 := Lib.hid (HX0.out.set hb1 ht1 hc1 hf1)
        clear KL1 ht1 hc1 hf1 hb1 s0 s1 s2 s3 ya yb
        generalize leT C (a : Int) (b : Int) 0 most = r1 at *
        obtain ⟨T1, id1, is1, e1⟩ := r1
        dsimp only at HE1 HX1
        obtain ⟨z10, z11, z12, z13⟩ := HXB1.out.cells
        obtain ⟨y10, y11, y12, y13⟩ := HX1.out.cells
        by_cases he : e1 = 0
        rotate_left
        · have d1 : (e1 != 0) = true := by simpa using he
          have HNE := Lib.hid he
          clear he
          go_wp2
          refine bodyPost_ret (v := .tuple #[.agg #[.slice none 0 0], .int .i64 0, .int .i64 e1]) (by simp [results, Tryz.results120, go_sem, HX1.out.res]) rfl ?_
          exact HX1.out.ret_bad (ImgQ.bad HNE.out)
        · subst he
          have HG1 := Lib.hid (HE1.out rfl)
          have hl1 : T1.length < 100000 := by have := HG1.out.2; have := HM.out; have := HL0.out; omega
          have HL1 := Lib.hid hl1
          clear hl1
          obtain ⟨W1, hW1⟩ : ∃ W1, v1.setCell ⟨w.heap.size, 0, none⟩ (.slice A1 T1.length c1) = W1 := ⟨_, rfl⟩
          rw [hW1] at HX1 y10 y11 y12 y13
          have KL2 := Lib.hid (rle_ok c1 b a 0 most ib ia HX1.out.hc HX1.out.tab HL1.out HG1.out.1.img.ext.well.ordB)
          go_wp2_with fail
          refine KL2.out.mono ?_
          rintro e v2 ⟨A2, c2, rfl, ht2, hc2, hf2, hb2⟩
          have HE2 := Lib.hid (fun he => And.intro (leT_img HG1.out.1.img.ext.well HG1.out.1.img.ite (a := (b : Int)) (b := (a : Int)) (c := 0) (most := most) he) (leT_most he))
          have HXB2 := Lib.hid (HX1.out.below hb2)
          have HX2 := Lib.hid (HX1.out.set hb2 ht2 hc2 hf2)
          clear KL2 ht2 hc2 hf2 hb2 y10 y11 y12 y13
          generalize leT T1 (b : Int) (a : Int) 0 most = r2 at *
          obtain ⟨T2, id2, is2, e2⟩ := r2
          dsimp only at HE2 HX2
          obtain ⟨z20, z21, z22, z23⟩ := HXB2.out.cells
          obtain ⟨y20, y21, y22, y23⟩ := HX2.out.cells
          by_cases he : e2 = 0
          rotate_left
          · have d1 : (e2 != 0) = true := by simpa using he
            have HNE := Lib.hid he
            clear he
            go_wp2
            refine bodyPost_ret (v := .tuple #[.agg #[.slice none 0 0], .int .i64 0, .int .i64 e2]) (by simp [results, Tryz.results120, go_sem, HX2.out.res]) rfl ?_
            exact HX2.out.ret_bad (ImgQ.bad HNE.out)
          · subst he
            have HG2 := Lib.hid (HE2.out rfl)
            have HL2 : Hid (T2.length < 100000) := Lib.hid (by have := HG1.out.2; have := HG2.out.2; have := HM.out; have := HL0.out; omega)
            have HS2 : Hid (∀ n ∈ T2, 0 ≤ n.sort) := Lib.hid (fun n hn => by obtain ⟨_, _, _, hst⟩ := HG2.out.1.img.ext.well.core.ok.stands hn; exact hst.srt.1)
            obtain ⟨W2, hW2⟩ : ∃ W2, v2.setCell ⟨w.heap.size, 0, none⟩ (.slice A2 T2.length c2) = W2 := ⟨_, rfl⟩
            rw [hW2] at HX2 y20 y21 y22 y23
            have hbA : Below W2.heap.size W2 (W2.alloc (.cells #[.int .i64 id1, .int .i64 id2] 3)) := (Below.refl _ W2).alloc (Nat.le_refl _) _
            have HXA := Lib.hid (HX2.out.below hbA)
            have KP : Hid (Calls Tryz.prog 118 #[.agg #[.slice A2 T2.length c2], .int .i8 2, .slice (some ⟨W2.heap.size, 0, none⟩) 2 2, .int .i64 most] (W2.alloc (.cells #[.int .i64 id1, .int .i64 id2] 3)) (PutIs A2 T2 (putL T2 2 [id1, id2] most) (W2.alloc (.cells #[.int .i64 id1, .int .i64 id2] 3)))) := Lib.hid (cput_ok c2 (.inr (.inr (.inl rfl))) most (V := [id1, id2]) 2 HXA.out.hc HXA.out.tab HS2.out HL2.out (row2 W2 (id1) (id2)) (by simp) (in_two ⟨HG1.out.1.img.lo, by have := HG1.out.1.img.hi; have := HG2.out.1.img.ext.len; omega⟩ ⟨HG2.out.1.img.lo, HG2.out.1.img.hi⟩))
            clear hbA
            go_wp2_with fail
            refine KP.out.mono ?_
            rintro e w3 ⟨A', c', rfl, ht, hc', hf, hb3⟩
            have HE3 := Lib.hid (fun he => And.intro (putL_img HG2.out.1.img.ext.well HG2.out.1.img.ite (op := 2) (V := [id1, id2]) (most := most) (.inr (.inl rfl)) (fun e => by cases e) (fun e => by cases e) he).1 (putL_most he))
            clear KP
            generalize putL T2 2 [id1, id2] most = r at *
            obtain ⟨T', id', e'⟩ := r
            dsimp only at HE3 ht hc' ⊢
            have hq : True := trivial
            have HY := Lib.hid (HXA.out.below hb3)
            have HTC := Lib.hid (And.intro hb3 (And.intro ht (And.intro hc' (And.intro hf hq))))
            obtain ⟨q0, q1, q2, q3⟩ := HY.out.cells
            clear ht hc' hf hb3 hq y20 y21 y22 y23
            go_wp2
            refine bodyPost_ret (v := .tuple #[.agg #[.slice A' T'.length c'], .int .i64 id', .int .i64 e']) (by simp [results, Tryz.results120, go_sem, HY.out.res]) rfl ?_
            exact HXA.out.ret_call HTC.out.1 HTC.out.2.1 HTC.out.2.2.1 HTC.out.2.2.2.1 (ImgQ.mono (HG1.out.1.trans HG2.out.1) (by have := HG1.out.2; have := HG2.out.2; omega) (fun he => HE3.out he))
end Go.Proofs.YtlipnnibagidiaaGreat

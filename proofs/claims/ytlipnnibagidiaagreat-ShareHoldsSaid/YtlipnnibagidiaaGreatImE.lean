/- gantryref12.bools, equal. -/
import Derived.Test.YtlipnnibagidiaaGreatImC
namespace Go.Proofs.YtlipnnibagidiaaGreat
open Go.RowKit Go.Lib
def sameT (C : List Nd) (a b most : Int) : PutR := if a = b then ⟨C, 0, 0⟩ else putL C 6 [min a b, max a b] most
set_option maxRecDepth 100000 in
set_option maxHeartbeats 4000000 in
theorem csame_ok {C : List Nd} {w : World} {A : Option Addr} (c : Nat) (a b most : Int) (hw : Well C) (ha : 0 ≤ a ∧ a < C.length) (hb : 0 ≤ b ∧ b < C.length) (hc : C.length ≤ c) (h : Tab w A C) (hl : C.length < 100000) :
    Calls Tryz.prog 154 #[.agg #[.slice A C.length c], .int .i64 a, .int .i64 b, .int .i64 most] w (OutT A C (fun T' id er => (⟨T', id, er⟩ : PutR) = sameT C a b most) w) := by
  obtain ⟨w0, hw0⟩ : ∃ w0, ((w.alloc (.cells #[.slice A C.length c] 33)).alloc (.cells #[.slice none 0 0] 33)) = w0 := ⟨_, rfl⟩
  have HX0 : Hid (MX w A C w.heap.size A C c w0) := zzh (hw0 ▸ MX.start h hc)
  have HW := zzh hw
  have HL := zzh hl
  have HS : Hid (∀ n ∈ C, 0 ≤ n.sort) := zzh (fun n hn => by obtain ⟨_, _, _, hst⟩ := hw.core.ok.stands hn; exact hst.srt.1)
  have HAB := zzh (And.intro ha hb)
  clear hc h hw hl ha hb
  obtain ⟨s0, s1, s2, s3⟩ := HX0.out.cells
  by_cases hab : a = b
  · have d1 : (a == b) = true := by simpa using hab
    have HQ : Hid ((⟨C, 0, 0⟩ : PutR) = sameT C a b most) := zzh (by unfold sameT; rw [if_pos hab])
    clear hab
    go_enter Tryz.func154, Tryz.ntmps154
    go_wp2
    refine bodyPost_ret (v := .tuple #[.agg #[.slice A C.length c], .int .i64 0, .int .i64 0]) (by simp [results, Tryz.results154, go_sem, HX0.out.res]) rfl ?_
    exact HX0.out.ret_in HW.out.pos (HQ.out)
  · have d1 : (a == b) = false := by simpa using hab
    have HQ : Hid (putL C 6 [min a b, max a b] most = sameT C a b most) := zzh (by unfold sameT; rw [if_neg hab])
    have HN := zzh hab
    clear hab
    by_cases hlt : a < b
    · have e1 : decide (a < b) = true := decide_eq_true hlt
      have e2 : decide (b < a) = false := decide_eq_false (by omega)
      rw [show min a b = a by omega, show max a b = b by omega] at HQ
      have HB : Hid (∀ x ∈ [a, b], 0 ≤ x ∧ x < (C.length : Int)) := zzh (fun x hx => by
        have := HAB.out
        rcases List.mem_cons.1 hx with rfl | hx
        · omega
        · rw [List.mem_singleton.1 hx]
          omega)
      have hbA : Below w0.heap.size w0 (w0.alloc (.cells #[.int .i64 a, .int .i64 b] 3)) := (Below.refl _ w0).alloc (Nat.le_refl _) _
      have HXA := zzh (HX0.out.below hbA)
      have KP : Hid (Calls Tryz.prog 118 #[.agg #[.slice A C.length c], .int .i8 6, .slice (some ⟨w0.heap.size, 0, none⟩) 2 2, .int .i64 most] (w0.alloc (.cells #[.int .i64 a, .int .i64 b] 3)) (PutIs A C (putL C 6 [a, b] most) (w0.alloc (.cells #[.int .i64 a, .int .i64 b] 3)))) := zzh (cput_ok c (.inr (.inr (.inr (.inr (.inr (.inr (.inl rfl))))))) most (V := [a, b]) 2 HXA.out.hc HXA.out.tab HS.out HL.out (row2 w0 (a) (b)) (by simp) HB.out)
      clear hbA
      go_enter Tryz.func154, Tryz.ntmps154
      go_wp2_with fail
      refine KP.out.mono ?_
      rintro e w3 ⟨A', c', rfl, ht, hc', hf, hb3⟩
      have HE2 := zzh (HQ.out)
      clear KP
      generalize putL C 6 [a, b] most = r at *
      obtain ⟨T', id', e'⟩ := r
      dsimp only at HE2 ht hc'
      have hq : True := trivial
      have HY := zzh (HXA.out.below hb3)
      have HTC := zzh (And.intro hb3 (And.intro ht (And.intro hc' (And.intro hf hq))))
      obtain ⟨q0, q1, q2, q3⟩ := HY.out.cells
      clear ht hc' hf hb3 hq s0 s1 s2 s3
      go_wp2
      refine bodyPost_ret (v := .tuple #[.agg #[.slice A' T'.length c'], .int .i64 id', .int .i64 e']) (by simp [results, Tryz.results154, go_sem, HY.out.res]) rfl ?_
      exact HXA.out.ret_call HTC.out.1 HTC.out.2.1 HTC.out.2.2.1 HTC.out.2.2.2.1 (HE2.out)
    · have hgt : b < a := by have := HN.out; omega
      have e1 : decide (a < b) = false := decide_eq_false hlt
      have e2 : decide (b < a) = true := decide_eq_true hgt
      rw [show min a b = b by omega, show max a b = a by omega] at HQ
      have HB : Hid (∀ x ∈ [b, a], 0 ≤ x ∧ x < (C.length : Int)) := zzh (fun x hx => by
        have := HAB.out
        rcases List.mem_cons.1 hx with rfl | hx
        · omega
        · rw [List.mem_singleton.1 hx]
          omega)
      have hbA : Below w0.heap.size w0 (w0.alloc (.cells #[.int .i64 b, .int .i64 a] 3)) := (Below.refl _ w0).alloc (Nat.le_refl _) _
      have HXA := zzh (HX0.out.below hbA)
      have KP : Hid (Calls Tryz.prog 118 #[.agg #[.slice A C.length c], .int .i8 6, .slice (some ⟨w0.heap.size, 0, none⟩) 2 2, .int .i64 most] (w0.alloc (.cells #[.int .i64 b, .int .i64 a] 3)) (PutIs A C (putL C 6 [b, a] most) (w0.alloc (.cells #[.int .i64 b, .int .i64 a] 3)))) := zzh (cput_ok c (.inr (.inr (.inr (.inr (.inr (.inr (.inl rfl))))))) most (V := [b, a]) 2 HXA.out.hc HXA.out.tab HS.out HL.out (row2 w0 (b) (a)) (by simp) HB.out)
      clear hbA
      go_enter Tryz.func154, Tryz.ntmps154
      go_wp2_with fail
      refine KP.out.mono ?_
      rintro e w3 ⟨A', c', rfl, ht, hc', hf, hb3⟩
      have HE2 := zzh (HQ.out)
      clear KP
      generalize putL C 6 [b, a] most = r at *
      obtain ⟨T', id', e'⟩ := r
      dsimp only at HE2 ht hc'
      have hq : True := trivial
      have HY := zzh (HXA.out.below hb3)
      have HTC := zzh (And.intro hb3 (And.intro ht (And.intro hc' (And.intro hf hq))))
      obtain ⟨q0, q1, q2, q3⟩ := HY.out.cells
      clear ht hc' hf hb3 hq s0 s1 s2 s3
      go_wp2
      refine bodyPost_ret (v := .tuple #[.agg #[.slice A' T'.length c'], .int .i64 id', .int .i64 e']) (by simp [results, Tryz.results154, go_sem, HY.out.res]) rfl ?_
      exact HXA.out.ret_call HTC.out.1 HTC.out.2.1 HTC.out.2.2.1 HTC.out.2.2.2.1 (HE2.out)
set_option maxRecDepth 100000 in
set_option maxHeartbeats 4000000 in
theorem cle_ok {C : List Nd} {w : World} {A : Option Addr} (c : Nat) (a b k most : Int) (hw : Well C) (hi : IteOk C) (ha : In64 a) (hb : In64 b) (hc : C.length ≤ c) (h : Tab w A C) (hl : C.length < 100000) :
    Calls Tryz.prog 122 #[.agg #[.slice A C.length c], .int .i64 a, .int .i64 b, .int .i64 k, .int .i64 most] w (OutT A C (ImgQ C most 0) w) := by
  obtain ⟨w0, hw0⟩ : ∃ w0, ((w.alloc (.cells #[.slice A C.length c] 33)).alloc (.cells #[.slice none 0 0] 33)) = w0 := ⟨_, rfl⟩
  have HX0 : Hid (MX w A C w.heap.size A C c w0) := zzh (hw0 ▸ MX.start h hc)
  have HW := zzh hw
  have HI := zzh hi
  have HL := zzh hl
  have HS : Hid (∀ n ∈ C, 0 ≤ n.sort) := zzh (fun n hn => by obtain ⟨_, _, _, hst⟩ := hw.core.ok.stands hn; exact hst.srt.1)
  have KL := zzh (rle_ok c a b k most ha hb hc HX0.out.tab hl hw.ordB)
  clear hc h hw hi hl ha hb
  obtain ⟨s0, s1, s2, s3⟩ := HX0.out.cells
  go_enter Tryz.func122, Tryz.ntmps122
  go_wp2_with fail
  refine KL.out.mono ?_
  rintro e w1 ⟨A1, c1, rfl, ht, hc1, hf, hb1⟩
  have HE := zzh (fun he => And.intro (leT_img HW.out HI.out (a := a) (b := b) (c := k) (most := most) he) (leT_most he))
  have HXB := zzh (HX0.out.below hb1)
  have HX1 := zzh (HX0.out.set hb1 ht hc1 hf)
  obtain ⟨z0, z1, z2, z3⟩ := HXB.out.cells
  obtain ⟨y0, y1, y2, y3⟩ := HX1.out.cells
  clear KL ht hc1 hf hb1 s0 s1 s2 s3
  generalize leT C a b k most = r at *
  obtain ⟨T1, id1, is1, e1⟩ := r
  dsimp only at HE HX1 y0 y1 y2 y3
  by_cases he : e1 = 0
  rotate_left
  · have d1 : (e1 != 0) = true := by simpa using he
    have HNE := zzh he
    clear he
    go_wp2
    refine bodyPost_ret (v := .tuple #[.agg #[.slice none 0 0], .int .i64 0, .int .i64 e1]) (by simp [results, Tryz.results122, go_sem, HX1.out.res]) rfl ?_
    exact HX1.out.ret_bad (ImgQ.bad HNE.out)
  · subst he
    have HG := zzh (HE.out rfl)
    have HP : Hid (0 < T1.length) := zzh (HG.out.1.img.ext.well.pos)
    go_wp2
    refine bodyPost_ret (v := .tuple #[.agg #[.slice A1 T1.length c1], .int .i64 id1, .int .i64 0]) (by simp [results, Tryz.results122, go_sem, HX1.out.res]) rfl ?_
    exact HX1.out.ret_in HP.out (show ImgQ C most 0 T1 id1 0 from fun _ => HG.out)
theorem in_two {n a b : Int} (ha : 0 ≤ a ∧ a < n) (hb : 0 ≤ b ∧ b < n) : ∀ y ∈ [a, b], 0 ≤ y ∧ y < n := fun y hy => by
  rcases List.mem_cons.1 hy with rfl | hy
  · exact ha
  · rw [List.mem_singleton.1 hy]
    exact hb
theorem in_three {n a b d : Int} (ha : 0 ≤ a ∧ a < n) (hb : 0 ≤ b ∧ b < n) (hd : 0 ≤ d ∧ d < n) : ∀ y ∈ [a, b, d], 0 ≤ y ∧ y < n := fun y hy => by
  rcases List.mem_cons.1 hy with rfl | hy
  · exact ha
  · exact in_two hb hd y hy
theorem ImgQ.mono {C : List Nd} {most s s' id : Int} {T T' : List Nd} {i er : Int} (h : ImgS C T i s') (hm : (T.length : Int) ≤ max (C.length : Int) most) (k : ImgQ T most s T' id er) : ImgQ C most s T' id er := fun e => by
  obtain ⟨k1, k2⟩ := k e
  exact ⟨h.trans k1, by omega⟩
set_option maxRecDepth 100000 in
set_option maxHeartbeats 4000000 in
theorem cbools_ok {C : List Nd} {w : World} {A : Option Addr} (c : Nat) {op : Int} (hop : op = 4 ∨ op = 5) (a b : Nat) (most : Int) (hw : Well C) (hi : IteOk C) (ha : a < C.length) (hb : b < C.length) (hsa : (ndAt C a).sort = 0) (hc : C.length ≤ c) (h : Tab w A C) (hl : C.length < 50000) (hm : most < 50000) :
    Calls Tryz.prog 119 #[.agg #[.slice A C.length c], .int .i8 op, .int .i64 a, .int .i64 b, .int .i64 most] w (OutT A C (ImgQ C most 0) w) := by
  have hl0 := hl
  have hl : C.length < 100000 := by omega
  obtain ⟨w0, hw0⟩ : ∃ w0, ((w.alloc (.cells #[.slice A C.length c] 33)).alloc (.cells #[.slice none 0 0] 33)) = w0 := ⟨_, rfl⟩
  have HX0 : Hid (MX w A C w.heap.size A C c w0) := zzh (hw0 ▸ MX.start h hc)
  have HW := zzh hw
  have HI := zzh hi
  have HL := zzh hl
  have HS : Hid (∀ n ∈ C, 0 ≤ n.sort) := zzh (fun n hn => by obtain ⟨_, _, _, hst⟩ := hw.core.ok.stands hn; exact hst.srt.1)
  have HL0 := zzh hl0
  have HM := zzh hm
  have HSA := zzh hsa
  have HA := zzh (And.intro ha hb)
  clear hl hl0 hm hsa
  rcases hop with rfl | rfl
  · skip
    have hbA : Below w0.heap.size w0 (w0.alloc (.cells #[.int .i64 (a : Int), .int .i64 (b : Int)] 3)) := (Below.refl _ w0).alloc (Nat.le_refl _) _
    have HXA := zzh (HX0.out.below hbA)
    have KP : Hid (Calls Tryz.prog 118 #[.agg #[.slice A C.length c], .int .i8 6, .slice (some ⟨w0.heap.size, 0, none⟩) 2 2, .int .i64 most] (w0.alloc (.cells #[.int .i64 (a : Int), .int .i64 (b : Int)] 3)) (PutIs A C (putL C 6 [(a : Int), (b : Int)] most) (w0.alloc (.cells #[.int .i64 (a : Int), .int .i64 (b : Int)] 3)))) := zzh (cput_ok c (.inr (.inr (.inr (.inr (.inr (.inr (.inl rfl))))))) most (V := [(a : Int), (b : Int)]) 2 HXA.out.hc HXA.out.tab HS.out HL.out (row2 w0 ((a : Int)) ((b : Int))) (by simp) (in_two (by omega) (by omega)))
    clear hbA
    obtain ⟨s0, s1, s2, s3⟩ := HX0.out.cells
    clear hw hi hc h ha hb
    go_enter Tryz.func119, Tryz.ntmps119
    go_wp2_with fail
    refine KP.out.mono ?_
    rintro e w3 ⟨A', c', rfl, ht, hc', hf, hb3⟩
    have HE2 := zzh (fun he => And.intro (putL_img HW.out HI.out (op := 6) (V := [(a : Int), (b : Int)]) (most := most) (.inr (.inr (.inr rfl))) (fun e => by cases e) (fun _ => ⟨by show (ndAt C (a : Int)).sort ≠ 1; rw [HSA.out]; decide, .inl HSA.out⟩) he) (putL_most he))
    clear KP
    generalize putL C 6 [(a : Int), (b : Int)] most = r at *
    obtain ⟨T', id', e'⟩ := r
    dsimp only at HE2 ht hc' ⊢
    have HXI := zzh (HXA.out.into hb3 ht hc' hf)
    obtain ⟨q0, q1, q2, q3⟩ := HXI.out.cells
    clear ht hc' hf hb3 s0 s1 s2 s3
    by_cases he : e' = 0
    rotate_left
    · have d1 : (e' != 0) = true := by simpa using he
      have HNE := zzh he
      clear he
      go_wp2
      refine bodyPost_ret (v := .tuple #[.agg #[.slice none 0 0], .int .i64 0, .int .i64 e']) (by simp [results, Tryz.results119, go_sem, HXI.out.res]) rfl ?_
      exact HXI.out.ret_bad (ImgQ.bad HNE.out)
    · subst he
      have HG := zzh (HE2.out rfl)
      obtain ⟨k, rfl⟩ : ∃ k : Nat, id' = k := ⟨id'.toNat, by have := HG.out.1.1.img.lo; omega⟩
      have KN := zzh (cnot_ok c' k most HG.out.1.1.img.ext.well HG.out.1.1.img.ite (by have := HG.out.1.1.img.hi; omega) HXI.out.hc HXI.out.tab (by have := HG.out.2; have := HM.out; have := HL0.out; omega))
      go_wp2_with fail
      refine KN.out.mono ?_
      rintro e w5 ⟨A2, c2, T2, id2, e2, rfl, ht2, hc2, hf2, hq2, hb5⟩
      clear KN
      have HY := zzh (HXI.out.below hb5)
      have HTC := zzh (And.intro hb5 (And.intro ht2 (And.intro hc2 (And.intro hf2 hq2))))
      clear ht2 hc2 hf2 hb5 hq2 q0 q1 q2 q3
      obtain ⟨q0, q1, q2, q3⟩ := HY.out.cells
      go_wp2
      refine bodyPost_ret (v := .tuple #[.agg #[.slice A2 T2.length c2], .int .i64 id2, .int .i64 e2]) (by simp [results, Tryz.results119, go_sem, HY.out.res]) rfl ?_
      exact HXI.out.ret_call HTC.out.1 HTC.out.2.1 HTC.out.2.2.1 HTC.out.2.2.2.1 (HTC.out.2.2.2.2.mono HG.out.1.1 HG.out.2)
  · have KN := zzh (cnot_ok c a most HW.out HI.out HA.out.1 HX0.out.hc HX0.out.tab HL.out)
    obtain ⟨s0, s1, s2, s3⟩ := HX0.out.cells
    clear hw hi hc h ha hb
    go_enter Tryz.func119, Tryz.ntmps119
    go_wp2_with fail
    refine KN.out.mono ?_
    rintro e w3 ⟨A', c', T', id', e', rfl, ht, hc', hf, hq, hb3⟩
    have HQ := zzh hq
    have HXB := zzh (HX0.out.below hb3)
    have HXI := zzh (HX0.out.set hb3 ht hc' hf)
    obtain ⟨z0, z1, z2, z3⟩ := HXB.out.cells
    obtain ⟨q0, q1, q2, q3⟩ := HXI.out.cells
    clear ht hc' hf hb3 hq s0 s1 s2 s3 KN
    by_cases he : e' = 0
    rotate_left
    · have d1 : (e' != 0) = true := by simpa using he
      have HNE := zzh he
      clear he
      go_wp2
      refine bodyPost_ret (v := .tuple #[.agg #[.slice none 0 0], .int .i64 0, .int .i64 e']) (by simp [results, Tryz.results119, go_sem, HXI.out.res]) rfl ?_
      exact HXI.out.ret_bad (ImgQ.bad HNE.out)
    · subst he
      have HG := zzh (HQ.out rfl)
      obtain ⟨W, hW⟩ : ∃ W, w3.setCell ⟨w.heap.size, 0, none⟩ (.slice A' T'.length c') = W := ⟨_, rfl⟩
      rw [hW] at HXI q0 q1 q2 q3
      have HS' : Hid (∀ n ∈ T', 0 ≤ n.sort) := zzh (fun n hn => by obtain ⟨_, _, _, hst⟩ := HG.out.1.img.ext.well.core.ok.stands hn; exact hst.srt.1)
      have HL' : Hid (T'.length < 100000) := zzh (by have := HG.out.2; have := HM.out; have := HL0.out; omega)
      have hbA : Below W.heap.size W (W.alloc (.cells #[.int .i64 id', .int .i64 (b : Int)] 3)) := (Below.refl _ W).alloc (Nat.le_refl _) _
      have HXA := zzh (HXI.out.below hbA)
      have KP : Hid (Calls Tryz.prog 118 #[.agg #[.slice A' T'.length c'], .int .i8 3, .slice (some ⟨W.heap.size, 0, none⟩) 2 2, .int .i64 most] (W.alloc (.cells #[.int .i64 id', .int .i64 (b : Int)] 3)) (PutIs A' T' (putL T' 3 [id', (b : Int)] most) (W.alloc (.cells #[.int .i64 id', .int .i64 (b : Int)] 3)))) := zzh (cput_ok c' (.inr (.inr (.inr (.inl rfl)))) most (V := [id', (b : Int)]) 2 HXA.out.hc HXA.out.tab HS'.out HL'.out (row2 W (id') ((b : Int))) (by simp) (in_two ⟨HG.out.1.img.lo, HG.out.1.img.hi⟩ (by have h3 := HG.out.1.img.ext.len; have h4 := HA.out.2; omega)))
      clear hbA
      go_wp2_with fail
      refine KP.out.mono ?_
      rintro e w5 ⟨A2, c2, rfl, ht2, hc2, hf2, hb5⟩
      have HE2 := zzh (fun he => And.intro (putL_img HG.out.1.img.ext.well HG.out.1.img.ite (op := 3) (V := [id', (b : Int)]) (most := most) (.inr (.inr (.inl rfl))) (fun e => by cases e) (fun e => by cases e) he).1 (putL_most he))
      clear KP
      generalize putL T' 3 [id', (b : Int)] most = r at *
      obtain ⟨T2, id2, e2⟩ := r
      dsimp only at HE2 ht2 hc2 ⊢
      have hq2 : True := trivial
      have HY := zzh (HXA.out.below hb5)
      have HTC := zzh (And.intro hb5 (And.intro ht2 (And.intro hc2 (And.intro hf2 hq2))))
      clear ht2 hc2 hf2 hb5 hq2 q0 q1 q2 q3
      obtain ⟨q0, q1, q2, q3⟩ := HY.out.cells
      go_wp2
      refine bodyPost_ret (v := .tuple #[.agg #[.slice A2 T2.length c2], .int .i64 id2, .int .i64 e2]) (by simp [results, Tryz.results119, go_sem, HY.out.res]) rfl ?_
      exact HXA.out.ret_call HTC.out.1 HTC.out.2.1 HTC.out.2.2.1 HTC.out.2.2.2.1 (ImgQ.mono HG.out.1 HG.out.2 (fun he => HE2.out he))
end Go.Proofs.YtlipnnibagidiaaGreat

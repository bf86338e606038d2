/- gantryref11.Add; gantryref12.not, same, le. -/
import Derived.Test.YtlipnnibagidiaaGreatImB
namespace Go.Proofs.YtlipnnibagidiaaGreat
open Go.RowKit Go.Lib

theorem addN_e {a b : Int} (h : (addN a b).2 = 0) : In64 (addN a b).1 := by
  rcases addN_cases a b with ⟨_, _, h3, e⟩ | ⟨_, e⟩
  · rw [e]
    rw [mayI_iff] at h3
    unfold In64
    show -9223372036854775808 ≤ a + b ∧ a + b ≤ 9223372036854775807
    omega
  · rw [e] at h
    cases h
theorem Well.base_in {C : List Nd} (h : Well C) {a : Int} (ha : Shd C a) : 0 ≤ (baseT C a).1 ∧ (baseT C a).1 < C.length := by
  have := (base_own h.core h.sum ha)
  exact ⟨this.2.1, this.2.2.1⟩
set_option maxRecDepth 100000 in
set_option maxHeartbeats 4000000 in
theorem raddn_ok {C : List Nd} {w : World} {A : Option Addr} (c : Nat) (a n most : Int) (hw : Well C) (hi : IteOk C) (ha : In64 a) (hc : C.length ≤ c) (h : Tab w A C) (hl : C.length < 100000) :
    Calls Tryz.prog 116 #[.agg #[.slice A C.length c], .int .i64 a, .int .i64 n, .int .i64 most] w (OutT A C (ImgQ C most 1) w) := by
  have HX0 := Lib.hid (MX.start h hc)
  have HW := Lib.hid hw
  have HI := Lib.hid hi
  have HL := Lib.hid hl
  have KO := Lib.hid (rof_ok c a ha HX0.out.tab hw.ordB)
  clear hc h hw hi ha hl
  obtain ⟨s0, s1, s2, s3⟩ := HX0.out.cells
  go_enter Tryz.func116, Tryz.ntmps116
  go_wp2_with fail
  refine KO.out.mono ?_
  rintro e w1 ⟨rfl, hb1⟩
  have HX1 := Lib.hid (HX0.out.below hb1)
  obtain ⟨z0, z1, z2, z3⟩ := HX1.out.cells
  have HE := Lib.hid (fun he => ofT_e (T := C) (a := a) he)
  clear hb1 s0 s1 s2 s3 KO
  generalize ofT C a = o at *
  obtain ⟨ob, on, oe⟩ := o
  dsimp only at HE ⊢
  by_cases he : oe = 0
  rotate_left
  · have d1 : (oe != 0) = true := by simpa using he
    have HNE := Lib.hid he
    clear he
    go_wp2
    refine bodyPost_ret (v := .tuple #[.agg #[.slice none 0 0], .int .i64 0, .int .i64 oe]) (by simp [results, Tryz.results116, go_sem, HX1.out.res]) rfl ?_
    exact HX1.out.ret_bad (ImgQ.bad HNE.out)
  · subst he
    obtain ⟨hs, hob, hon⟩ := HE.out rfl
    have HBI : Hid (In64 ob) := Lib.hid (by have := HW.out.base_in hs; have := HL.out; unfold In64; omega)
    have KA := Lib.hid (radd_ok on n w1)
    have HAe := Lib.hid (fun he => addN_e (a := on) (b := n) he)
    clear hs hob hon HE
    generalize addN on n = p at *
    obtain ⟨s, er⟩ := p
    dsimp only at KA HAe
    go_wp2_with fail
    refine KA.out.mono ?_
    rintro e w2 ⟨rfl, rfl⟩
    by_cases he2 : er = 0
    rotate_left
    · have d1 : (er != 0) = true := by simpa using he2
      have HNE := Lib.hid he2
      clear he2
      go_wp2
      refine bodyPost_ret (v := .tuple #[.agg #[.slice none 0 0], .int .i64 0, .int .i64 er]) (by simp [results, Tryz.results116, go_sem, HX1.out.res]) rfl ?_
      exact HX1.out.ret_bad (ImgQ.bad HNE.out)
    · subst he2
      have KP := Lib.hid (rputn_ok c ob s most HW.out HI.out HBI.out (HAe.out rfl) HX1.out.hc HX1.out.tab HL.out)
      go_wp2_with fail
      refine KP.out.mono ?_
      rintro e w3 ⟨A', c', T', id', e', rfl, ht, hc', hf, hq, hb3⟩
      have HY := Lib.hid (HX1.out.below hb3)
      have HTC := Lib.hid (And.intro hb3 (And.intro ht (And.intro hc' (And.intro hf hq))))
      obtain ⟨q0, q1, q2, q3⟩ := HY.out.cells
      clear ht hc' hf hb3 hq z0 z1 z2 z3
      go_wp2
      refine bodyPost_ret (v := .tuple #[.agg #[.slice A' T'.length c'], .int .i64 id', .int .i64 e']) (by simp [results, Tryz.results116, go_sem, HY.out.res]) rfl ?_
      exact HX1.out.ret_call HTC.out.1 HTC.out.2.1 HTC.out.2.2.1 HTC.out.2.2.2.1 (HTC.out.2.2.2.2)

theorem OutT.drew {A : Option Addr} {C : List Nd} {Q : List Nd → Int → Int → Prop} {w W : World} {e : Ending} (h : OutT A C Q w e W) : OutT A C Q w e W.drew := by
  obtain ⟨A', c', T', id, er, h1, h2, h3, h4, h5, h6⟩ := h
  exact ⟨A', c', T', id, er, h1, h2.drewN 1, h3, h4, h5, below_drewN h6 1⟩
theorem row1 (w : World) (x : Int) : Row (w.alloc (.cells #[.int .i64 x] 3)) (some ⟨w.heap.size, 0, none⟩) [x] :=
  ⟨by simp, .inr ⟨w.heap.size, 0, rfl, (Blk.new w _ _).lt, fun i hi => by
    have : i = 0 := by simp at hi; omega
    subst this
    exact (Blk.new w 3 #[.int .i64 x]).cell 0⟩⟩
theorem row2 (w : World) (x y : Int) : Row (w.alloc (.cells #[.int .i64 x, .int .i64 y] 3)) (some ⟨w.heap.size, 0, none⟩) [x, y] :=
  ⟨by simp, .inr ⟨w.heap.size, 0, rfl, (Blk.new w _ _).lt, fun i hi => by
    rcases (show i = 0 ∨ i = 1 by simp at hi; omega) with rfl | rfl
    · exact (Blk.new w 3 #[.int .i64 x, .int .i64 y]).cell 0
    · exact (Blk.new w 3 #[.int .i64 x, .int .i64 y]).cell 1⟩⟩
theorem row3 (w : World) (x y z : Int) : Row (w.alloc (.cells #[.int .i64 x, .int .i64 y, .int .i64 z] 3)) (some ⟨w.heap.size, 0, none⟩) [x, y, z] :=
  ⟨by simp, .inr ⟨w.heap.size, 0, rfl, (Blk.new w _ _).lt, fun i hi => by
    rcases (show i = 0 ∨ i = 1 ∨ i = 2 by simp at hi; omega) with rfl | rfl | rfl
    · exact (Blk.new w 3 #[.int .i64 x, .int .i64 y, .int .i64 z]).cell 0
    · exact (Blk.new w 3 #[.int .i64 x, .int .i64 y, .int .i64 z]).cell 1
    · exact (Blk.new w 3 #[.int .i64 x, .int .i64 y, .int .i64 z]).cell 2⟩⟩
/-- A negation. -/
theorem not_img {C : List Nd} (h : Well C) (hi : IteOk C) {x : Int} (h0 : 0 ≤ x) (h1 : x < C.length) (ho : (ndAt C x).op = 1) : ImgS C C (ndAt C x).a0 0 := by
  obtain ⟨k, hk, hkn, hst⟩ := h.core.ok.stands (ndAt_mem h0 h1)
  have ha := hst.one (.inl ho)
  have hs := h.srt _ (ndAt_mem h0 h1) (by omega)
  have hs0 : (ndAt C (ndAt C x).a0).sort = 0 := by
    rw [ho] at hs
    unfold opSort at hs
    simp at hs
    exact hs.1
  have := ImgS.refl h hi (id := (ndAt C x).a0) (by omega) (by omega)
  rwa [hs0] at this

set_option maxRecDepth 100000 in
set_option maxHeartbeats 4000000 in
theorem cnot_ok {C : List Nd} {w : World} {A : Option Addr} (c : Nat) (x : Nat) (most : Int) (hw : Well C) (hi : IteOk C) (hx : x < C.length) (hc : C.length ≤ c) (h : Tab w A C) (hl : C.length < 100000) :
    Calls Tryz.prog 117 #[.agg #[.slice A C.length c], .int .i64 x, .int .i64 most] w (OutT A C (ImgQ C most 0) w) := by
  obtain ⟨w0, hw0⟩ : ∃ w0, ((w.alloc (.cells #[.slice A C.length c] 33)).alloc (.cells #[.slice none 0 0] 33)) = w0 := ⟨_, rfl⟩
  have HX0 : Hid (MX w A C w.heap.size A C c w0) := Lib.hid (hw0 ▸ MX.start h hc)
  have HW := Lib.hid hw
  have HI := Lib.hid hi
  have HL := Lib.hid hl
  have HX := Lib.hid hx
  have HS : Hid (∀ n ∈ C, 0 ≤ n.sort) := Lib.hid (fun n hn => by obtain ⟨_, _, _, hst⟩ := hw.core.ok.stands hn; exact hst.srt.1)
  obtain ⟨g, goff, hA, hgb, hgc⟩ := h.at_.resolve_left (by omega)
  obtain ⟨g', goff', hA', hgb', hgc'⟩ := HX0.out.tab.at_.resolve_left (by omega)
  rw [hA] at hA'
  cases hA'
  obtain ⟨y0, _, y2, _, _, _, _, _⟩ := (hgc' x hx).all
  subst hA
  have hnd : ndAt C (x : Int) = C[x] := ndAt_nat hx
  have HND := Lib.hid hnd
  have HG := Lib.hid hgb
  clear hc h hw hi hl hgc hgc' hgb' hnd
  have t1 : (0 : Int) ≤ (x : Int) := by omega
  have t2 : (x : Int) < (C.length : Int) := by omega
  obtain ⟨s0, s1, s2, s3⟩ := HX0.out.cells
  generalize C[x] = m at *
  by_cases ho : m.op = 1
  · have d1 : (m.op == 1) = true := by simpa using ho
    have HQ : Hid (ImgS C C m.a0 0) := Lib.hid (HND.out ▸ not_img HW.out HI.out (x := x) (by omega) (by omega) (by rw [HND.out]; exact ho))
    have u0 : (w0.setCell ⟨w.heap.size + 1, 0, none⟩ (.slice (some ⟨g, goff, none⟩) C.length c)).cell? ⟨w.heap.size, 0, none⟩ = some (.slice (some ⟨g, goff, none⟩) C.length c) := (HX0.out.t.far (p := ⟨w.heap.size + 1, 0, none⟩) (by simp) _).cell 0
    have u2 : (w0.setCell ⟨w.heap.size + 1, 0, none⟩ (.slice (some ⟨g, goff, none⟩) C.length c)).cell? ⟨g, goff + x * 8 + 2, none⟩ = some (.int .i64 m.a0) := by
      rw [← y2]
      unfold World.cell?
      rw [Below.heap_setCell w0 _ _ g (by have := HG.out; show g ≠ w.heap.size + 1; omega)]
    clear ho
    go_enter Tryz.func117, Tryz.ntmps117
    go_wp2_with fail
    go_region_held3 (fun w' => w'.cell? ⟨w.heap.size, 0, none⟩ = some (.slice (some ⟨g, goff, none⟩) C.length c) ∧ w'.cell? ⟨g, goff + x * 8 + 2, none⟩ = some (.int .i64 m.a0)) (go_keep) (fail)
    go_wp2
    refine bodyPost_ret (v := .tuple #[.agg #[.slice (some ⟨g, goff, none⟩) C.length c], .int .i64 m.a0, .int .i64 0]) (by simp [results, Tryz.results117, go_sem, HX0.out.res]) rfl ?_
    exact OutT.drew (HX0.out.ret_in HW.out.pos (show ImgQ C most 0 C m.a0 0 from fun _ => ⟨HQ.out, by omega⟩))
  · have d1 : (m.op == 1) = false := by simpa using ho
    have HO := Lib.hid ho
    have hbA : Below w0.heap.size w0 (w0.alloc (.cells #[.int .i64 x] 3)) := (Below.refl _ w0).alloc (Nat.le_refl _) _
    have HXA := Lib.hid (HX0.out.below hbA)
    have KP : Hid (Calls Tryz.prog 118 #[.agg #[.slice (some ⟨g, goff, none⟩) C.length c], .int .i8 1, .slice (some ⟨w0.heap.size, 0, none⟩) 1 1, .int .i64 most] (w0.alloc (.cells #[.int .i64 x] 3)) (PutIs (some ⟨g, goff, none⟩) C (putL C 1 [(x : Int)] most) (w0.alloc (.cells #[.int .i64 x] 3)))) := Lib.hid (cput_ok c (.inr (.inl rfl)) most (V := [(x : Int)]) 1 HXA.out.hc HXA.out.tab HS.out HL.out (row1 w0 x) (by simp) (fun y hy => by rw [List.mem_singleton.1 hy]; omega))
    clear ho y2 hbA
    go_enter Tryz.func117, Tryz.ntmps117
    go_wp2_with fail
    refine KP.out.mono ?_
    rintro e w3 ⟨A', c', rfl, ht, hc', hf, hb3⟩
    have HE2 := Lib.hid (fun he => And.intro (putL_img HW.out HI.out (op := 1) (V := [(x : Int)]) (most := most) (.inl rfl) (fun _ => by show (ndAt C (x : Int)).op ≠ 1; rw [HND.out]; exact HO.out) (fun e => by cases e) he).1 (putL_most he))
    clear KP
    generalize putL C 1 [(x : Int)] most = r at *
    obtain ⟨T', id', e'⟩ := r
    dsimp only at HE2 ht hc'
    have hq : True := trivial
    have HY := Lib.hid (HXA.out.below hb3)
    have HTC := Lib.hid (And.intro hb3 (And.intro ht (And.intro hc' (And.intro hf hq))))
    obtain ⟨q0, q1, q2, q3⟩ := HY.out.cells
    clear ht hc' hf hb3 hq s0 s1 s2 s3
    go_wp2
    refine bodyPost_ret (v := .tuple #[.agg #[.slice A' T'.length c'], .int .i64 id', .int .i64 e']) (by simp [results, Tryz.results117, go_sem, HY.out.res]) rfl ?_
    exact HXA.out.ret_call HTC.out.1 HTC.out.2.1 HTC.out.2.2.1 HTC.out.2.2.2.1 (fun he => HE2.out he)
end Go.Proofs.YtlipnnibagidiaaGreat

/- gantryref12.same, le. -/
namespace Go.Proofs.YtlipnnibagidiaaGreat
open Go.RowKit Go.Lib

/-- What same comes to. -/
def sameT (C : List Nd) (a b most : Int) : PutR := if a = b then ⟨C, 0, 0⟩ else putL C 6 [min a b, max a b] most
set_option maxRecDepth 100000 in
set_option maxHeartbeats 4000000 in
theorem csame_ok {C : List Nd} {w : World} {A : Option Addr} (c : Nat) (a b most : Int) (hw : Well C) (ha : 0 ≤ a ∧ a < C.length) (hb : 0 ≤ b ∧ b < C.length) (hc : C.length ≤ c) (h : Tab w A C) (hl : C.length < 100000) :
    Calls Tryz.prog 154 #[.agg #[.slice A C.length c], .int .i64 a, .int .i64 b, .int .i64 most] w (OutT A C (fun T' id er => (⟨T', id, er⟩ : PutR) = sameT C a b most) w) := by
  obtain ⟨w0, hw0⟩ : ∃ w0, ((w.alloc (.cells #[.slice A C.length c] 33)).alloc (.cells #[.slice none 0 0] 33)) = w0 := ⟨_, rfl⟩
  have HX0 : Hid (MX w A C w.heap.size A C c w0) := Lib.hid (hw0 ▸ MX.start h hc)
  have HW := Lib.hid hw
  have HL := Lib.hid hl
  have HS : Hid (∀ n ∈ C, 0 ≤ n.sort) := Lib.hid (fun n hn => by obtain ⟨_, _, _, hst⟩ := hw.core.ok.stands hn; exact hst.srt.1)
  have HAB := Lib.hid (And.intro ha hb)
  clear hc h hw hl ha hb
  obtain ⟨s0, s1, s2, s3⟩ := HX0.out.cells
  by_cases hab : a = b
  · have d1 : (a == b) = true := by simpa using hab
    have HQ : Hid ((⟨C, 0, 0⟩ : PutR) = sameT C a b most) := Lib.hid (by unfold sameT; rw [if_pos hab])
    clear hab
    go_enter Tryz.func154, Tryz.ntmps154
    go_wp2
    refine bodyPost_ret (v := .tuple #[.agg #[.slice A C.length c], .int .i64 0, .int .i64 0]) (by simp [results, Tryz.results154, go_sem, HX0.out.res]) rfl ?_
    exact HX0.out.ret_in HW.out.pos (HQ.out)
  · have d1 : (a == b) = false := by simpa using hab
    have HQ : Hid (putL C 6 [min a b, max a b] most = sameT C a b most) := Lib.hid (by unfold sameT; rw [if_neg hab])
    have HN := Lib.hid hab
    clear hab
    by_cases hlt : a < b
    · have e1 : decide (a < b) = true := decide_eq_true hlt
      have e2 : decide (b < a) = false := decide_eq_false (by omega)
      rw [show min a b = a by omega, show max a b = b by omega] at HQ
      have HB : Hid (∀ x ∈ [a, b], 0 ≤ x ∧ x < (C.length : Int)) := Lib.hid (fun x hx => by
        have := HAB.out
        rcases List.mem_cons.1 hx with rfl | hx
        · omega
        · rw [List.mem_singleton.1 hx]
          omega)
      have hbA : Below w0.heap.size w0 (w0.alloc (.cells #[.int .i64 a, .int .i64 b] 3)) := (Below.refl _ w0).alloc (Nat.le_refl _) _
      have HXA := Lib.hid (HX0.out.below hbA)
      have KP : Hid (Calls Tryz.prog 118 #[.agg #[.slice A C.length c], .int .i8 6, .slice (some ⟨w0.heap.size, 0, none⟩) 2 2, .int .i64 most] (w0.alloc (.cells #[.int .i64 a, .int .i64 b] 3)) (PutIs A C (putL C 6 [a, b] most) (w0.alloc (.cells #[.int .i64 a, .int .i64 b] 3)))) := Lib.hid (cput_ok c (.inr (.inr (.inr (.inr (.inr (.inr (.inl rfl))))))) most (V := [a, b]) 2 HXA.out.hc HXA.out.tab HS.out HL.out (row2 w0 (a) (b)) (by simp) HB.out)
      clear hbA
      go_enter Tryz.func154, Tryz.ntmps154
      go_wp2_with fail
      refine KP.out.mono ?_
      rintro e w3 ⟨A', c', rfl, ht, hc', hf, hb3⟩
      have HE2 := Lib.hid (HQ.out)
      clear KP
      generalize putL C 6 [a, b] most = r at *
      obtain ⟨T', id', e'⟩ := r
      dsimp only at HE2 ht hc'
      have hq : True := trivial
      have HY := Lib.hid (HXA.out.below hb3)
      have HTC := Lib.hid (And.intro hb3 (And.intro ht (And.intro hc' (And.intro hf hq))))
      obtain ⟨q0, q1, q2, q3⟩ := HY.out.cells
      clear ht hc' hf hb3 hq s0 s1 s2 s3
      go_wp2
      refine bodyPost_ret (v := .tuple #[.agg #[.slice A' T'.length c'], .int .i64 id', .int .i64 e']) (by simp [results, Tryz.results154, go_sem, HY.out.res]) rfl ?_
      exact HXA.out.ret_call HTC.out.1 HTC.out.2.1 HTC.out.2.2.1 HTC.out.2.2.2.1 (HE2.out)
    · have hgt : b < a := by have := HN.out; omega
      have e1 : decide (a < b) = false := decide_eq_false hlt
      have e2 : decide (b < a) = true := decide_eq_true hgt
      rw [show min a b = b by omega, show max a b = a by omega] at HQ
      have HB : Hid (∀ x ∈ [b, a], 0 ≤ x ∧ x < (C.length : Int)) := Lib.hid (fun x hx => by
        have := HAB.out
        rcases List.mem_cons.1 hx with rfl | hx
        · omega
        · rw [List.mem_singleton.1 hx]
          omega)
      have hbA : Below w0.heap.size w0 (w0.alloc (.cells #[.int .i64 b, .int .i64 a] 3)) := (Below.refl _ w0).alloc (Nat.le_refl _) _
      have HXA := Lib.hid (HX0.out.below hbA)
      have KP : Hid (Calls Tryz.prog 118 #[.agg #[.slice A C.length c], .int .i8 6, .slice (some ⟨w0.heap.size, 0, none⟩) 2 2, .int .i64 most] (w0.alloc (.cells #[.int .i64 b, .int .i64 a] 3)) (PutIs A C (putL C 6 [b, a] most) (w0.alloc (.cells #[.int .i64 b, .int .i64 a] 3)))) := Lib.hid (cput_ok c (.inr (.inr (.inr (.inr (.inr (.inr (.inl rfl))))))) most (V := [b, a]) 2 HXA.out.hc HXA.out.tab HS.out HL.out (row2 w0 (b) (a)) (by simp) HB.out)
      clear hbA
      go_enter Tryz.func154, Tryz.ntmps154
      go_wp2_with fail
      refine KP.out.mono ?_
      rintro e w3 ⟨A', c', rfl, ht, hc', hf, hb3⟩
      have HE2 := Lib.hid (HQ.out)
      clear KP
      generalize putL C 6 [b, a] most = r at *
      obtain ⟨T', id', e'⟩ := r
      dsimp only at HE2 ht hc'
      have hq : True := trivial
      have HY := Lib.hid (HXA.out.below hb3)
      have HTC := Lib.hid (And.intro hb3 (And.intro ht (And.intro hc' (And.intro hf hq))))
      obtain ⟨q0, q1, q2, q3⟩ := HY.out.cells
      clear ht hc' hf hb3 hq s0 s1 s2 s3
      go_wp2
      refine bodyPost_ret (v := .tuple #[.agg #[.slice A' T'.length c'], .int .i64 id', .int .i64 e']) (by simp [results, Tryz.results154, go_sem, HY.out.res]) rfl ?_
      exact HXA.out.ret_call HTC.out.1 HTC.out.2.1 HTC.out.2.2.1 HTC.out.2.2.2.1 (HE2.out)

set_option maxRecDepth 100000 in
set_option maxHeartbeats 4000000 in
theorem cle_ok {C : List Nd} {w : World} {A : Option Addr} (c : Nat) (a b k most : Int) (hw : Well C) (hi : IteOk C) (ha : In64 a) (hb : In64 b) (hc : C.length ≤ c) (h : Tab w A C) (hl : C.length < 100000) :
    Calls Tryz.prog 122 #[.agg #[.slice A C.length c], .int .i64 a, .int .i64 b, .int .i64 k, .int .i64 most] w (OutT A C (ImgQ C most 0) w) := by
  obtain ⟨w0, hw0⟩ : ∃ w0, ((w.alloc (.cells #[.slice A C.length c] 33)).alloc (.cells #[.slice none 0 0] 33)) = w0 := ⟨_, rfl⟩
  have HX0 : Hid (MX w A C w.heap.size A C c w0) := Lib.hid (hw0 ▸ MX.start h hc)
  have HW := Lib.hid hw
  have HI := Lib.hid hi
  have HL := Lib.hid hl
  have HS : Hid (∀ n ∈ C, 0 ≤ n.sort) := Lib.hid (fun n hn => by obtain ⟨_, _, _, hst⟩ := hw.core.ok.stands hn; exact hst.srt.1)
  have KL := Lib.hid (rle_ok c a b k most ha hb hc HX0.out.tab hl hw.ordB)
  clear hc h hw hi hl ha hb
  obtain ⟨s0, s1, s2, s3⟩ := HX0.out.cells
  go_enter Tryz.func122, Tryz.ntmps122
  go_wp2_with fail
  refine KL.out.mono ?_
  rintro e w1 ⟨A1, c1, rfl, ht, hc1, hf, hb1⟩
  have HE := Lib.hid (fun he => And.intro (leT_img HW.out HI.out (a := a) (b := b) (c := k) (most := most) he) (leT_most he))
  have HXB := Lib.hid (HX0.out.below hb1)
  have HX1 := Lib.hid (HX0.out.set hb1 ht hc1 hf)
  obtain ⟨z0, z1, z2, z3⟩ := HXB.out.cells
  obtain ⟨y0, y1, y2, y3⟩ := HX1.out.cells
  clear KL ht hc1 hf hb1 s0 s1 s2 s3
  generalize leT C a b k most = r at *
  obtain ⟨T1, id1, is1, e1⟩ := r
  dsimp only at HE HX1 y0 y1 y2 y3
  by_cases he : e1 = 0
  rotate_left
  · have d1 : (e1 != 0) = true := by simpa using he
    have HNE := Lib.hid he
    clear he
    go_wp2
    refine bodyPost_ret (v := .tuple #[.agg #[.slice none 0 0], .int .i64 0, .int .i64 e1]) (by simp [results, Tryz.results122, go_sem, HX1.out.res]) rfl ?_
    exact HX1.out.ret_bad (ImgQ.bad HNE.out)
  · subst he
    have HG := Lib.hid (HE.out rfl)
    have HP : Hid (0 < T1.length) := Lib.hid (HG.out.1.img.ext.well.pos)
    go_wp2
    refine bodyPost_ret (v := .tuple #[.agg #[.slice A1 T1.length c1], .int .i64 id1, .int .i64 0]) (by simp [results, Tryz.results122, go_sem, HX1.out.res]) rfl ?_
    exact HX1.out.ret_in HP.out (show ImgQ C most 0 T1 id1 0 from fun _ => HG.out)
end Go.Proofs.YtlipnnibagidiaaGreat

/- gantryref12.ite. -/
import Derived.Test.YtlipnnibagidiaaGreatImG
namespace Go.Proofs.YtlipnnibagidiaaGreat
open Go.RowKit Go.Lib
structure IteP (C T1 : List Nd) (i a b d : Nat) (s : Int) : Prop where
  ext : Ext C T1
  lt : i < T1.length
  at_ : ndAt T1 (i : Int) = opNd 7 3 a b d s
  mem : ∀ m ∈ T1, m ∈ C ∨ m = opNd 7 3 a b d s
  b : b < i
  d : d < i
theorem opL7 {a b d s : Int} : opL 7 [a, b, d] = some s ↔ a = 0 ∧ b = d ∧ b = s := by
  unfold opL manyM opSort
  simp
  constructor
  · rintro ⟨⟨h1, h2⟩, h3⟩
    exact ⟨h1, h2, h3⟩
  · rintro ⟨h1, h2, h3⟩
    exact ⟨⟨h1, h2⟩, h3⟩
theorem ite_put {C : List Nd} (h : Well C) {a b d : Nat} {s most : Int} (hs : (ndAt C (a : Int)).sort = 0 ∧ (ndAt C (b : Int)).sort = (ndAt C (d : Int)).sort ∧ (ndAt C (b : Int)).sort = s) (he : (putL C 7 [(a : Int), (b : Int), (d : Int)] most).e = 0) :
    ∃ i : Nat, (putL C 7 [(a : Int), (b : Int), (d : Int)] most).id = i ∧ IteP C (putL C 7 [(a : Int), (b : Int), (d : Int)] most).T i a b d s := by
  have ho : opL 7 ([(a : Int), (b : Int), (d : Int)].map fun x => (ndAt C x).sort) = some s := opL7.2 hs
  have e : putL C 7 [(a : Int), (b : Int), (d : Int)] most = putT C (opNd 7 3 a b d s) most := by
    unfold putL
    rw [ho]
    rfl
  rw [e] at he ⊢
  obtain ⟨h1, _, h3, h4, h5, h6⟩ := putT_ext (n := opNd 7 3 a b d s) h (fun ho => absurd ho (by show (7 : Int) ≠ 11; decide)) (by simp [fitB, opNd]) (fun _ => by
    show opSort 7 (ndAt C (a : Int)).sort (ndAt C (b : Int)).sort (ndAt C (d : Int)).sort = some s
    unfold opSort
    simp [hs.1, ← hs.2.1, hs.2.2]) (fun ho => absurd ho (by show (7 : Int) ≠ 6; decide)) he
  generalize putT C (opNd 7 3 a b d s) most = r at *
  obtain ⟨T', id', e'⟩ := r
  dsimp only at *
  obtain ⟨i, rfl⟩ : ∃ i : Nat, id' = i := ⟨id'.toNat, by omega⟩
  have hst := h1.well.core.ok.st i _ (by rw [List.getElem?_eq_getElem (by omega), ← ndAt_nat (by omega), h5])
  have a1 := hst.arg_lt 1 (by omega) (by show (1 : Int) < 3; decide)
  have a2 := hst.arg_lt 2 (by omega) (by show (2 : Int) < 3; decide)
  have b1 : ((b : Int)) < i := a1.2
  have b2 : ((d : Int)) < i := a2.2
  exact ⟨i, rfl, h1, by omega, h5, h6, by omega, by omega⟩
theorem IteP.fin {C T1 T2 T3 : List Nd} {i a b d : Nat} {s j k : Int} (h : Well C) (hI : IteOk C) (hp : IteP C T1 i a b d s) (p2 : Put1 T1 T2 j) (n2 : iteN T2 i b s) (p3 : Put1 T2 T3 k) (n3 : iteN T3 i d s) : ImgS C T3 i s := by
  have hlt := hp.lt
  have hb := hp.b
  refine ⟨ite_img h hI hp.ext hp.mem ⟨by omega, by omega⟩ hp.at_ p2 n2 p3 n3 ⟨by omega, by omega⟩, ?_⟩
  have := (p2.trans p3).ext.at_ (i := (i : Int)) (by omega) (by omega)
  rw [this, hp.at_]
  rfl
theorem iteN_bool {T : List Nd} {i a : Int} : iteN T i a 0 := ⟨fun e => absurd e (by decide), fun e => absurd rfl e⟩
set_option maxRecDepth 100000 in
set_option maxHeartbeats 8000000 in
theorem cite_ok {C : List Nd} {w : World} {A : Option Addr} (c : Nat) (a b d : Nat) (most : Int) (hw : Well C) (hi : IteOk C) (ha : a < C.length) (hb : b < C.length) (hd : d < C.length) (hc : C.length ≤ c) (h : Tab w A C) (hl : C.length < 50000) (hm : most < 50000) :
    Calls Tryz.prog 121 #[.agg #[.slice A C.length c], .int .i64 a, .int .i64 b, .int .i64 d, .int .i64 most] w (OutT A C (ImgQ C most (ndAt C (b : Int)).sort) w) := by
  have hl0 := hl
  have hl : C.length < 100000 := by omega
  obtain ⟨w0, hw0⟩ : ∃ w0, ((w.alloc (.cells #[.slice A C.length c] 33)).alloc (.cells #[.slice none 0 0] 33)) = w0 := ⟨_, rfl⟩
  have HX0 : Hid (MX w A C w.heap.size A C c w0) := zzh (hw0 ▸ MX.start h hc)
  have HW := zzh hw
  have HI := zzh hi
  have HL := zzh hl
  have HS : Hid (∀ n ∈ C, 0 ≤ n.sort) := zzh (fun n hn => by obtain ⟨_, _, _, hst⟩ := hw.core.ok.stands hn; exact hst.srt.1)
  have HL0 := zzh hl0
  have HM := zzh hm
  have HA := zzh (And.intro ha (And.intro hb hd))
  obtain ⟨g, goff, hA, hgb, hgc⟩ := HX0.out.tab.at_.resolve_left (by omega)
  have ya := (hgc a ha).all.2.2.2.2.2.1
  have yb := (hgc b hb).all.2.2.2.2.2.1
  have yd := (hgc d hd).all.2.2.2.2.2.1
  have ea : C[a].sort = (ndAt C (a : Int)).sort := by rw [ndAt_nat ha]
  have eb : C[b].sort = (ndAt C (b : Int)).sort := by rw [ndAt_nat hb]
  have ed : C[d].sort = (ndAt C (d : Int)).sort := by rw [ndAt_nat hd]
  rw [ea] at ya
  rw [eb] at yb
  rw [ed] at yd
  subst hA
  have t1 : (0 : Int) ≤ (a : Int) := by omega
  have t2 : (a : Int) < (C.length : Int) := by omega
  have t3 : (0 : Int) ≤ (b : Int) := by omega
  have t4 : (b : Int) < (C.length : Int) := by omega
  have t5 : (0 : Int) ≤ (d : Int) := by omega
  have t6 : (d : Int) < (C.length : Int) := by omega
  have HSS : Hid (∀ y ∈ [(ndAt C (a : Int)).sort, (ndAt C (b : Int)).sort, (ndAt C (d : Int)).sort], 0 ≤ y) := zzh (fun y hy => by
    simp only [List.mem_cons, List.not_mem_nil, or_false] at hy
    rcases hy with rfl | rfl | rfl
    · exact HS.out _ (ndAt_mem t1 t2)
    · exact HS.out _ (ndAt_mem t3 t4)
    · exact HS.out _ (ndAt_mem t5 t6))
  have HGB := zzh hgb
  clear hl hl0 hm hgc hgb ea eb ed hw hi hc h ha hb hd
  obtain ⟨s0, s1, s2, s3⟩ := HX0.out.cells
  obtain ⟨sa, hsa⟩ : ∃ sa, (ndAt C (a : Int)).sort = sa := ⟨_, rfl⟩
  obtain ⟨sb, hsb⟩ : ∃ sb, (ndAt C (b : Int)).sort = sb := ⟨_, rfl⟩
  obtain ⟨sd, hsd⟩ : ∃ sd, (ndAt C (d : Int)).sort = sd := ⟨_, rfl⟩
  have HSA := zzh hsa
  have HSB := zzh hsb
  have HSD := zzh hsd
  rw [hsa] at ya HSS
  rw [hsb] at yb HSS
  rw [hsd] at yd HSS
  rw [hsb]
  clear hsa hsb hsd
  have hbA : Below w0.heap.size w0 (w0.alloc (.cells #[.int .i64 sa, .int .i64 sb, .int .i64 sd] 3)) := (Below.refl _ w0).alloc (Nat.le_refl _) _
  have hbD : Below w0.heap.size w0 (w0.alloc (.cells #[.int .i64 sa, .int .i64 sb, .int .i64 sd] 3)).drew := below_drewN hbA 1
  have HXA := zzh (HX0.out.below hbD)
  have hrD : Row (w0.alloc (.cells #[.int .i64 sa, .int .i64 sb, .int .i64 sd] 3)).drew (some ⟨w0.heap.size, 0, none⟩) [sa, sb, sd] := (row3 w0 sa sb sd).below (below_drewN (Below.refl _ _) 1)
  have KO : Hid (Calls Tryz.prog 73 #[.int .i8 7, .slice (some ⟨w0.heap.size, 0, none⟩) 3 3] (w0.alloc (.cells #[.int .i64 sa, .int .i64 sb, .int .i64 sd] 3)).drew (OpIs 7 [sa, sb, sd] (w0.alloc (.cells #[.int .i64 sa, .int .i64 sb, .int .i64 sd] 3)).drew)) := zzh (op_ok (op := 7) (L := [sa, sb, sd]) 3 (.inr (.inr (.inr (.inr (.inr (.inr (.inr (.inl rfl)))))))) hrD HSS.out)
  have HBD := zzh hbD
  have HY := zzh (fun (W : World) (hW : Below w0.heap.size w0 W) => And.intro ((hW.cell (p := ⟨g, goff + a * 8 + 5, none⟩) HGB.out).trans ya) (And.intro ((hW.cell (p := ⟨g, goff + b * 8 + 5, none⟩) HGB.out).trans yb) ((hW.cell (p := ⟨g, goff + d * 8 + 5, none⟩) HGB.out).trans yd)))
  clear hbA hbD hrD
  go_enter Tryz.func121, Tryz.ntmps121
  go_wp2_with fail
  go_region_held3 (fun w' => w'.cell? ⟨w.heap.size, 0, none⟩ = some (.slice (some ⟨g, goff, none⟩) C.length c) ∧ w'.cell? ⟨g, goff + a * 8 + 5, none⟩ = some (.int .i64 sa) ∧ w'.cell? ⟨g, goff + b * 8 + 5, none⟩ = some (.int .i64 sb) ∧ w'.cell? ⟨g, goff + d * 8 + 5, none⟩ = some (.int .i64 sd)) (go_keep) (first
    | (go_at_call 73; refine KO.out.mono ?_; rintro e w1 ⟨so, er, rfl, hso, hno, hb1⟩; have HSo := zzh hso; have HNo := zzh hno; have HX1 := zzh (HXA.out.below hb1); obtain ⟨xa, xb, xd⟩ := HY.out _ (HBD.out.trans (hb1.mono HBD.out.size)); have x0 : w1.cell? ⟨w.heap.size, 0, none⟩ = some (.slice (some ⟨g, goff, none⟩) C.length c) := HX1.out.t.cell 0; clear hso hno hb1))
  clear x0 xa xb xd ya yb yd s0 s1 s2 s3 HY KO HXA
  obtain ⟨z0, z1, z2, z3⟩ := HX1.out.cells
  by_cases he : er = 0
  rotate_left
  · have d1 : (er != 0) = true := by simpa using he
    clear he
    go_wp2
    refine bodyPost_ret (v := .tuple #[.agg #[.slice none 0 0], .int .i64 0, .int .i64 33]) (by simp [results, Tryz.results121, go_sem, HX1.out.res]) rfl ?_
    exact HX1.out.ret_bad (ImgQ.bad (by decide))
  · subst he
    have HSr : Hid ((ndAt C (a : Int)).sort = 0 ∧ (ndAt C (b : Int)).sort = (ndAt C (d : Int)).sort ∧ (ndAt C (b : Int)).sort = sb) := zzh (by
      rw [HSA.out, HSB.out, HSD.out]
      cases ho : opL 7 [sa, sb, sd] with
      | none => exact absurd rfl (HNo.out ho)
      | some s0 =>
        have := opL7.1 ho
        exact ⟨this.1, this.2.1, rfl⟩)
    clear HSo HNo
    by_cases hbd : b = d
    · have d2 : ((b : Int) == (d : Int)) = true := by simp [hbd]
      have HP : Hid (ImgS C C (b : Int) sb) := zzh (HSB.out ▸ ImgS.refl HW.out HI.out t3 t4)
      clear hbd
      go_wp2
      refine bodyPost_ret (v := .tuple #[.agg #[.slice (some ⟨g, goff, none⟩) C.length c], .int .i64 (b : Int), .int .i64 0]) (by simp [results, Tryz.results121, go_sem, HX1.out.res]) rfl ?_
      exact HX1.out.ret_in HW.out.pos (show ImgQ C most sb C (b : Int) 0 from fun _ => ⟨HP.out, by omega⟩)
    · have d2 : ((b : Int) == (d : Int)) = false := by simp; omega
      clear hbd
      have hbA : Below w1.heap.size w1 (w1.alloc (.cells #[.int .i64 (a : Int), .int .i64 (b : Int), .int .i64 (d : Int)] 3)) := (Below.refl _ w1).alloc (Nat.le_refl _) _
      have HXA := zzh (HX1.out.below hbA)
      have KP : Hid (Calls Tryz.prog 118 #[.agg #[.slice (some ⟨g, goff, none⟩) C.length c], .int .i8 7, .slice (some ⟨w1.heap.size, 0, none⟩) 3 3, .int .i64 most] (w1.alloc (.cells #[.int .i64 (a : Int), .int .i64 (b : Int), .int .i64 (d : Int)] 3)) (PutIs (some ⟨g, goff, none⟩) C (putL C 7 [(a : Int), (b : Int), (d : Int)] most) (w1.alloc (.cells #[.int .i64 (a : Int), .int .i64 (b : Int), .int .i64 (d : Int)] 3)))) := zzh (cput_ok c (.inr (.inr (.inr (.inr (.inr (.inr (.inr (.inl rfl)))))))) most (V := [(a : Int), (b : Int), (d : Int)]) 3 HXA.out.hc HXA.out.tab HS.out HL.out (row3 w1 ((a : Int)) ((b : Int)) ((d : Int))) (by simp) (in_three ⟨t1, t2⟩ ⟨t3, t4⟩ ⟨t5, t6⟩))
      clear hbA
      go_wp2_with fail
      refine KP.out.mono ?_
      rintro e w3 ⟨A', c', rfl, ht, hc', hf, hb3⟩
      have HE2 := zzh (fun he => And.intro (ite_put HW.out (most := most) HSr.out he) (putL_most he))
      have HXB := zzh (HXA.out.below hb3)
      have HX2 := zzh (HXA.out.set hb3 ht hc' hf)
      clear KP ht hc' hf hb3 z0 z1 z2 z3
      generalize putL C 7 [(a : Int), (b : Int), (d : Int)] most = r at *
      obtain ⟨T', id', e'⟩ := r
      dsimp only at HE2 HX2 ⊢
      obtain ⟨z0, z1, z2, z3⟩ := HXB.out.cells
      obtain ⟨q0, q1, q2, q3⟩ := HX2.out.cells
      by_cases he : e' = 0
      rotate_left
      · have d1 : (e' != 0) = true := by simpa using he
        have HNE := zzh he
        clear he
        go_wp2
        refine bodyPost_ret (v := .tuple #[.agg #[.slice none 0 0], .int .i64 0, .int .i64 e']) (by simp [results, Tryz.results121, go_sem, HX2.out.res]) rfl ?_
        exact HX2.out.ret_bad (ImgQ.bad HNE.out)
      · subst he
        obtain ⟨⟨i, hid, hip⟩, hlen⟩ := HE2.out rfl
        subst hid
        have HIP := zzh hip
        have HLen := zzh hlen
        clear hip hlen HE2
        obtain ⟨W2, hW2⟩ : ∃ W2, w3.setCell ⟨w.heap.size, 0, none⟩ (.slice A' T'.length c') = W2 := ⟨_, rfl⟩
        rw [hW2] at HX2 q0 q1 q2 q3
        obtain ⟨g2, goff2, hA2, hgb2, hgc2⟩ := HX2.out.tab.at_.resolve_left (by have := HIP.out.lt; omega)
        have yi := (hgc2 i HIP.out.lt).all.2.2.2.2.2.1
        have ei : T'[i]'HIP.out.lt = opNd 7 3 a b d sb := by rw [← ndAt_nat HIP.out.lt]; exact HIP.out.at_
        rw [ei] at yi
        have yi' : W2.cell? ⟨g2, goff2 + i * 8 + 5, none⟩ = some (.int .i64 sb) := yi
        subst hA2
        have r1 : (0 : Int) ≤ (i : Int) := by omega
        have r2 : (i : Int) < (T'.length : Int) := by have := HIP.out.lt; omega
        clear yi ei hgc2 hgb2
        by_cases h0 : sb = 0
        · subst h0
          have HP : Hid (ImgS C T' (i : Int) 0) := zzh (HIP.out.fin HW.out HI.out (Put1.refl HIP.out.ext.well r1 r2) iteN_bool (Put1.refl HIP.out.ext.well r1 r2) iteN_bool)
          have HT0 : Hid (0 < T'.length) := zzh (by omega)
          go_wp2
          refine bodyPost_ret (v := .tuple #[.agg #[.slice (some ⟨g2, goff2, none⟩) T'.length c'], .int .i64 (i : Int), .int .i64 0]) (by simp [results, Tryz.results121, go_sem, HX2.out.res]) rfl ?_
          exact HX2.out.ret_in HT0.out (show ImgQ C most 0 T' (i : Int) 0 from fun _ => ⟨HP.out, HLen.out⟩)
        · have d5 : (sb == 0) = false := by simpa using h0
          have H0 := zzh h0
          have HL2 : Hid (T'.length < 50000) := zzh (by have := HLen.out; have := HM.out; have := HL0.out; omega)
          have hbi := HIP.out.b
          have hdi := HIP.out.d
          have hsI : (ndAt T' (i : Int)).sort = sb := by rw [HIP.out.at_]; rfl
          have hsB : (ndAt T' (b : Int)).sort = sb := by rw [HIP.out.ext.at_ t3 t4]; exact HSB.out
          have hsD : (ndAt T' (d : Int)).sort = sb := by rw [HIP.out.ext.at_ t5 t6, HSD.out, ← HSB.out, HSr.out.2.1, HSD.out]
          have h7 : (ndAt T' (i : Int)).op = 7 := by rw [HIP.out.at_]; rfl
          have KB := zzh (cbehind_ok c' i b sb most HIP.out.ext.well hbi HIP.out.lt h7 ⟨hsI, hsB⟩ HX2.out.hc HX2.out.tab HL2.out HM.out)
          have HH := zzh (And.intro hsI (And.intro hsD (And.intro h7 hdi)))
          clear h0 hbi hdi hsI hsB hsD h7
          go_wp2_with fail
          refine KB.out.mono ?_
          rintro e w4 ⟨A3, c3, T3, e3, rfl, ht3, hc3, hf3, hq3, hb4⟩
          have HQ3 := zzh hq3
          have HXC := zzh (HX2.out.below hb4)
          have HX3 := zzh (HX2.out.set hb4 ht3 hc3 hf3)
          clear KB ht3 hc3 hf3 hq3 hb4 q0 q1 q2 q3 yi'
          obtain ⟨z0, z1, z2, z3⟩ := HXC.out.cells
          obtain ⟨q0, q1, q2, q3⟩ := HX3.out.cells
          by_cases he : e3 = 0
          rotate_left
          · have d1 : (e3 != 0) = true := by simpa using he
            have HNE := zzh he
            clear he
            go_wp2
            refine bodyPost_ret (v := .tuple #[.agg #[.slice none 0 0], .int .i64 0, .int .i64 e3]) (by simp [results, Tryz.results121, go_sem, HX3.out.res]) rfl ?_
            exact HX3.out.ret_bad (ImgQ.bad HNE.out)
          · subst he
            obtain ⟨⟨j3, hp3⟩, hn3, hl3⟩ := HQ3.out rfl
            have HP3 := zzh hp3
            have HN3 := zzh hn3
            have HLn3 := zzh hl3
            have HL3 : Hid (T3.length < 50000) := zzh (by have := HLen.out; have := HM.out; have := HL0.out; omega)
            obtain ⟨W3, hW3⟩ : ∃ W3, w4.setCell ⟨w.heap.size, 0, none⟩ (.slice A3 T3.length c3) = W3 := ⟨_, rfl⟩
            rw [hW3] at HX3 q0 q1 q2 q3
            have KB := zzh (cbehind_ok c3 i d sb most HP3.out.ext.well HH.out.2.2.2 (by have := HP3.out.ext.len; omega) (by rw [HP3.out.ext.at_ r1 r2]; exact HH.out.2.2.1) ⟨by rw [HP3.out.ext.at_ r1 r2]; exact HH.out.1, by rw [HP3.out.ext.at_ t5 (by have := HIP.out.ext.len; omega)]; exact HH.out.2.1⟩ HX3.out.hc HX3.out.tab HL3.out HM.out)
            clear hp3 hn3 hl3 HQ3
            go_wp2_with fail
            refine KB.out.mono ?_
            rintro e w5 ⟨A4, c4, T4, e4, rfl, ht4, hc4, hf4, hq4, hb5⟩
            have HQ4 := zzh hq4
            have HXD := zzh (HX3.out.below hb5)
            have HX4 := zzh (HX3.out.set hb5 ht4 hc4 hf4)
            clear KB ht4 hc4 hf4 hq4 hb5 q0 q1 q2 q3 z0 z1 z2 z3
            obtain ⟨z0, z1, z2, z3⟩ := HXD.out.cells
            obtain ⟨q0, q1, q2, q3⟩ := HX4.out.cells
            by_cases he : e4 = 0
            rotate_left
            · have d1 : (e4 != 0) = true := by simpa using he
              have HNE := zzh he
              clear he
              go_wp2
              refine bodyPost_ret (v := .tuple #[.agg #[.slice none 0 0], .int .i64 0, .int .i64 e4]) (by simp [results, Tryz.results121, go_sem, HX4.out.res]) rfl ?_
              exact HX4.out.ret_bad (ImgQ.bad HNE.out)
            · subst he
              obtain ⟨⟨j4, hp4⟩, hn4, hl4⟩ := HQ4.out rfl
              have HP : Hid (ImgS C T4 (i : Int) sb) := zzh (HIP.out.fin HW.out HI.out HP3.out HN3.out hp4 hn4)
              have HP2 : Hid ((T4.length : Int) ≤ max (C.length : Int) most) := zzh (by have := HLen.out; have := HLn3.out; omega)
              have HT0 : Hid (0 < T4.length) := zzh hp4.ext.well.pos
              clear hp4 hn4 hl4 HQ4
              go_wp2
              refine bodyPost_ret (v := .tuple #[.agg #[.slice A4 T4.length c4], .int .i64 (i : Int), .int .i64 0]) (by simp [results, Tryz.results121, go_sem, HX4.out.res]) rfl ?_
              exact HX4.out.ret_in HT0.out (show ImgQ C most sb T4 (i : Int) 0 from fun _ => ⟨HP.out, HP2.out⟩)
end Go.Proofs.YtlipnnibagidiaaGreat

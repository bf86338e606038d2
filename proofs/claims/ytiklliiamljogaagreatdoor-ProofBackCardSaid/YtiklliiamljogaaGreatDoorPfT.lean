/- The reference's Sexp. -/
import Derived.Test.YtiklliiamljogaaGreatDoorPfF
import Derived.Test.YtiklliiamljogaaGreatDoorBldB
import Derived.BigQuiet
namespace Go.Proofs.YtiklliiamljogaaGreatDoor
open Go.RowKit

/-- Rows of steps that are not too great. -/
structure Fine (L : List Stp) : Prop where
  len : L.length ≤ 20000
  lits : ∀ s ∈ L, s.l.length ≤ 100000
  kind : ∀ s ∈ L, -128 ≤ s.k ∧ s.k ≤ 127
/-- What Sexp hands over. -/
def SexpOut (L : List Stp) (w w' : World) (e : Ending) : Prop := (if L.all Stp.may = true then ∃ y : C3, Lies (fun b => w.heap.size ≤ b) w' y.val (proofX L) ∧ e = .returned (.tuple #[.agg #[.int .i8 y.k, .string y.t, .slice y.A y.n y.c], .int .i64 0])
  else e = .returned (.tuple #[zeroX, .int .i64 2])) ∧ Below w.heap.size w w'
theorem SexpOut.yes {L : List Stp} {w w' : World} {e : Ending} (h : L.all Stp.may = true) (y : C3) (hl : Lies (fun b => w.heap.size ≤ b) w' y.val (proofX L)) (he : e = .returned (.tuple #[.agg #[.int .i8 y.k, .string y.t, .slice y.A y.n y.c], .int .i64 0])) (hb : Below w.heap.size w w') : SexpOut L w w' e := ⟨by rw [if_pos h]; exact ⟨y, hl, he⟩, hb⟩
theorem SexpOut.no {L : List Stp} {w w' : World} {e : Ending} (h : L.all Stp.may = false) (he : e = .returned (.tuple #[zeroX, .int .i64 2])) (hb : Below w.heap.size w w') : SexpOut L w w' e := ⟨by rw [if_neg (by rw [h]; decide)]; exact he, hb⟩
theorem all_take {L : List Stp} {i : Nat} (hi : i < L.length) (h : (L.take i).all Stp.may = true) (hs : (L[i]).may = true) : (L.take (i + 1)).all Stp.may = true := by
  rw [List.take_succ_eq_append_getElem hi, List.all_append, h, List.all_cons, hs]
  rfl
theorem all_not {L : List Stp} {i : Nat} (hi : i < L.length) (hs : (L[i]).may = false) : L.all Stp.may = false := by
  cases h : L.all Stp.may with
  | false => rfl
  | true => rw [List.all_eq_true.1 h _ (List.getElem_mem hi)] at hs; cases hs

set_option maxHeartbeats 4000000 in
set_option maxRecDepth 100000 in
theorem rsexp_ok (L : List Stp) (hf : Fine L) (w : World) (A : Option Addr) (c : Nat) (h : Steps w A L) :
    Calls Tryz.prog 11 #[.slice A L.length c] w fun e w' => SexpOut L w w' e := by
  obtain ⟨W, eW⟩ : ∃ W, w.alloc (.cells #[.int .i8 0, .string ⟨#[]⟩, .slice none 0 0] 28) = W := ⟨_, rfl⟩
  have hbW : Below w.heap.size w W := eW ▸ (Below.refl _ w).alloc (Nat.le_refl _) _
  have hRes : Blk W w.heap.size 28 #[.int .i8 0, .string ⟨#[]⟩, .slice none 0 0] := eW ▸ Blk.new w _ _
  have hsW : W.heap.size = w.heap.size + 1 := by rw [← eW]; simp
  have HW := Lib.hid hbW
  have HSW := Lib.hid hsW
  have HST := Lib.hid (fun w1 (h1 : Below W.heap.size W w1) => (h.keep hbW).keep h1)
  have HRES := Lib.hid (fun w1 (h1 : Below W.heap.size W w1) => hRes.below h1 hRes.lt)
  have HF := Lib.hid hf
  have hl := hf.len
  have d9 : decide ((L.length : Int) > 4194304) = false := decide_eq_false (by omega)
  have d9' : decide ((4194304 : Int) < L.length) = false := d9
  clear h hf hbW hRes hsW
  go_enter Tryz.func11, Tryz.ntmps11
  go_wp2_with (go_at_call 28; refine (rsym_ok _ _).mono ?_; rintro e w2 ⟨rfl, hb2⟩; obtain ⟨w3, e3⟩ : ∃ w3, w2.alloc (.cells #[.int .i8 0, .string ⟨#[112, 114, 111, 111, 102]⟩, .slice none 0 0] 28) = w3 := ⟨_, rfl⟩; have hv3 := ((Lvs.one w2 (symC wProof) _ (sym_lies _)).base hb2.size); have hb3 := hb2.alloc hb2.size (.cells #[.int .i8 0, .string ⟨#[112, 114, 111, 111, 102]⟩, .slice none 0 0] 28); have hv3 : Lvs w3 W.heap.size (.slice (some ⟨w2.heap.size, 0, none⟩) 1 1) [symC wProof] [symS wProof] := e3 ▸ hv3; have hb3 : Below W.heap.size W w3 := e3 ▸ hb3; have HV3 := Lib.hid hv3; have HB3 := Lib.hid hb3; clear hv3 hb2 hb3)
  go_loopw [4, 5] (fun v d wx => Below W.heap.size W wx ∧ ∃ (i : Nat) (cs : List C3), i ≤ L.length ∧ d = .int .i64 i ∧ cs.length = i + 1 ∧ (L.take i).all Stp.may = true ∧ Acc wx W.heap.size v cs (symS wProof :: (L.take i).map Stp.sx)) (fun _ d _ => (L.length - intOf d).toNat)
  case atStart => exact ⟨HB3.out, 0, _, Nat.zero_le _, rfl, rfl, rfl, HV3.out.acc⟩
  case round =>
    obtain ⟨hBx, i, cs, hi, rfl, hcl, hmy, hAx⟩ := hrel
    have HBX := Lib.hid hBx
    have HMY := Lib.hid hmy
    have HAX := Lib.hid hAx
    have HCL := Lib.hid hcl
    obtain ⟨r0, r1, r2, f0, f1, f2⟩ := blk3 (HRES.out wr hBx)
    clear hBx hmy hAx HV3 HB3 hcl
    by_cases hin : i < L.length
    · have hiz : (i : Int) < (L.length : Int) := by omega
      have d1 : decide ((i : Int) < L.length) = true := decide_eq_true hiz
      have hmem := List.getElem_mem hin
      obtain ⟨b, off, y, rfl, hlt, ⟨c0, c1, c2, c3⟩, hy⟩ := (HST.out wr HBX.out) i hin
      have hM := rmay_ok (L[i]) wr y hy (HF.out.lits _ hmem)
      have HWR := Lib.hid (fun (hm : (L[i]'hin).may = true) w1 (h1 : Below wr.heap.size wr w1) => rwrite_ok (L[i]) hm (HF.out.lits _ hmem) w1 y (hy.keep h1))
      have HTK := Lib.hid (List.take_succ_eq_append_getElem hin)
      have HAN := Lib.hid (fun h => all_not hin h)
      have HAT := Lib.hid (fun h => all_take hin HMY.out h)
      obtain ⟨S, hS⟩ : ∃ S, L[i] = S := ⟨_, rfl⟩
      rw [hS] at hM HWR HTK HAN HAT
      have HM := Lib.hid hM
      clear hM hS hmem hy
      unfold C4.val at HM HWR
      cases hms : S.may with
      | false =>
        rw [hms] at HM
        have HAN := Lib.hid (HAN.out hms)
        go_wp2_with (go_at_call 24; refine HM.out.mono ?_; rintro e w4 ⟨rfl, hb4⟩; have hb4' := HBX.out.trans (hb4.mono HBX.out.size); have HB4 := Lib.hid hb4'; obtain ⟨r0, r1, r2, f0, f1, f2⟩ := blk3 (HRES.out w4 hb4'); clear hb4')
        have hset := (HRES.out w4 HB4.out).set3 (.int .i8 0) (.string ⟨#[]⟩) (.slice none 0 0)
        obtain ⟨v0, v1, v2, _⟩ := blk3 hset
        refine bodyPost_ret (v := .tuple #[zeroX, .int .i64 2]) ?_ rfl ?_
        · simp [zeroX, results, Tryz.results11, go_sem, v0, v1, v2]
        refine SexpOut.no HAN.out rfl ?_
        have hfin := ((((HW.out.trans (HB4.out.mono HW.out.size)).setCell (p := ⟨w.heap.size, 0, none⟩) (Nat.le_refl _) (.int .i8 0)).setCell (p := ⟨w.heap.size, 1, none⟩) (Nat.le_refl _) (.string ⟨#[]⟩)).setCell (p := ⟨w.heap.size, 2, none⟩) (Nat.le_refl _) (.slice none 0 0))
        exact hfin
      | true =>
        rw [hms] at HM
        have HAT := Lib.hid (HAT.out hms)
        have HWR := Lib.hid (HWR.out hms)
        have hcn : (cs.length + 1) * 48 ≤ 140737488355328 := by rw [HCL.out]; omega
        go_wp2_with (first
          | (go_at_call 24; refine HM.out.mono ?_; rintro e w4 ⟨rfl, hb4⟩; have HB4 := Lib.hid hb4; have g0 := (hb4.cell (p := ⟨b, off + i * 4, none⟩) hlt).trans c0; have g1 := (hb4.cell (p := ⟨b, off + i * 4 + 1, none⟩) hlt).trans c1; have g2 := (hb4.cell (p := ⟨b, off + i * 4 + 2, none⟩) hlt).trans c2; have g3 := (hb4.cell (p := ⟨b, off + i * 4 + 3, none⟩) hlt).trans c3; clear hb4)
          | (go_at_call 29; refine (HWR.out _ HB4.out).mono ?_; rintro e w5 ⟨⟨z, hz, rfl⟩, hb5⟩; have HA5 := Lib.hid ((HAX.out.keep HB4.out).keep hb5); have HZ := Lib.hid ((HAX.out.keep HB4.out).child (Nat.le_trans HBX.out.size HB4.out.size) hz); have HB5 := Lib.hid (HBX.out.trans ((HB4.out.trans (hb5.mono HB4.out.size)).mono HBX.out.size)); clear hz hb5)
          | (at_builtin; refine acc_push_list w5 rfl (.tmp 21) (.tmp 27) rfl W.heap.size _ cs _ HA5.out HB5.out.size z _ HZ.out hcn rfl rfl ?_; intro ga capa wb hAb hkb hatb; have HAB := Lib.hid hAb; have HBB := Lib.hid (HB5.out.trans (hkb.below HB5.out.size (fun g hg => (HA5.out.own.lt g hg).1))); clear hAb hkb hatb))
        go_roundw
        case rel =>
          refine ⟨HBB.out, i + 1, cs ++ [z], by omega, by go_num, by rw [List.length_append, HCL.out]; rfl, HAT.out, ?_⟩
          rw [HTK.out, List.map_append]
          exact HAB.out
        case measure => simp only [intOf]; omega
    · have d1 : decide ((i : Int) < L.length) = false := decide_eq_false (by omega)
      have hall : L.take i = L := List.take_of_length_le (by omega)
      have HA := Lib.hid (show L.all Stp.may = true by have := HMY.out; rwa [hall] at this)
      have hax := HAX.out
      rw [hall] at hax
      obtain ⟨A4, c4, rfl⟩ := own_slice hax.own
      have hlie := hax.lies (by simp; omega)
      have HLI := Lib.hid hlie
      obtain ⟨n4, hn4⟩ : ∃ n4, cs.length = n4 := ⟨_, rfl⟩
      rw [hn4] at HLI HAX HCL ⊢
      clear hax hlie hall hn4
      go_wp2
      have hset := (HRES.out wr HBX.out).set3 (.int .i8 3) (.string ⟨#[]⟩) (.slice A4 n4 c4)
      obtain ⟨v0, v1, v2, _⟩ := blk3 hset
      have hkf : Kept (fun i => i = w.heap.size) wr (((wr.setCell ⟨w.heap.size, 0, none⟩ (.int .i8 3)).setCell ⟨w.heap.size, 1, none⟩ (.string ⟨#[]⟩)).setCell ⟨w.heap.size, 2, none⟩ (.slice A4 n4 c4)) :=
        Kept.setCell (S := fun i => i = w.heap.size) (Kept.setCell (S := fun i => i = w.heap.size) (Kept.setCell (S := fun i => i = w.heap.size) (Kept.refl _ wr) (p := ⟨w.heap.size, 0, none⟩) (.inl rfl) _) (p := ⟨w.heap.size, 1, none⟩) (.inl rfl) _) (p := ⟨w.heap.size, 2, none⟩) (.inl rfl) _
      refine bodyPost_ret (v := .tuple #[.agg #[.int .i8 3, .string ⟨#[]⟩, .slice A4 n4 c4], .int .i64 0]) ?_ rfl ?_
      · simp [results, Tryz.results11, go_sem, v0, v1, v2]
      refine SexpOut.yes HA.out ⟨3, ⟨#[]⟩, A4, n4, c4⟩ ?_ rfl ?_
      · exact (HLI.out.kept hkf (fun b _ h1 h2 => by have := HSW.out; omega)).mono fun b _ h1 => by have := HSW.out; omega
      · exact HW.out.trans ((HBX.out.mono HW.out.size).trans (hkf.below (by have := HBX.out.size; have := HSW.out; omega) (fun k hk => by omega)))
end Go.Proofs.YtiklliiamljogaaGreatDoor

/- The reference's Parse: the number. -/
namespace Go.Proofs.YtiklliiamljogaaGreatDoor
open Go.RowKit

set_option maxHeartbeats 1000000 in
set_option maxRecDepth 100000 in
theorem rparse_loop (s : ByteArray) (w : World) (hs : s.size ≤ 1000000) (hne : byts s ≠ []) (hz : (decide (1 < s.size) && headB (byts s) == 48) = false) :
    Calls Tryz.prog 75 #[.string s] w fun e w' => (∃ n c, e = .returned (.tuple #[.int .i64 n, .int .i64 c]) ∧ (n, c) = loopR (byts s)) ∧ w = w' := by
  have h0 : 0 < s.size := by
    rw [← byts_len]
    exact List.length_pos_iff.2 hne
  have h0z : (0 : Int) < s.size := by omega
  have b1 : (s.toList == []) = false := beq_eq_false_iff_ne.2 (by rw [Lib.toList_data]; exact hne)
  have b2 : s.toList.isEmpty = false := by
    rw [Lib.toList_data]
    exact List.isEmpty_eq_false_iff.2 hne
  have hd : headB (byts s) = (s[0]'h0).toNat := by
    have h3 := byts_drop h0
    rw [List.drop_zero] at h3
    rw [h3]
    rfl
  obtain ⟨x0, hx0⟩ : ∃ x0 : UInt8, s[0]'h0 = x0 := ⟨_, rfl⟩
  rw [hd, hx0] at hz
  clear hd hne
  obtain ⟨bb, hbb⟩ : ∃ bb, ((x0.toNat : Int) == 48) = bb := ⟨_, rfl⟩
  obtain ⟨bs, hbs⟩ : ∃ bs, decide ((s.size : Int) > 1) = bs := ⟨_, rfl⟩
  have hb12 : bb = true → bs = false := fun h => by
    rw [h] at hbb
    have e1 : (x0.toNat == 48) = true := beq_iff_eq.2 (by have := beq_iff_eq.1 hbb; omega)
    rw [e1, Bool.and_true] at hz
    rw [← hbs]
    have := of_decide_eq_false hz
    exact decide_eq_false (by omega)
  have hbs' : decide ((1 : Int) < s.size) = bs := hbs
  have HZ := Lib.hid hb12
  clear hz hb12
  obtain ⟨R, hR⟩ : ∃ R, ((byts s).all fun c => digitN c.toNat) = R := ⟨_, rfl⟩
  obtain ⟨LR, hLR⟩ : ∃ LR, loopR (byts s) = LR := ⟨_, rfl⟩
  rw [hLR]
  have HLR := Lib.hid hLR
  have HR := Lib.hid hR
  have HRR := Lib.hid hR
  clear hR hLR
  have HD := Lib.hid (fun (h : R = true) (i : Nat) (hi : i < s.size) => by
    have h2 := HR.out.trans h
    rw [List.all_eq_true] at h2
    have h3 := h2 (s[i]'hi) (by
      have := byts_drop hi
      have h4 : (s[i]'hi) ∈ (byts s).drop i := by rw [this]; exact List.mem_cons_self
      exact List.mem_of_mem_drop h4)
    exact (of_decide_eq_true h3 : 48 ≤ (s[i]'hi).toNat ∧ (s[i]'hi).toNat < 58))
  cases bb with
  | true =>
    have e2 := HZ.out rfl
    subst e2
    clear HZ
    go_enter Tryz.func75, Tryz.ntmps75
    go_wp2
    go_loopg [4] s.size (fun g v wx => w = wx ∧ ∃ i : Nat, i + g = s.size ∧ v = .int .i64 i ∧ ((byts s).drop i).all (fun c => digitN c.toNat) = R)
    case atStart => exact ⟨rfl, 0, by omega, rfl, HR.out⟩
    case round =>
      obtain ⟨rfl, i, hig, rfl, hinv⟩ := hrel
      have HI := Lib.hid hinv
      clear hinv
      cases gk with
      | zero =>
        have d1 : decide ((i : Int) < s.size) = false := by simp; omega
        have hRt : R = true := by rw [← HI.out, byts_end (by omega)]; rfl
        have HT := Lib.hid (HD.out hRt)
        have HE := Lib.hid hRt
        clear hRt HD HI HR
        go_wp2
        go_loopw [6, 5] (fun v d wx => w = wx ∧ ∃ (j : Nat) (n : Int), v = .int .i64 j ∧ d = .int .i64 n ∧ j ≤ s.size ∧ 0 ≤ n ∧ n ≤ 4611686018427387904 ∧ pgo n ((byts s).drop j) = pgo 0 (byts s)) (fun v _ _ => (s.size - intOf v).toNat)
        case atStart => exact ⟨rfl, 0, 0, rfl, rfl, by omega, by decide, by decide, rfl⟩
        case round =>
          obtain ⟨rfl, j, n, rfl, rfl, hj, hn0, hn1, hjnv⟩ := hrel
          have HJ := Lib.hid hjnv
          clear hjnv
          by_cases hjs : j < s.size
          · have hjz : (j : Int) < (s.size : Int) := by omega
            have d2 : decide ((j : Int) < s.size) = true := decide_eq_true hjz
            have hx8 := (s[j]'hjs).toNat_lt
            have hx9 := HT.out j hjs
            have hqq := quo10 (d := ((s[j]'hjs).toNat : Int) - 48) (by omega)
            have hq := Lib.hid hqq
            by_cases hbig : n > (4611686018427387904 - (((s[j]'hjs).toNat : Int) - 48)) / 10
            · have d3 : decide (n > (4611686018427387904 - (((s[j]'hjs).toNat : Int) - 48)) / 10) = true := decide_eq_true hbig
              have d3' : decide ((4611686018427387904 - (((s[j]'hjs).toNat : Int) - 48)) / 10 < n) = true := d3
              go_wp2
              refine bodyPost_ret (v := .tuple #[.int .i64 0, .int .i64 10]) (by simp [results, Tryz.results75, go_sem]) rfl ⟨⟨_, _, rfl, ?_⟩, rfl⟩
              rw [← HLR.out]
              unfold loopR
              rw [HRR.out, if_pos HE.out, ← HJ.out, byts_drop hjs, pgo, if_pos hbig]
            · have d3 : decide (n > (4611686018427387904 - (((s[j]'hjs).toNat : Int) - 48)) / 10) = false := decide_eq_false hbig
              have d3' : decide ((4611686018427387904 - (((s[j]'hjs).toNat : Int) - 48)) / 10 < n) = false := d3
              go_wp2
              go_roundw
              case measure => simp only [intOf]; omega
              case rel => exact ⟨trivial, j + 1, n * 10 + (((s[j]'hjs).toNat : Int) - 48), by go_num, by go_num, by omega, by omega, by omega, by rw [← HJ.out, byts_drop hjs, pgo, if_neg hbig]⟩
          · have d2 : decide ((j : Int) < s.size) = false := decide_eq_false (by omega)
            go_wp2
            refine bodyPost_ret (v := .tuple #[.int .i64 n, .int .i64 0]) (by simp [results, Tryz.results75, go_sem]) rfl ⟨⟨_, _, rfl, ?_⟩, rfl⟩
            rw [← HLR.out]
            unfold loopR
            rw [HRR.out, if_pos HE.out, ← HJ.out, byts_end (by omega)]; rfl
      | succ g =>
        have hiz : (i : Int) < (s.size : Int) := by omega
        have hin : i < s.size := by omega
        have d1 : decide ((i : Int) < s.size) = true := decide_eq_true hiz
        have hx8 := (s[i]'hin).toNat_lt
        cases hp : digitN (s[i]'hin).toNat with
        | true =>
          have hp2 : 48 ≤ (s[i]'hin).toNat ∧ (s[i]'hin).toNat < 58 := of_decide_eq_true hp
          have e1 : decide (((s[i]'hin).toNat : Int) < 48) = false := decide_eq_false (by omega)
          have e2 : decide (((s[i]'hin).toNat : Int) > 57) = false := decide_eq_false (by omega)
          have e3 : decide ((57 : Int) < (s[i]'hin).toNat) = false := e2
          have Hp := Lib.hid hp
          clear hp hp2
          go_wp2
          go_roundg g
          case measure => omega
          case rel => exact ⟨rfl, i + 1, by omega, by go_num, by rw [← HI.out, byts_drop hin, List.all_cons, Hp.out, Bool.true_and]⟩
        | false =>
          have HE := Lib.hid (show R = false by rw [← HI.out, byts_drop hin, List.all_cons, hp, Bool.false_and])
          have hp2 : ¬ (48 ≤ (s[i]'hin).toNat ∧ (s[i]'hin).toNat < 58) := of_decide_eq_false hp
          clear hp HD
          by_cases h48 : (s[i]'hin).toNat < 48
          · have e1 : decide (((s[i]'hin).toNat : Int) < 48) = true := decide_eq_true (by omega)
            go_wp2
            refine bodyPost_ret (v := .tuple #[.int .i64 0, .int .i64 20]) (by simp [results, Tryz.results75, go_sem]) rfl ⟨⟨_, _, rfl, ?_⟩, rfl⟩
            rw [← HLR.out]
            unfold loopR
            rw [HRR.out, if_neg (by rw [HE.out]; decide)]
          · have e1 : decide (((s[i]'hin).toNat : Int) < 48) = false := decide_eq_false (by omega)
            have e2 : decide (((s[i]'hin).toNat : Int) > 57) = true := decide_eq_true (by omega)
            have e3 : decide ((57 : Int) < (s[i]'hin).toNat) = true := e2
            go_wp2
            refine bodyPost_ret (v := .tuple #[.int .i64 0, .int .i64 20]) (by simp [results, Tryz.results75, go_sem]) rfl ⟨⟨_, _, rfl, ?_⟩, rfl⟩
            rw [← HLR.out]
            unfold loopR
            rw [HRR.out, if_neg (by rw [HE.out]; decide)]
  | false =>
    clear HZ
    go_enter Tryz.func75, Tryz.ntmps75
    go_wp2
    go_loopg [4] s.size (fun g v wx => w = wx ∧ ∃ i : Nat, i + g = s.size ∧ v = .int .i64 i ∧ ((byts s).drop i).all (fun c => digitN c.toNat) = R)
    case atStart => exact ⟨rfl, 0, by omega, rfl, HR.out⟩
    case round =>
      obtain ⟨rfl, i, hig, rfl, hinv⟩ := hrel
      have HI := Lib.hid hinv
      clear hinv
      cases gk with
      | zero =>
        have d1 : decide ((i : Int) < s.size) = false := by simp; omega
        have hRt : R = true := by rw [← HI.out, byts_end (by omega)]; rfl
        have HT := Lib.hid (HD.out hRt)
        have HE := Lib.hid hRt
        clear hRt HD HI HR
        go_wp2
        go_loopw [6, 5] (fun v d wx => w = wx ∧ ∃ (j : Nat) (n : Int), v = .int .i64 j ∧ d = .int .i64 n ∧ j ≤ s.size ∧ 0 ≤ n ∧ n ≤ 4611686018427387904 ∧ pgo n ((byts s).drop j) = pgo 0 (byts s)) (fun v _ _ => (s.size - intOf v).toNat)
        case atStart => exact ⟨rfl, 0, 0, rfl, rfl, by omega, by decide, by decide, rfl⟩
        case round =>
          obtain ⟨rfl, j, n, rfl, rfl, hj, hn0, hn1, hjnv⟩ := hrel
          have HJ := Lib.hid hjnv
          clear hjnv
          by_cases hjs : j < s.size
          · have hjz : (j : Int) < (s.size : Int) := by omega
            have d2 : decide ((j : Int) < s.size) = true := decide_eq_true hjz
            have hx8 := (s[j]'hjs).toNat_lt
            have hx9 := HT.out j hjs
            have hqq := quo10 (d := ((s[j]'hjs).toNat : Int) - 48) (by omega)
            have hq := Lib.hid hqq
            by_cases hbig : n > (4611686018427387904 - (((s[j]'hjs).toNat : Int) - 48)) / 10
            · have d3 : decide (n > (4611686018427387904 - (((s[j]'hjs).toNat : Int) - 48)) / 10) = true := decide_eq_true hbig
              have d3' : decide ((4611686018427387904 - (((s[j]'hjs).toNat : Int) - 48)) / 10 < n) = true := d3
              go_wp2
              refine bodyPost_ret (v := .tuple #[.int .i64 0, .int .i64 10]) (by simp [results, Tryz.results75, go_sem]) rfl ⟨⟨_, _, rfl, ?_⟩, rfl⟩
              rw [← HLR.out]
              unfold loopR
              rw [HRR.out, if_pos HE.out, ← HJ.out, byts_drop hjs, pgo, if_pos hbig]
            · have d3 : decide (n > (4611686018427387904 - (((s[j]'hjs).toNat : Int) - 48)) / 10) = false := decide_eq_false hbig
              have d3' : decide ((4611686018427387904 - (((s[j]'hjs).toNat : Int) - 48)) / 10 < n) = false := d3
              go_wp2
              go_roundw
              case measure => simp only [intOf]; omega
              case rel => exact ⟨trivial, j + 1, n * 10 + (((s[j]'hjs).toNat : Int) - 48), by go_num, by go_num, by omega, by omega, by omega, by rw [← HJ.out, byts_drop hjs, pgo, if_neg hbig]⟩
          · have d2 : decide ((j : Int) < s.size) = false := decide_eq_false (by omega)
            go_wp2
            refine bodyPost_ret (v := .tuple #[.int .i64 n, .int .i64 0]) (by simp [results, Tryz.results75, go_sem]) rfl ⟨⟨_, _, rfl, ?_⟩, rfl⟩
            rw [← HLR.out]
            unfold loopR
            rw [HRR.out, if_pos HE.out, ← HJ.out, byts_end (by omega)]; rfl
      | succ g =>
        have hiz : (i : Int) < (s.size : Int) := by omega
        have hin : i < s.size := by omega
        have d1 : decide ((i : Int) < s.size) = true := decide_eq_true hiz
        have hx8 := (s[i]'hin).toNat_lt
        cases hp : digitN (s[i]'hin).toNat with
        | true =>
          have hp2 : 48 ≤ (s[i]'hin).toNat ∧ (s[i]'hin).toNat < 58 := of_decide_eq_true hp
          have e1 : decide (((s[i]'hin).toNat : Int) < 48) = false := decide_eq_false (by omega)
          have e2 : decide (((s[i]'hin).toNat : Int) > 57) = false := decide_eq_false (by omega)
          have e3 : decide ((57 : Int) < (s[i]'hin).toNat) = false := e2
          have Hp := Lib.hid hp
          clear hp hp2
          go_wp2
          go_roundg g
          case measure => omega
          case rel => exact ⟨rfl, i + 1, by omega, by go_num, by rw [← HI.out, byts_drop hin, List.all_cons, Hp.out, Bool.true_and]⟩
        | false =>
          have HE := Lib.hid (show R = false by rw [← HI.out, byts_drop hin, List.all_cons, hp, Bool.false_and])
          have hp2 : ¬ (48 ≤ (s[i]'hin).toNat ∧ (s[i]'hin).toNat < 58) := of_decide_eq_false hp
          clear hp HD
          by_cases h48 : (s[i]'hin).toNat < 48
          · have e1 : decide (((s[i]'hin).toNat : Int) < 48) = true := decide_eq_true (by omega)
            go_wp2
            refine bodyPost_ret (v := .tuple #[.int .i64 0, .int .i64 20]) (by simp [results, Tryz.results75, go_sem]) rfl ⟨⟨_, _, rfl, ?_⟩, rfl⟩
            rw [← HLR.out]
            unfold loopR
            rw [HRR.out, if_neg (by rw [HE.out]; decide)]
          · have e1 : decide (((s[i]'hin).toNat : Int) < 48) = false := decide_eq_false (by omega)
            have e2 : decide (((s[i]'hin).toNat : Int) > 57) = true := decide_eq_true (by omega)
            have e3 : decide ((57 : Int) < (s[i]'hin).toNat) = true := e2
            go_wp2
            refine bodyPost_ret (v := .tuple #[.int .i64 0, .int .i64 20]) (by simp [results, Tryz.results75, go_sem]) rfl ⟨⟨_, _, rfl, ?_⟩, rfl⟩
            rw [← HLR.out]
            unfold loopR
            rw [HRR.out, if_neg (by rw [HE.out]; decide)]

theorem rparse_ok (s : ByteArray) (w : World) (hs : s.size ≤ 1000000) :
    Calls Tryz.prog 75 #[.string s] w fun e w' => (∃ n c, e = .returned (.tuple #[.int .i64 n, .int .i64 c]) ∧ (n, c) = parseN (byts s)) ∧ w = w' := by
  by_cases hne : byts s = []
  · have b1 : (s.toList == []) = true := by rw [Lib.toList_data]; exact beq_iff_eq.2 hne
    have b2 : s.toList.isEmpty = true := by rw [Lib.toList_data]; exact List.isEmpty_iff.2 hne
    have HE := Lib.hid (show numL (byts s) = false by rw [hne]; rfl)
    clear hne
    go_enter Tryz.func75, Tryz.ntmps75
    go_wp2
    refine bodyPost_ret (v := .tuple #[.int .i64 0, .int .i64 20]) (by simp [results, Tryz.results75, go_sem]) rfl ⟨⟨_, _, rfl, ?_⟩, rfl⟩
    rw [parse_none HE.out]
  · have b2 : s.toList.isEmpty = false := by rw [Lib.toList_data]; exact List.isEmpty_eq_false_iff.2 hne
    have b2' : (byts s).isEmpty = false := List.isEmpty_eq_false_iff.2 hne
    cases hz : decide (1 < s.size) && headB (byts s) == 48 with
    | false =>
      refine (rparse_loop s w hs hne hz).mono ?_
      rintro e w' ⟨⟨n, c, h1, h2⟩, h3⟩
      refine ⟨⟨n, c, h1, ?_⟩, h3⟩
      rw [h2]
      exact loop_parse hne (by rw [byts_len]; exact hz)
    | true =>
      have HE := Lib.hid (show numL (byts s) = false by unfold numL; rw [byts_len, hz]; simp)
      rw [Bool.and_eq_true] at hz
      have h1 := of_decide_eq_true hz.1
      have h0 : 0 < s.size := by omega
      have h0z : (0 : Int) < s.size := by omega
      have d1 : decide ((1 : Int) < s.size) = true := decide_eq_true (by omega)
      have d1' : decide ((s.size : Int) > 1) = true := d1
      have b1 : (s.toList == []) = false := beq_eq_false_iff_ne.2 (by rw [Lib.toList_data]; exact hne)
      have hd : headB (byts s) = (s[0]'h0).toNat := by
        have h3 := byts_drop h0
        rw [List.drop_zero] at h3
        rw [h3]
        rfl
      have h48 := beq_iff_eq.1 hz.2
      rw [hd] at h48
      have b4 : (((s[0]'h0).toNat : Int) == 48) = true := beq_iff_eq.2 (by omega)
      clear hz hd h48 hne b2'
      go_enter Tryz.func75, Tryz.ntmps75
      go_wp2
      refine bodyPost_ret (v := .tuple #[.int .i64 0, .int .i64 20]) (by simp [results, Tryz.results75, go_sem]) rfl ⟨⟨_, _, rfl, ?_⟩, rfl⟩
      rw [parse_none HE.out]
end Go.Proofs.YtiklliiamljogaaGreatDoor

/- list, number. -/
namespace Go.Proofs.YtiklliiamljogaaGreatDoor
open Go.RowKit

theorem byts_nil (t : ByteArray) : (byts t).isEmpty = t.toList.isEmpty := by
  rw [Lib.toList_data]

set_option maxHeartbeats 1000000 in
set_option maxRecDepth 100000 in
theorem list_ok {S : Nat → Prop} (x : Sx) (v : Value) (w : World) (hv : Lies S w v x) :
    Calls Tryz.prog 34 #[v] w fun e w' => e = .returned (.bool (isList x)) ∧ Below w.heap.size w w' := by
  obtain ⟨k, T, l⟩ := x
  obtain ⟨t, A, c, rfl, rfl, hlc, _, hmax, hk⟩ := hv.open_
  have hB0 : Below w.heap.size w (w.alloc (.cells #[.int .i8 k, .string t, .slice A l.length c] 28)) := (Below.refl _ w).alloc (Nat.le_refl _) _
  have HB0 := Lib.hid hB0
  have e : isList (.mk k (byts t) l) = ((k == 3) && (byts t).isEmpty) := rfl
  rw [e]
  have e2 := byts_nil t
  rw [e2]
  clear hv hk hB0 e e2
  cases hk3 : k == 3 with
  | true =>
    go_enter Tryz.func34, Tryz.ntmps34
    go_wp2
    go_ret
    exact ⟨rfl, HB0.out⟩
  | false =>
    go_enter Tryz.func34, Tryz.ntmps34
    go_wp2
    go_ret
    exact ⟨rfl, HB0.out⟩

set_option maxHeartbeats 1000000 in
set_option maxRecDepth 100000 in
theorem rnum28_ok {S : Nat → Prop} (x : Sx) (v : Value) (w : World) (hv : Lies S w v x) (hs : x.text.length ≤ 1000000) :
    Calls Tryz.prog 61 #[v] w fun e w' => e = .returned (.tuple #[.int .i64 (parseN x.text).1, .bool (numP x).isSome]) ∧ Below w.heap.size w w' := by
  obtain ⟨k, T, l⟩ := x
  obtain ⟨t, A, c, rfl, rfl, hlc, _, hmax, hk⟩ := hv.open_
  have hB0 : Below w.heap.size w (w.alloc (.cells #[.int .i8 k, .string t, .slice A l.length c] 28)) := (Below.refl _ w).alloc (Nat.le_refl _) _
  have HB0 := Lib.hid hB0
  have hts : t.size ≤ 1000000 := by rw [← byts_len]; exact hs
  have e : (numP (.mk k (byts t) l)).isSome = ((k == 1) && (((parseN (byts t)).2 == 0) && ((l.length : Int) == 0))) := by
    show (if (parseN (byts t)).2 = 0 ∧ k = 1 ∧ l = [] then some (parseN (byts t)).1 else none).isSome = _
    by_cases h : (parseN (byts t)).2 = 0 ∧ k = 1 ∧ l = []
    · rw [if_pos h, h.1, h.2.1, h.2.2]; rfl
    · rw [if_neg h]
      symm
      show _ = false
      rw [Bool.eq_false_iff]
      intro h2
      simp only [Bool.and_eq_true, beq_iff_eq] at h2
      exact h ⟨h2.2.1, h2.1, List.eq_nil_of_length_eq_zero (by omega)⟩
  rw [e]
  have HP := Lib.hid (rparse_ok t (w.alloc (.cells #[.int .i8 k, .string t, .slice A l.length c] 28)) hts)
  show Calls _ _ _ _ fun e w' => e = .returned (.tuple #[.int .i64 (parseN (byts t)).1, _]) ∧ _
  obtain ⟨P, hP⟩ : ∃ P, parseN (byts t) = P := ⟨_, rfl⟩
  rw [hP] at HP ⊢
  obtain ⟨n, q⟩ := P
  clear hv hk hB0 e hs hP hts
  dsimp only
  have hB := Blk.new w 28 #[.int .i8 k, .string t, .slice A l.length c]
  obtain ⟨x0, x1, x2, _⟩ := blk3 hB
  clear hB
  cases hk1 : k == 1 with
  | false =>
    go_enter Tryz.func61, Tryz.ntmps61
    go_wp2_with (go_at_call 75; refine HP.out.mono ?_; rintro e w1 ⟨⟨n1, c1, rfl, h1⟩, rfl⟩; injection h1 with h1 h2; subst h1 h2)
    go_quiet (fail)
    go_wp2
    refine bodyPost_ret (v := .tuple #[.int .i64 n1, .bool false]) (by simp [results, Tryz.results61, go_sem]) rfl ⟨rfl, below_drewN HB0.out nq⟩
  | true =>
    cases hq : q == 0 with
    | false =>
      go_enter Tryz.func61, Tryz.ntmps61
      go_wp2_with (go_at_call 75; refine HP.out.mono ?_; rintro e w1 ⟨⟨n1, c1, rfl, h1⟩, rfl⟩; injection h1 with h1 h2; subst h1 h2)
      go_quiet (fail)
      go_wp2
      refine bodyPost_ret (v := .tuple #[.int .i64 n1, .bool false]) (by simp [results, Tryz.results61, go_sem]) rfl ⟨rfl, below_drewN HB0.out nq⟩
    | true =>
      go_enter Tryz.func61, Tryz.ntmps61
      go_wp2_with (go_at_call 75; refine HP.out.mono ?_; rintro e w1 ⟨⟨n1, c1, rfl, h1⟩, rfl⟩; injection h1 with h1 h2; subst h1 h2)
      go_quiet (fail)
      go_wp2
      refine bodyPost_ret (v := .tuple #[.int .i64 n1, .bool ((l.length : Int) == 0)]) (by simp [results, Tryz.results61, go_sem]) rfl ⟨rfl, below_drewN HB0.out nq⟩
end Go.Proofs.YtiklliiamljogaaGreatDoor

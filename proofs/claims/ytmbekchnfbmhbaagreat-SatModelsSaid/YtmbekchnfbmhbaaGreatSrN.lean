/- Solve. -/
import Derived.Test.YtmbekchnfbmhbaaGreatSrM
import Derived.Deep.DeepCutAuto
namespace Go.Proofs.YtmbekchnfbmhbaaGreat
open Go.RowKit Go.Lib

def SolveOut (w : World) (n : Nat) (R0 : List RowT) (budget : Nat) (e : Ending) (w' : World) : Prop := ∃ v, e = .returned (.tuple #[v, .int .i64 0]) ∧ SatPost w w.heap.size n R0 budget v w'
def PutAt (w : World) (b : Bl) (n : Nat) (vl vp vs : Value) (R : List RowT) (ph : List Int) (g : Nat) (v32 : Value) (wr : World) : Prop :=
  ∃ i S2 lr2, v32 = .int .i64 ((i : Nat) : Int) ∧ i + g = n ∧ SS wr b n S2 vl vp vs 0 ⟨n, [], 0⟩ R [] lr2 ph ∧ Below b.H0 w wr ∧ ∀ v : Nat, v < i → v ∈ lr2
theorem may_cl {n budget : Nat} {R : List RowT} (h : mayB n R budget = true) : CL n (rowsOf R) := by
  unfold mayB at h
  rw [Bool.and_eq_true, Bool.not_eq_true', List.any_eq_false] at h
  intro cl hcl
  obtain ⟨r, hr, rfl⟩ := List.mem_map.1 hcl
  have := h.2 r hr
  unfold badC at this
  simp only [Bool.or_eq_true, Bool.not_eq_true', not_or, Bool.not_eq_false, Bool.not_eq_true, List.any_eq_false] at this
  have hic : isC r.2.2 = true := this.1
  refine ⟨hic, fun x hx => ⟨isC_nonneg hic x hx, ?_⟩⟩
  have := this.2 x hx
  unfold wideN at this
  simp at this
  omega

set_option maxRecDepth 100000 in
set_option maxHeartbeats 8000000 in
theorem solve_in {w : World} {LA SA : Option Addr} {R0 : List RowT} {cl cs : Nat} {ss : List Int} {n budget : Nat} (hg : Grid w LA R0) (hs : Row .i64 w SA ss) (hsn : SA = none → cs = 0) (hsc : ss.length ≤ cs) (hn : n ≤ 400) (hm : mayB n R0 budget = true) (hbu : R0.length + budget ≤ 19000) :
    Calls Tryz.prog 9 #[.int .i64 n, .slice LA R0.length cl, .slice SA ss.length cs, .int .i64 budget] w (SolveOut w n R0 budget) := by
  have hal : Below w.heap.size w (w.alloc (.cells #[.int .i8 0, .slice none 0 0, .slice none 0 0] 29)) := (Below.refl _ w).alloc (Nat.le_refl _) _
  have KM := may_ok (n := n) (budget := budget) cl (hg.below hal)
  rw [hm] at KM
  obtain ⟨i0, hi, hz0, hz1, hz2⟩ := info_parts i8_info
  have hmk := fun W => run_make_rowN (P := Tryz.prog) 27 26 i0 (.int .i8 0) Tryz.underlying27 hi hz0 .i64 .i64 n n (Nat.le_refl _) (by rw [hz2]; omega) (by omega) W
  rw [hz1, Nat.mul_one] at hmk
  have hmk2 : ∀ W : World, (Instr.makeSlice 27 (.int .i64 (n : Int)) (.int .i64 (n : Int))).run Tryz.prog W = .ok (.slice (some ⟨W.heap.size, 0, none⟩) n n) (W.alloc (.cells (zeros8 n) 26)) := by
    intro W
    rw [hmk]
    have : madeCells (Value.int .i8 0).cells n = zeros8 n := by
      rw [show (Value.int IntKind.i8 0).cells = #[Value.int .i8 0] from rfl, made_one]
      simp [zeros8]
    rw [this]
  clear hmk hi hz0 hz1 hz2
  have HCL := Lib.hid (may_cl hm)
  have HG := Lib.hid hg
  have HSR := Lib.hid hs
  have HSN := Lib.hid hsn
  clear hg hs hsn hm
  go_enter Tryz.func9, Tryz.ntmps9
  go_wp2_with fail
  refine KM.mono ?_
  rintro e w1 ⟨rfl, hb1⟩
  have HB1 := Lib.hid (hal.trans (hb1.mono hal.size))
  have HBX := Lib.hid ((Blk.new w 29 #[.int .i8 0, .slice none 0 0, .slice none 0 0]).below hb1 (by simp))
  clear KM hb1 hal
  have g1 := HG.out.below HB1.out
  have r1 := HSR.out.below HB1.out
  have G1 := Lib.hid g1
  have R1 := Lib.hid r1
  clear g1 r1
  go_upto_region 3 with (fail)
  go_cut [10] (MadeP w1 n R0)
  case first =>
    go_region_with (first
      | (go_at_call 17; refine (clone_form cl (G1.out.below (by first | exact below_drewN (Below.refl _ _) 1 | exact below_drewN ((Below.refl _ _).alloc (Nat.le_refl _) _) 1))).mono ?_; rintro e w2 ⟨VA, vc, rfl, ho2, hb2⟩)
      | (go_at_call 18; refine (new_ok n (by omega) _ _ (Nat.le_refl _)).mono ?_; rintro e w3 ⟨bt, ba, rfl, ht3, hbt, hba, hb3⟩)
      | (go_at_call 19; refine (new_H n (by omega) _).mono ?_; rintro e w4 ⟨bh, S4, rfl, hh4, hb4, hS4⟩)
      | (go_at_call 20; refine (restarts_new SA ss.length cs _).mono ?_; rintro e w5 ⟨rfl, rfl⟩))
    all_goals go_wp2
    all_goals go_meet
    · have z2 := hb2.size
      have z3 := hb3.size
      have z4 := hb4.size
      simp only [World.drew, World.size_alloc] at z2 z3 z4
      have h := ss_made G1.out R1.out HSN.out hsc hn (below_drewN (Below.refl _ _) 1) ho2 (Nat.le_refl _) hb2 (Below.refl _ _) ht3 hbt hba hb3 (Below.refl _ _) hh4 (by omega) hS4 hb4 ((Below.refl _ _).alloc (Nat.le_refl _) _) (Below.refl _ _) (((Blk.new w4 26 (zeros8 n)).alloc _).alloc _) (by omega)
      simp only [World.size_alloc] at h
      exact h
    · have z2 := hb2.size
      have z3 := hb3.size
      have z4 := hb4.size
      simp only [World.drew, World.size_alloc] at z2 z3 z4
      have h := ss_made G1.out R1.out HSN.out hsc hn (below_drewN (Below.refl _ _) 1) ho2 (Nat.le_refl _) hb2 (Below.refl _ _) ht3 hbt hba hb3 (Below.refl _ _) hh4 (by omega) hS4 hb4 (Below.refl _ _) ((Below.refl _ _).alloc (by simp) _) (Blk.new_at (n := w4.heap.size + 1 + 1) (by simp) _ _) (by omega)
      simp only [World.size_alloc] at h
      exact h
    · have z2 := hb2.size
      have z3 := hb3.size
      have z4 := hb4.size
      simp only [World.drew, World.size_alloc] at z2 z3 z4
      have h := ss_made G1.out R1.out HSN.out hsc hn (below_drewN (Below.refl _ _) 1) ho2 (Nat.le_refl _) hb2 (Below.refl _ _) ht3 hbt hba hb3 ((Below.refl _ _).alloc (Nat.le_refl _) _) hh4 (by simp only [World.size_alloc]; omega) hS4 hb4 (Below.refl _ _) (Below.refl _ _) ((((Blk.new w3 26 (zeros8 n)).below hb4 (by simp)).alloc _).alloc _) (by omega)
      simp only [World.size_alloc] at h
      exact h
    · have z2 := hb2.size
      have z3 := hb3.size
      have z4 := hb4.size
      simp only [World.drew, World.size_alloc] at z2 z3 z4
      have h := ss_made G1.out R1.out HSN.out hsc hn (below_drewN (Below.refl _ _) 1) ho2 (Nat.le_refl _) hb2 ((Below.refl _ _).alloc (Nat.le_refl _) _) ht3 hbt hba hb3 (Below.refl _ _) hh4 (by omega) hS4 hb4 (Below.refl _ _) (Below.refl _ _) (((((Blk.new w2 26 (zeros8 n)).below hb3 (by simp)).below hb4 (by omega)).alloc _).alloc _) (by omega)
      simp only [World.size_alloc] at h
      exact h
    · have z2 := hb2.size
      have z3 := hb3.size
      have z4 := hb4.size
      simp only [World.drew, World.size_alloc] at z2 z3 z4
      have h := ss_made G1.out R1.out HSN.out hsc hn (below_drewN ((Below.refl _ _).alloc (Nat.le_refl _) _) 1) ho2 (by simp [World.drew]) hb2 (Below.refl _ _) ht3 hbt hba hb3 (Below.refl _ _) hh4 (by omega) hS4 hb4 (Below.refl _ _) (Below.refl _ _) ((((((Blk.new w1 26 (zeros8 n)).drewN 1).below hb2 (by simp)).below hb3 (by omega)).below hb4 (by omega)).alloc _ |>.alloc _) (by omega)
      simp only [World.size_alloc] at h
      exact h
  case rest =>
    obtain ⟨b, S, vl, vp, vs, ph, rfl, hb3, hH0, hss, hbel⟩ := hcut
    generalize wc = w2 at *
    have hbx : Blk w2 w.heap.size 29 #[.int .i8 0, .slice none 0 0, .slice none 0 0] := HBX.out.below hbel HBX.out.lt
    have hB1 : b.H0 ≤ w2.heap.size := by rw [hH0]; exact hbel.size
    have HSS := Lib.hid hss
    have HBE := Lib.hid (show Below b.H0 w1 w2 by rw [hH0]; exact hbel)
    have HH0 := Lib.hid hH0
    have HB3 := Lib.hid hb3
    have HBX2 := Lib.hid hbx
    clear hss hbel hb3 hH0 hbx
    go_wp2
    go_loopg [32] n (PutAt w1 b n vl vp vs R0 ph)
    case atStart => exact ⟨0, S, [], rfl, by omega, HSS.out, HBE.out, fun v hv => by omega⟩
    case round =>
      obtain ⟨i, S2, lr2, rfl, hig, hss, hbel, hin⟩ := hrel
      clear HSS HBE
      cases gk with
      | succ gm =>
        have hlt : i < n := by omega
        have d1 : decide (i < n) = true := decide_eq_true hlt
        have c4 := hss.blk.cell 4
        simp only [List.getElem?_toArray, List.getElem?_cons_zero, List.getElem?_cons_succ] at c4
        have KP := put_H hss.h (Nat.le_of_lt hss.lt) hlt
        have HSS := Lib.hid hss
        have HBE := Lib.hid hbel
        have HIN := Lib.hid hin
        clear hss hbel hin
        go_wp2_with (go_at_call 21; (with_reducible refine KP.mono ?_); rintro e w3 ⟨S3, lr3, rfl, hh3, hm3, hk3, hs3⟩; have HSS3 := Lib.hid (HSS.out.heap hk3 hh3 hs3); have HBE3 := Lib.hid (HBE.out.trans (hk3.below (Nat.le_of_lt HSS.out.lt) (fun i hi => (HSS.out.h.low hi).1))); have HM3 := Lib.hid hm3; clear hh3 hm3 hk3 hs3)
        go_roundg gm
        case measure => omega
        case rel => exact ⟨i + 1, S3, lr3, by go_num, by omega, HSS3.out, HBE3.out, fun v hv => (HM3.out v).2 (by
          by_cases e : v = i
          · exact .inr e
          · exact .inl (HIN.out v (by omega)))⟩
      | zero =>
        obtain rfl : i = n := by omega
        have d1 : decide (i < i) = false := by simp
        have hpi : PI i ⟨i, [], 0⟩ R0 lr2 := ⟨Inv21.start (by omega) _, HCL.out, fun v hv _ => hin v hv, by omega, hn⟩
        have KR := run_fn21 hss hpi (budget := budget) hbu
        have HBE := Lib.hid hbel
        clear hss hbel hin hpi
        go_wp2_with fail
        refine KR.mono ?_
        rintro e w4 ⟨v, rfl, hb4, hpost⟩
        have hb14 := HBE.out.trans hb4
        have hbx : Blk w4 w.heap.size 29 #[.int .i8 0, .slice none 0 0, .slice none 0 0] := HBX.out.below hb14 (by rw [HH0.out]; exact HBX.out.lt)
        have x0 := hbx.cell 0
        have x1 := hbx.cell 1
        have x2 := hbx.cell 2
        have x3 := hbx.frozen 0
        have x4 := hbx.frozen 1
        have x5 := hbx.frozen 2
        simp only [List.getElem?_toArray, List.getElem?_cons_zero, List.getElem?_cons_succ] at x0 x1 x2
        have hle : w.heap.size ≤ b.H0 := by rw [HH0.out]; exact HB1.out.size
        have HBF := Lib.hid (HB1.out.trans (hb14.mono hle))
        have HX4 := Lib.hid hbx
        clear KR hb4 hb14 hbx HBE
        rcases hpost with ⟨g, vals, rfl, p1, p2, p3, p4⟩ | ⟨QA, qc, st, rfl, p1, p2, p3, p4, p5, p6⟩ | ⟨rfl, p1⟩
        · have P := Lib.hid (And.intro p1 (And.intro p2 (And.intro p3 p4)))
          clear p1 p2 p3 p4
          go_wp2
          refine bodyPost_ret (v := .tuple #[.agg #[.int .i8 0, .slice (some ⟨g, 0, none⟩) i i, .slice none 0 0], .int .i64 0]) (by simp [results, Tryz.results9, go_sem, x0, x1, x2]) rfl ?_
          have kb := box_kept w4 w.heap.size (.int .i8 0) (.slice (some ⟨g, 0, none⟩) i i) (.slice none 0 0)
          exact ⟨_, rfl, HBF.out.trans (kb.below (Nat.le_of_lt HX4.out.lt) (fun k e => by rw [e]; exact Nat.le_refl _)), .inl ⟨g, vals, rfl, P.out.1.kept kb (P.out.1.ne_ HX4.out (by decide)), P.out.2.1, P.out.2.2.1, P.out.2.2.2⟩⟩
        · have P := Lib.hid (And.intro p1 (And.intro p2 (And.intro p3 (And.intro p4 (And.intro p5 p6)))))
          clear p1 p2 p3 p4 p5 p6
          go_wp2
          refine bodyPost_ret (v := .tuple #[.agg #[.int .i8 1, .slice none 0 0, .slice QA st.length qc], .int .i64 0]) (by simp [results, Tryz.results9, go_sem, x0, x1, x2]) rfl ?_
          have kb := box_kept w4 w.heap.size (.int .i8 1) (.slice none 0 0) (.slice QA st.length qc)
          exact ⟨_, rfl, HBF.out.trans (kb.below (Nat.le_of_lt HX4.out.lt) (fun k e => by rw [e]; exact Nat.le_refl _)), Or.inr (Or.inl ⟨QA, qc, st, rfl, own_lower (own_kept P.out.1 kb (fun k hk e => own_blk_ne P.out.1 HX4.out (by decide) (e ▸ hk))) hle, (fun q hq => ⟨(P.out.2.1 q hq).1.kept kb (row_box (P.out.2.1 q hq).1 HX4.out (fun _ e => by cases e) (fun _ e => by cases e)), (P.out.2.1 q hq).2⟩), P.out.2.2⟩)⟩
        · have P := Lib.hid p1
          clear p1
          go_wp2
          refine bodyPost_ret (v := .tuple #[.agg #[.int .i8 2, .slice none 0 0, .slice none 0 0], .int .i64 0]) (by simp [results, Tryz.results9, go_sem, x0, x1, x2]) rfl ?_
          have kb := box_kept w4 w.heap.size (.int .i8 2) (.slice none 0 0) (.slice none 0 0)
          exact ⟨_, rfl, HBF.out.trans (kb.below (Nat.le_of_lt HX4.out.lt) (fun k e => by rw [e]; exact Nat.le_refl _)), Or.inr (Or.inr ⟨rfl, P.out⟩)⟩
end Go.Proofs.YtmbekchnfbmhbaaGreat

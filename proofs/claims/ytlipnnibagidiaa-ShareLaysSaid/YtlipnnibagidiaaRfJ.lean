/- The document's laying of a table: gantryref26.Put. -/
import Derived.Test.YtlipnnibagidiaaRfI
namespace Go.Proofs.Ytlipnnibagidiaa
open Go.RowKit

theorem layT_ordK {T : List Nd} {x y most : Int} (h : OrdK T) : OrdK (layT T x y most).T := by
  unfold layT
  split
  · exact OrdK.nil
  split
  · exact OrdK.nil
  split
  · exact putT_ordK h (by show (6 : Int) ≠ 11; decide)
  split
  · exact OrdK.nil
  · exact leT_ordK (leT_ordK (putT_ordK h (by show (6 : Int) ≠ 11; decide)))
theorem rest_ik {R : List Int} {i k : Nat} (hik : i < k) (hk : k < R.length) : restL R i (k - (i + 1)) = (R[i]'(by omega), R[k]) :: restL R i (k + 1 - (i + 1)) := by
  have hj : k - (i + 1) < (R.drop (i + 1)).length := by rw [List.length_drop]; omega
  rw [rest_step hj, List.getElem_drop, List.getD_eq_getElem?_getD, List.getElem?_eq_getElem (by omega)]
  have e1 : i + 1 + (k - (i + 1)) = k := by omega
  have e2 : k - (i + 1) + 1 = k + 1 - (i + 1) := by omega
  simp only [e1, e2, Option.getD_some]
theorem Row.keptB {W W' : World} {RA : Option Addr} {R : List Int} {B : Nat} (h : Row W RA R) (hk : Kept (fun b => b = B) W W') (hlt : ∀ b, RA = some b → 0 < R.length → B < b.block) : Row W' RA R := by
  refine ⟨h.len, ?_⟩
  rcases Nat.eq_zero_or_pos R.length with h0 | h0
  · exact .inl h0
  · obtain ⟨b, off, h1, h2, h3⟩ := h.at_.resolve_left (by omega)
    refine .inr ⟨b, off, h1, Nat.lt_of_lt_of_le h2 hk.size, fun i hi => ?_⟩
    have hb : W'.heap[b]? = W.heap[b]? := hk.block b h2 (by have := hlt _ h1 h0; simp at this; omega)
    rw [show W'.cell? ⟨b, off + i, none⟩ = W.cell? ⟨b, off + i, none⟩ by unfold World.cell?; rw [hb]]
    exact h3 i hi
/-- The document's laying under way. -/
structure RY (w : World) (B : Nat) (T : List Nd) (RA : Option Addr) (R : List Int) (most : Int) (rest : List (Int × Int)) (A' : Option Addr) (c' : Nat) (Tk : List Nd) (W : World) : Prop where
  y : LY w B A' Tk c' W
  lay : laysT (pairsL R) T most = laysT rest Tk most
  ord : OrdK Tk
  len : Tk.length + 3 * rest.length ≤ T.length + 3 * (pairsL R).length
  row : Row W RA R
  far : ∀ b, RA = some b → 0 < R.length → B + 1 < b.block
section
variable {w W W' : World} {B : Nat} {T Tk : List Nd} {RA A' : Option Addr} {R : List Int} {most : Int} {rest : List (Int × Int)} {c' : Nat}
theorem RY.below (h : RY w B T RA R most rest A' c' Tk W) (hb : Below W.heap.size W W') : RY w B T RA R most rest A' c' Tk W' :=
  ⟨h.y.below hb, h.lay, h.ord, h.len, h.row.below hb, h.far⟩
theorem RY.step {x y : Int} (h : RY w B T RA R most ((x, y) :: rest) A' c' Tk W) {A2 : Option Addr} {T2 : List Nd} {c2 : Nat} (hl : layT Tk x y most = ⟨T2, 0⟩) (ht : Tab W A2 T2) (hc : T2.length ≤ c2) :
    RY w B T RA R most rest A2 c2 T2 (W.setCell ⟨B, 0, none⟩ (.slice A2 T2.length c2)) := by
  refine ⟨h.y.store ht hc, ?_, ?_, ?_, h.row.keptB (Kept.set1 W B 0 _) fun b e hp => by have := h.far b e hp; omega, h.far⟩
  · rw [h.lay, laysT, hl, if_neg (by simp)]
  · have := layT_ordK (x := x) (y := y) (most := most) h.ord
    rw [hl] at this
    exact this
  · have h1 := layT_len Tk x y most
    rw [hl] at h1
    have h2 := h.len
    rw [List.length_cons] at h2
    dsimp only at h1
    omega
end

set_option maxRecDepth 100000 in
set_option maxHeartbeats 8000000 in
theorem rsput_ok {T : List Nd} {w : World} {A : Option Addr} (c : Nat) (most : Int) (hc : T.length ≤ c) (h : Tab w A T) (hl : T.length ≤ 10000) :
    Calls Try.prog 7 #[.agg #[.slice A T.length c], .int .i64 most] w (ShIs (putS T most) w) := by
  obtain ⟨w0, hw0⟩ : ∃ w0, (w.alloc (.cells #[.slice A T.length c] 24)).alloc (.cells #[.slice none 0 0] 24) = w0 := ⟨_, rfl⟩
  have HY0 : Hid (LY w w.heap.size A T c w0) := Lib.hid (by
    rw [← hw0]
    exact ⟨(Blk.new w _ _).alloc _, Blk.new_at (by simp) _ _, (h.alloc _).alloc _, hc, ((Below.refl _ w).alloc (Nat.le_refl _) _).alloc (by simp) _⟩)
  have HSZ0 : Hid (w0.heap.size = w.heap.size + 2) := Lib.hid (by rw [← hw0]; simp)
  have HLT := Lib.hid hl
  obtain ⟨z1, z2, z3, z4⟩ := HY0.out.cells
  have HG : Hid (putS T most = if coreB T then (if 12 < (nodesT T).length then ⟨[], 40⟩ else laysT (pairsL (nodesT T)) T most) else ⟨[], 2⟩) := Lib.hid rfl
  clear h hc hl
  go_enter Try.func7, Try.ntmps7
  go_wp2_with fail
  refine (rcore_ok c HY0.out.tab).mono ?_
  rintro e w1 ⟨rfl, hb⟩
  have HY1 := Lib.hid (HY0.out.below hb)
  have HSZ1 : Hid (w.heap.size + 2 ≤ w1.heap.size) := Lib.hid (by rw [← HSZ0.out]; exact hb.size)
  obtain ⟨y1, y2, y3, y4⟩ := HY1.out.cells
  clear hb z1 z2 z3 z4 hw0
  generalize hcb : coreB T = cb at *
  cases cb with
  | false =>
    have HP : Hid (putS T most = ⟨[], 2⟩) := Lib.hid (by rw [HG.out, if_neg (by simp)])
    clear hcb
    go_wp2
    obtain ⟨o1, o2, o3⟩ := HY1.out.out (A' := none) (T' := []) (c' := 0) ⟨by simp, .inl rfl⟩
    refine bodyPost_ret (v := .tuple #[.agg #[.slice none 0 0], .int .i64 2]) (by simp only [List.length_nil] at o3; simp [results, Try.results7, go_sem, o3]) rfl ?_
    rw [HP.out]
    exact ⟨none, 0, rfl, o1, Nat.le_refl _, o2⟩
  | true =>
  have HCT := Lib.hid (coreB_iff.1 hcb)
  clear hcb
  go_wp2_with fail
  refine (rnodes_ok c HY1.out.tab HCT.out.ok).mono ?_
  rintro e w2 ⟨v, rfl, hv, hb⟩
  obtain ⟨RA, rc, rfl⟩ := own_slice hv
  have HY2 := Lib.hid (HY1.out.below hb)
  have HV := Lib.hid hv
  obtain ⟨x1, x2, x3, x4⟩ := HY2.out.cells
  clear hb hv y1 y2 y3 y4
  by_cases hn : 12 < (nodesT T).length
  · have HP : Hid (putS T most = ⟨[], 40⟩) := Lib.hid (by rw [HG.out, if_pos trivial, if_pos hn])
    have d1 : decide (12 < (nodesT T).length) = true := by simpa using hn
    have d2 : decide ((12 : Int) < ((nodesT T).length : Int)) = true := by simp; omega
    clear hn
    go_wp2
    obtain ⟨o1, o2, o3⟩ := HY2.out.out (A' := none) (T' := []) (c' := 0) ⟨by simp, .inl rfl⟩
    refine bodyPost_ret (v := .tuple #[.agg #[.slice none 0 0], .int .i64 40]) (by simp only [List.length_nil] at o3; simp [results, Try.results7, go_sem, o3]) rfl ?_
    rw [HP.out]
    exact ⟨none, 0, rfl, o1, Nat.le_refl _, o2⟩
  have HP : Hid (putS T most = laysT (pairsL (nodesT T)) T most) := Lib.hid (by rw [HG.out, if_pos trivial, if_neg hn])
  have d1 : decide (12 < (nodesT T).length) = false := by simp; omega
  have d2 : decide ((12 : Int) < ((nodesT T).length : Int)) = false := by simp; omega
  have hRl : (nodesT T).length ≤ 100000 := by omega
  have hrw := OwnL.row HV.out hRl
  have HPL : Hid ((pairsL (nodesT T)).length ≤ 66) := Lib.hid (pairs_66 (by omega))
  have HIn : Hid (∀ x ∈ nodesT T, In64 x) := Lib.hid (fun x hx => by obtain ⟨h1, _⟩ := mem_nodes hx; have := h1.lo; have := h1.hi; have := HLT.out; unfold In64; omega)
  have HR2 : Hid (RY w w.heap.size T RA (nodesT T) most (pairsL (nodesT T)) A c T w2) := Lib.hid ⟨HY2.out, rfl, fun _ => ordB_iff.2 HCT.out.ord, Nat.le_refl _, hrw.1, fun b e hp => by have := hrw.2.1 b e hp; have := HSZ1.out; omega⟩
  clear hn hrw HV HY0 HY1 HY2 HG HCT
  generalize nodesT T = R at *
  go_wp2
  go_loopg [7] R.length (fun g v wr => ∃ (i : Nat) (A' : Option Addr) (c' : Nat) (Tk : List Nd), i + g = R.length ∧ v = .int .i64 i ∧ RY w w.heap.size T RA R most (pairsL (R.drop i)) A' c' Tk wr)
  case atStart => exact ⟨0, A, c, T, by omega, rfl, HR2.out⟩
  case round =>
    obtain ⟨i, A', c', Tk, hig, rfl, hry⟩ := hrel
    have HRY := Lib.hid hry
    obtain ⟨v1, v2, v3, v4⟩ := hry.y.cells
    clear hry x1 x2 x3 x4
    cases gk with
    | zero =>
      obtain rfl : i = R.length := by omega
      have d3 : decide ((R.length : Int) < R.length) = false := by simp
      have HF : Hid (laysT (pairsL R) T most = ⟨Tk, 0⟩) := Lib.hid (by rw [HRY.out.lay, pairs_end (Nat.le_refl _)]; rfl)
      go_wp2
      obtain ⟨o1, o2, o3⟩ := HRY.out.y.out (A' := A') (T' := Tk) (c' := c') HRY.out.y.tab
      refine bodyPost_ret (v := .tuple #[.agg #[.slice A' Tk.length c'], .int .i64 0]) (by simp [results, Try.results7, go_sem, o3]) rfl ?_
      rw [HP.out, HF.out]
      exact ⟨A', c', rfl, o1, HRY.out.y.cap, o2⟩
    | succ gk =>
      have hlt : i < R.length := by omega
      have d3 : decide ((i : Int) < R.length) = true := by simp; omega
      have t1 : (0 : Int) ≤ (i : Int) := by omega
      have t2 : (i : Int) < (R.length : Int) := by omega
      have hw1 : wrap64 ((i : Int) + 1) = (i : Int) + 1 := by have := HRY.out.row.len; unfold wrap64; omega
      have HI0 : Hid (RY w w.heap.size T RA R most (restL R i (i + 1 - (i + 1))) A' c' Tk wr) := Lib.hid (by rw [Nat.sub_self, rest_zero hlt]; exact HRY.out)
      obtain ⟨go, rfl⟩ : ∃ go : Nat, go = gk := ⟨_, rfl⟩
      have HLT2 := Lib.hid hlt
      clear HRY
      go_wp2
      go_loopg [8] (R.length - (i + 1)) (fun g v wx => ∃ (k : Nat) (A' : Option Addr) (c' : Nat) (Tk : List Nd), k + g = R.length ∧ i + 1 ≤ k ∧ v = .int .i64 k ∧ RY w w.heap.size T RA R most (restL R i (k - (i + 1))) A' c' Tk wx)
      case atStart => exact ⟨i + 1, A', c', Tk, by omega, Nat.le_refl _, by go_num, HI0.out⟩
      case round =>
        obtain ⟨k, A1, c1, T1, hkg, hik, rfl, hry⟩ := hrel
        have HRY := Lib.hid hry
        obtain ⟨u1, u2, u3, u4⟩ := hry.y.cells
        clear hry v1 v2 v3 v4
        cases gk with
        | zero =>
          obtain rfl : k = R.length := by omega
          have d4 : decide ((R.length : Int) < R.length) = false := by simp
          go_wp2
          go_roundg go
          case measure => omega
          case rel => exact ⟨i + 1, A1, c1, T1, by omega, by go_num, by rw [← rest_end (i := i) (j := R.length - (i + 1)) (by rw [List.length_drop]; exact Nat.le_refl _)]; exact HRY.out⟩
        | succ g2 =>
          have hkl : k < R.length := by omega
          have d4 : decide ((k : Int) < R.length) = true := by simp; omega
          have t3 : (0 : Int) ≤ (k : Int) := by omega
          have t4 : (k : Int) < (R.length : Int) := by omega
          have hre := rest_ik (R := R) (i := i) (k := k) (by omega) hkl
          have HRE : Hid (RY w w.heap.size T RA R most ((R[i], R[k]) :: restL R i (k + 1 - (i + 1))) A1 c1 T1 wr) := Lib.hid (by have h := HRY.out; rw [hre] at h; exact h)
          obtain ⟨rb, ro, hRA, hrb, hrc⟩ := HRY.out.row.at_.resolve_left (by omega)
          subst hRA
          have q1 := hrc i hlt
          have q2 := hrc k hkl
          have HX := Lib.hid (HIn.out _ (List.getElem_mem hlt))
          have HY := Lib.hid (HIn.out _ (List.getElem_mem hkl))
          clear hre hrc
          generalize R[i] = x at *
          generalize R[k] = y at *
          have KL := Lib.hid (fun (W : World) (hW : RY w w.heap.size T (some ⟨rb, ro, none⟩) R most ((x, y) :: restL R i (k + 1 - (i + 1))) A1 c1 T1 W) => rlay_ok c1 x y most HX.out HY.out hW.y.cap hW.y.tab (by have h1 := hW.len; have := HPL.out; have := HLT.out; omega) hW.ord)
          obtain ⟨pr, hpr⟩ : ∃ pr, layT T1 x y most = pr := ⟨_, rfl⟩
          rw [hpr] at KL
          obtain ⟨T2, e2⟩ := pr
          have HPR := Lib.hid hpr
          clear hpr HRY
          go_upto_region 12 with (fail)
          have HRd : Hid (RY w w.heap.size T (some ⟨rb, ro, none⟩) R most ((x, y) :: restL R i (k + 1 - (i + 1))) A1 c1 T1 wr.drew) := Lib.hid (HRE.out.below (below_drewN (Below.refl wr.heap.size wr) 1))
          have HRa : Hid (RY w w.heap.size T (some ⟨rb, ro, none⟩) R most ((x, y) :: restL R i (k + 1 - (i + 1))) A1 c1 T1 (wr.alloc (.cells #[.slice none 0 0] 24)).drew) := Lib.hid (HRE.out.below (below_drewN ((Below.refl wr.heap.size wr).alloc (Nat.le_refl _) _) 1))
          have HTa : Hid (Blk (wr.alloc (.cells #[.slice none 0 0] 24)).drew wr.heap.size 24 #[.slice none 0 0]) := Lib.hid (Blk.new wr _ _)
          have HSw : Hid (w.heap.size + 1 < wr.heap.size) := Lib.hid HRE.out.y.t8.lt
          have q5 : wr.drew.cell? ⟨w.heap.size, 0, none⟩ = some (.slice A1 T1.length c1) := u1
          have q6 : wr.drew.cell? ⟨rb, ro + i, none⟩ = some (.int .i64 x) := q1
          have q7 : wr.drew.cell? ⟨rb, ro + k, none⟩ = some (.int .i64 y) := q2
          have hkeep : Hid (∀ W, RY w w.heap.size T (some ⟨rb, ro, none⟩) R most ((x, y) :: restL R i (k + 1 - (i + 1))) A1 c1 T1 W → Below wr.heap.size wr W → W.cell? ⟨w.heap.size, 0, none⟩ = some (.slice A1 T1.length c1) ∧ W.cell? ⟨rb, ro + i, none⟩ = some (.int .i64 x) ∧ W.cell? ⟨rb, ro + k, none⟩ = some (.int .i64 y)) := Lib.hid (fun W h hb => ⟨h.y.cells.1, (hb.cell (p := ⟨rb, ro + i, none⟩) hrb).trans q1, (hb.cell (p := ⟨rb, ro + k, none⟩) hrb).trans q2⟩)
          have hbd : Hid (Below wr.heap.size wr wr.drew) := Lib.hid (below_drewN (Below.refl wr.heap.size wr) 1)
          have hba : Hid (Below wr.heap.size wr (wr.alloc (.cells #[.slice none 0 0] 24)).drew) := Lib.hid (below_drewN ((Below.refl wr.heap.size wr).alloc (Nat.le_refl _) _) 1)
          clear HI0 u3 u4
          go_region_held3 (fun w' => w'.cell? ⟨w.heap.size, 0, none⟩ = some (.slice A1 T1.length c1) ∧ w'.cell? ⟨rb, ro + i, none⟩ = some (.int .i64 x) ∧ w'.cell? ⟨rb, ro + k, none⟩ = some (.int .i64 y)) (go_keep) ((first
            | (go_at_call 22; refine (KL.out _ HRd.out).mono ?_; rintro e w5 ⟨A2, c2, rfl, ht, hc2, hb⟩; have HT2 := Lib.hid ht; have HC2 := Lib.hid hc2; have hb5 := hbd.out.trans (hb.mono hbd.out.size); have HR5 := Lib.hid (HRd.out.below hb); obtain ⟨s1, s2, s3⟩ := hkeep.out _ HR5.out hb5; clear ht hc2 hb)
            | (go_at_call 22; refine (KL.out _ HRa.out).mono ?_; rintro e w5 ⟨A2, c2, rfl, ht, hc2, hb⟩; have HT2 := Lib.hid ht; have HC2 := Lib.hid hc2; have hb5 := hba.out.trans (hb.mono hba.out.size); have HR5 := Lib.hid (HRa.out.below hb); obtain ⟨s1, s2, s3⟩ := hkeep.out _ HR5.out hb5; have HT5 := Lib.hid (HTa.out.below hb HTa.out.lt); have s4 := HT5.out.cell 0; have s5 := HT5.out.frozen 0; simp only [List.getElem?_toArray, List.getElem?_cons_zero] at s4; have hb6 := hb5.setCell (p := ⟨wr.heap.size, 0, none⟩) (Nat.le_refl _) (.slice A2 T2.length c2); have HR6 := Lib.hid (HRE.out.below hb6); obtain ⟨s6, s7, s8⟩ := hkeep.out _ HR6.out hb6; clear ht hc2 hb)))
          · have HR6 := Lib.hid (HR5.out.below ((Below.refl w5.heap.size w5).alloc (Nat.le_refl _) (.cells #[.slice A2 T2.length c2] 24)))
            have HT6 := Lib.hid (Blk.new w5 24 #[.slice A2 T2.length c2])
            have HTb6 := Lib.hid (HT2.out.alloc (.cells #[.slice A2 T2.length c2] 24))
            clear HR5 HT2 s1 s2 s3 hb5 hbd hba HTa HRa HRd q5 q6 q7 u1 u2 hkeep
            generalize w5.alloc (.cells #[.slice A2 T2.length c2] 24) = w6 at *
            generalize w5.heap.size = G at *
            obtain ⟨s1, s2, s3, s4⟩ := HR6.out.y.cells
            have s5 := HT6.out.cell 0
            simp only [List.getElem?_toArray, List.getElem?_cons_zero] at s5
            by_cases te : e2 = 0
            · subst te
              have HST := Lib.hid (HR6.out.step HPR.out HTb6.out HC2.out)
              go_wp2
              go_roundg g2
              case measure => omega
              case rel => exact ⟨k + 1, A2, c2, T2, by omega, by omega, by go_num, HST.out⟩
            · have HS : Hid (putS T most = ⟨[], e2⟩) := Lib.hid (by rw [HP.out, HR6.out.lay, laysT, HPR.out, if_pos te])
              have de : (e2 == 0) = false := by simp [te]
              clear te
              go_wp2
              obtain ⟨o1, o2, o3⟩ := HR6.out.y.out (A' := none) (T' := []) (c' := 0) ⟨by simp, .inl rfl⟩
              refine bodyPost_ret (v := .tuple #[.agg #[.slice none 0 0], .int .i64 e2]) (by simp only [List.length_nil] at o3; simp [results, Try.results7, go_sem, o3]) rfl ?_
              rw [HS.out]
              exact ⟨none, 0, rfl, o1, Nat.le_refl _, o2⟩
          · have HT6 := Lib.hid (HT5.out.set_ 0 (.slice A2 T2.length c2))
            have HTb6 := Lib.hid (HT2.out.far (fun i => HT5.out.small i) (Kept.set1 w5 wr.heap.size 0 (.slice A2 T2.length c2)))
            simp only [List.setIfInBounds_toArray, List.set_cons_zero] at HT6
            clear HR5 HT2 HT5 s1 s2 s3 s4 s5 s6 s7 s8 hb5 hb6 hbd hba HTa HRa HRd q5 q6 q7 u1 u2 hkeep
            generalize w5.setCell ⟨wr.heap.size, 0, none⟩ (.slice A2 T2.length c2) = w6 at *
            obtain ⟨s1, s2, s3, s4⟩ := HR6.out.y.cells
            have s5 := HT6.out.cell 0
            simp only [List.getElem?_toArray, List.getElem?_cons_zero] at s5
            by_cases te : e2 = 0
            · subst te
              have HST := Lib.hid (HR6.out.step HPR.out HTb6.out HC2.out)
              go_wp2
              go_roundg g2
              case measure => omega
              case rel => exact ⟨k + 1, A2, c2, T2, by omega, by omega, by go_num, HST.out⟩
            · have HS : Hid (putS T most = ⟨[], e2⟩) := Lib.hid (by rw [HP.out, HR6.out.lay, laysT, HPR.out, if_pos te])
              have de : (e2 == 0) = false := by simp [te]
              clear te
              go_wp2
              obtain ⟨o1, o2, o3⟩ := HR6.out.y.out (A' := none) (T' := []) (c' := 0) ⟨by simp, .inl rfl⟩
              refine bodyPost_ret (v := .tuple #[.agg #[.slice none 0 0], .int .i64 e2]) (by simp only [List.length_nil] at o3; simp [results, Try.results7, go_sem, o3]) rfl ?_
              rw [HS.out]
              exact ⟨none, 0, rfl, o1, Nat.le_refl _, o2⟩
end Go.Proofs.Ytlipnnibagidiaa

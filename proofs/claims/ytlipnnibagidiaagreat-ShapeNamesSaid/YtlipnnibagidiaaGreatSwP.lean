/- Kinds a core table may have: share.fits. -/
import Derived.Test.YtlipnnibagidiaaGreatSwA
import Derived.Test.YtlipnnibagidiaaGreatRfC
import Derived.Test.YtlipnnibagidiaaGreatMk
namespace Go.Proofs.YtlipnnibagidiaaGreat
open Go.RowKit

set_option maxRecDepth 100000 in
set_option maxHeartbeats 8000000 in
theorem sfits_ok {T : List Nd} {w : World} {A : Option Addr} (c : Nat) (n : Nd) (at_ : Int) (hst : Stands n at_) (hat : at_ ≤ T.length) (h : Tab w A T) :
    Calls Tryz.prog 90 #[.agg #[.slice A T.length c], nodeVal n] w (BoolIs (fitB T n) w) := by
  have HB0 := Lib.hid (show Below w.heap.size w ((w.alloc (.cells #[.slice A T.length c] 33)).alloc (.cells (nodeCells n).toArray 51)) from ((Below.refl _ w).alloc (Nat.le_refl _) _).alloc (by simp) _)
  have HBT : Hid (Blk ((w.alloc (.cells #[.slice A T.length c] 33)).alloc (.cells (nodeCells n).toArray 51)) w.heap.size 33 #[.slice A T.length c]) := Lib.hid ((Blk.new w _ _).alloc _)
  have KI := Lib.hid (fun (W : World) (hW : Below w.heap.size w W) => sints_ok c n (fun ho => by have := (hst.two (.inl ho)).1; omega) (h.below hW))
  have KO := Lib.hid (fun (W : World) (k : Nat) (hk : k < T.length) (hW : Below w.heap.size w W) => sown_ok c k hk (h.below hW))
  have HN := Lib.hid (fun (W : World) (hW : Below w.heap.size w W) => h.below hW)
  have HST := Lib.hid hst
  simp only [nodeVal, nodeCells] at HB0 HBT KI ⊢
  by_cases q4 : n.op = 4 ∨ n.op = 5 ∨ n.op = 8 ∨ n.op = 9
  · have HR : Hid (fitB T n = false) := Lib.hid (by unfold fitB; rw [if_pos q4])
    clear h hst
    rcases q4 with q | q | q | q
    all_goals
      rw [q] at HB0 HBT ⊢
      go_enter Tryz.func90, Tryz.ntmps90
      go_wp2
      go_quiet (fail)
      go_wp2
      go_ret
      rw [HR.out]
      exact ⟨rfl, below_drewN HB0.out _⟩
  have HF : Hid (fitB T n = if n.op = 1 then decide ((ndAt T n.a0).op ≠ 1)
      else if n.op = 6 then (if (ndAt T n.a0).sort = 1 then decide (n.a0 < n.a1) && decide ((ndAt T n.a1).sort = 1) else decide ((ndAt T n.a0).sort = 0) || decide (n.a0 ≠ n.a1))
      else if n.op = 12 then decide (n.a0 ≠ n.a1) && ownB T n.a0 && ownB T n.a1
      else true) := Lib.hid (by unfold fitB; rw [if_neg q4])
  have q4' : n.op ≠ 4 ∧ n.op ≠ 5 ∧ n.op ≠ 8 ∧ n.op ≠ 9 := by omega
  clear q4
  obtain ⟨q4, q5, q8, q9⟩ := q4'
  by_cases q1 : n.op = 1
  · have HR : Hid (fitB T n = decide ((ndAt T n.a0).op ≠ 1)) := Lib.hid (by rw [HF.out, if_pos q1])
    obtain ⟨h0, h1⟩ := hst.one (.inl q1)
    obtain ⟨k, hk⟩ : ∃ k : Nat, n.a0 = k := ⟨n.a0.toNat, by omega⟩
    have hkT : k < T.length := by omega
    obtain ⟨b, off, hA, hbb, hcell⟩ := h.at_.resolve_left (by omega)
    subst hA
    have hm := (hcell k hkT).below HB0.out
    have hnd : ndAt T n.a0 = T[k] := by rw [hk, ndAt_nat hkT]
    rw [hnd] at HR
    have g1 : (0 : Int) ≤ (k : Int) := by omega
    have g2 : (k : Int) < (T.length : Int) := by omega
    generalize T[k] = m at *
    obtain ⟨z0, z1, z2, z3, z4, z5, z6, z7⟩ := hm.all
    rw [q1, hk] at z0 z1 z2 z3 z4 z5 z6 z7 HB0 HBT ⊢
    clear hm hcell hbb hnd h h0 h1 hst q1 q4 q5 q8 q9 HF KI KO HN HST
    go_enter Tryz.func90, Tryz.ntmps90
    go_wp2
    go_quiet (fail)
    go_wp2
    go_ret
    rw [HR.out]
    refine ⟨?_, below_drewN HB0.out _⟩
    by_cases hq : m.op = 1 <;> simp [hq]
  by_cases q6 : n.op = 6
  · have HR : Hid (fitB T n = (if (ndAt T n.a0).sort = 1 then decide (n.a0 < n.a1) && decide ((ndAt T n.a1).sort = 1) else decide ((ndAt T n.a0).sort = 0) || decide (n.a0 ≠ n.a1))) := Lib.hid (by rw [HF.out, if_neg q1, if_pos q6])
    obtain ⟨⟨h0, h1⟩, h2, h3⟩ := hst.two (.inl q6)
    obtain ⟨k, hk⟩ : ∃ k : Nat, n.a0 = k := ⟨n.a0.toNat, by omega⟩
    obtain ⟨j, hj⟩ : ∃ j : Nat, n.a1 = j := ⟨n.a1.toNat, by omega⟩
    have hkT : k < T.length := by omega
    have hjT : j < T.length := by omega
    have HKJ := Lib.hid (And.intro hkT hjT)
    have hnd : ndAt T n.a0 = T[k] := by rw [hk, ndAt_nat hkT]
    have hnd2 : ndAt T n.a1 = T[j] := by rw [hj, ndAt_nat hjT]
    have HIB : Hid (intsB T n = decide (T[k].sort = 1)) := Lib.hid (by unfold intsB; rw [hnd, decide_eq_true q6]; rfl)
    rw [hnd, hnd2, hk, hj] at HR
    rw [q6, hk, hj] at HB0 HBT ⊢
    rw [HIB.out, q6, hk, hj] at KI
    clear h h0 h1 h2 h3 hst hnd hnd2 q4 q5 q8 q9 q1 HF KO HST
    go_enter Tryz.func90, Tryz.ntmps90
    go_wp2
    go_quiet (fail)
    go_wp2_with fail
    refine (KI.out _ (below_drewN HB0.out nq)).mono ?_
    rintro e w1 ⟨rfl, hb⟩
    have HB1 : Hid (Below w.heap.size w w1) := Lib.hid ((below_drewN HB0.out nq).trans (hb.mono (below_drewN HB0.out nq).size))
    have c0 := (HBT.out.below (w' := w1) (B := _) ((below_drewN (Below.refl _ _) nq).trans hb) HBT.out.lt).cell 0
    simp only [List.getElem?_toArray, List.getElem?_cons_zero] at c0
    obtain ⟨b, off, hA, hbb, hcell⟩ := (HN.out w1 HB1.out).at_.resolve_left (by omega)
    subst hA
    obtain ⟨y0, y1, y2, y3, y4, y5, y6, y7⟩ := (hcell k hkT).all
    obtain ⟨z0, z1, z2, z3, z4, z5, z6, z7⟩ := (hcell j hjT).all
    have g1 : (0 : Int) ≤ (k : Int) := by omega
    have g2 : (k : Int) < (T.length : Int) := by omega
    have g3 : (0 : Int) ≤ (j : Int) := by omega
    have g4 : (j : Int) < (T.length : Int) := by omega
    clear hb hbb hcell
    generalize T[k] = m at *
    generalize T[j] = o at *
    clear hkT hjT
    by_cases t1 : m.sort = 1
    · have d0 := decide_eq_true t1
      rw [if_pos t1] at HR
      rw [d0]
      by_cases t2 : k < j
      · have d2 := decide_eq_true t2
        go_wp2
        go_ret
        rw [HR.out]
        refine ⟨?_, HB1.out⟩
        have d3 : decide ((k : Int) < (j : Int)) = true := by simp; omega
        rw [d3]
        rfl
      · have d2 := decide_eq_false t2
        go_wp2
        go_ret
        rw [HR.out]
        refine ⟨?_, HB1.out⟩
        have d3 : decide ((k : Int) < (j : Int)) = false := by simp; omega
        rw [d3]
        rfl
    · have d0 := decide_eq_false t1
      rw [if_neg t1] at HR
      rw [d0]
      by_cases t2 : m.sort = 0
      · rw [t2] at y5
        go_wp2
        go_ret
        rw [HR.out]
        exact ⟨by rw [decide_eq_true t2]; rfl, HB1.out⟩
      · have d2 : (m.sort == 0) = false := by simp [t2]
        go_wp2
        go_ret
        rw [HR.out]
        refine ⟨?_, HB1.out⟩
        rw [decide_eq_false t2]
        have e3 : ((k : Int) != (j : Int)) = decide ((k : Int) ≠ (j : Int)) := by
          rw [Bool.eq_iff_iff]
          simp
        rw [e3]
        rfl
  by_cases q12 : n.op = 12
  · have HR : Hid (fitB T n = (decide (n.a0 ≠ n.a1) && ownB T n.a0 && ownB T n.a1)) := Lib.hid (by rw [HF.out, if_neg q1, if_neg q6, if_pos q12])
    obtain ⟨⟨h0, h1⟩, h2, h3⟩ := hst.two (.inr (.inl q12))
    obtain ⟨k, hk⟩ : ∃ k : Nat, n.a0 = k := ⟨n.a0.toNat, by omega⟩
    obtain ⟨j, hj⟩ : ∃ j : Nat, n.a1 = j := ⟨n.a1.toNat, by omega⟩
    have HK := Lib.hid (show k < T.length by omega)
    have HJ := Lib.hid (show j < T.length by omega)
    have K1 := Lib.hid (fun W hW => KO.out W k HK.out hW)
    have K2 := Lib.hid (fun W hW => KO.out W j HJ.out hW)
    rw [hk, hj] at HR
    rw [q12, hk, hj] at HB0 HBT ⊢
    clear h h0 h1 h2 h3 hst q4 q5 q8 q9 q1 q6 HF KO HST KI HN
    generalize ownB T k = o1 at *
    generalize ownB T j = o2 at *
    by_cases t1 : k = j
    · subst t1
      go_enter Tryz.func90, Tryz.ntmps90
      go_wp2
      go_quiet (fail)
      go_wp2
      go_ret
      rw [HR.out]
      exact ⟨by rw [show decide ((k : Int) ≠ (k : Int)) = false by simp]; rfl, below_drewN HB0.out _⟩
    · have t5 : ¬ ((k : Int) = (j : Int)) := by omega
      have d2 : ((k : Int) != (j : Int)) = true := by simp [t5]
      have d3 : ((k : Int) == (j : Int)) = false := by simp [t5]
      have HD : Hid (decide ((k : Int) ≠ (j : Int)) = true) := Lib.hid (by simp [t5])
      go_enter Tryz.func90, Tryz.ntmps90
      go_wp2
      go_quiet (fail)
      go_wp2_with fail
      refine (K1.out _ (below_drewN HB0.out nq)).mono ?_
      rintro e w1 ⟨rfl, hb⟩
      have HB1 : Hid (Below w.heap.size w w1) := Lib.hid ((below_drewN HB0.out nq).trans (hb.mono (below_drewN HB0.out nq).size))
      have c0 := (HBT.out.below (w' := w1) (B := _) ((below_drewN (Below.refl _ _) nq).trans hb) HBT.out.lt).cell 0
      simp only [List.getElem?_toArray, List.getElem?_cons_zero] at c0
      clear hb
      cases o1 with
      | false =>
        go_wp2
        go_ret
        rw [HR.out, HD.out]
        exact ⟨rfl, HB1.out⟩
      | true =>
        go_wp2_with fail
        refine (K2.out _ HB1.out).mono ?_
        rintro e w2 ⟨rfl, hb⟩
        have HB2 : Hid (Below w.heap.size w w2) := Lib.hid (HB1.out.trans (hb.mono HB1.out.size))
        clear hb
        go_wp2
        go_ret
        rw [HR.out, HD.out]
        exact ⟨rfl, HB2.out⟩
  · have HR : Hid (fitB T n = true) := Lib.hid (by rw [HF.out, if_neg q1, if_neg q6, if_neg q12])
    have e4 : (n.op == 4) = false := by simp [q4]
    have e5 : (n.op == 5) = false := by simp [q5]
    have e8 : (n.op == 8) = false := by simp [q8]
    have e9 : (n.op == 9) = false := by simp [q9]
    have e1 : (n.op == 1) = false := by simp [q1]
    have e6 : (n.op == 6) = false := by simp [q6]
    have e12 : (n.op == 12) = false := by simp [q12]
    clear h hst q4 q5 q8 q9 q1 q6 q12 HF KI KO HN HST
    go_enter Tryz.func90, Tryz.ntmps90
    go_wp2
    go_quiet (fail)
    go_wp2
    go_ret
    rw [HR.out]
    exact ⟨rfl, below_drewN HB0.out _⟩
end Go.Proofs.YtlipnnibagidiaaGreat

/- Core so far: share.Core. -/
namespace Go.Proofs.YtlipnnibagidiaaGreat
open Go.RowKit

theorem coreB_any (T : List Nd) : coreB T = (tabB T && ordB T && !T.any fun n => !fitB T n) := by
  unfold coreB
  congr 1
  rw [Bool.eq_iff_iff, List.all_eq_true, Bool.not_eq_true', List.any_eq_false]
  refine forall_congr' fun n => forall_congr' fun _ => ?_
  simp

set_option maxRecDepth 100000 in
set_option maxHeartbeats 4000000 in
theorem coref_ok {W : World} {q : Nat} {A : Option Addr} {c : Nat} {T : List Nd} (hb : Blk W q 33 #[.slice A T.length c]) (ht : Tab W A T) (hT : TabOk T) (x : Nd) (hx : x ∈ T) :
    Calls Tryz.prog 89 #[nodeVal x, .pointer (some ⟨q, 0, none⟩)] W fun e w' => e = .returned (.bool (!fitB T x)) ∧ Below W.heap.size W w' := by
  obtain ⟨i, hi, hti, hst⟩ := hT.stands hx
  have HB0 := Lib.hid (show Below W.heap.size W (W.alloc (.cells (nodeCells x).toArray 51)) from (Below.refl _ W).alloc (Nat.le_refl _) _)
  have KF := Lib.hid (sfits_ok c x i hst (by omega) (ht.below HB0.out))
  have hb1 := hb.alloc (.cells (nodeCells x).toArray 51)
  have c0 := hb1.cell 0
  simp only [List.getElem?_toArray, List.getElem?_cons_zero] at c0
  simp only [nodeVal, nodeCells] at HB0 KF c0 ⊢
  clear hb hb1 ht hT hst hti hi hx
  go_enter Tryz.func89, Tryz.ntmps89
  go_wp2_with fail
  refine KF.out.mono ?_
  rintro e w1 ⟨rfl, hb⟩
  have HB1 := Lib.hid (HB0.out.trans (hb.mono HB0.out.size))
  clear hb
  go_wp2
  go_ret
  exact ⟨rfl, HB1.out⟩

set_option maxRecDepth 100000 in
set_option maxHeartbeats 4000000 in
theorem score_ok {T : List Nd} {w : World} {A : Option Addr} (c : Nat) (hc : T.length ≤ c) (h : Tab w A T) : Calls Tryz.prog 53 #[.agg #[.slice A T.length c]] w (BoolIs (coreB T) w) := by
  have HB1 := Lib.hid (show Below w.heap.size w (w.alloc (.cells #[.slice A T.length c] 33)) from (Below.refl _ w).alloc (Nat.le_refl _) _)
  have HBL := Lib.hid (show Blk (w.alloc (.cells #[.slice A T.length c] 33)) w.heap.size 33 #[.slice A T.length c] from Blk.new w _ _)
  have HL1 : Hid (w.heap.size < (w.alloc (.cells #[.slice A T.length c] 33)).heap.size) := Lib.hid (by simp)
  have H := Lib.hid h
  have HC := Lib.hid hc
  have HG := Lib.hid (coreB_any T)
  clear h hc
  go_enter Tryz.func53, Tryz.ntmps53
  go_wp2_with fail
  refine (check_ok c HC.out (H.out.below HB1.out)).mono ?_
  rintro e w1 ⟨r, rfl, hr, hb⟩
  have HR := Lib.hid hr
  have HB2 : Hid (Below w.heap.size w w1) := Lib.hid (HB1.out.trans (hb.mono (Nat.le_of_lt HL1.out)))
  have HBL2 := Lib.hid (HBL.out.below hb HL1.out)
  have c0 := HBL2.out.cell 0
  simp only [List.getElem?_toArray, List.getElem?_cons_zero] at c0
  clear hr hb
  cases r with
  | false =>
    have HN : Hid (tabB T = false) := Lib.hid (by
      cases ht : tabB T with
      | false => rfl
      | true => exact absurd (HR.out.2 (tabB_iff.1 ht)) (by simp))
    go_wp2
    go_ret
    rw [HG.out, HN.out]
    exact ⟨rfl, HB2.out⟩
  | true =>
    have HT := Lib.hid (HR.out.1 rfl)
    go_wp2_with fail
    refine (ordered_ok c HC.out (H.out.below HB2.out)).mono ?_
    rintro e w2 ⟨rfl, hb⟩
    have HB3 := Lib.hid (HB2.out.trans (hb.mono HB2.out.size))
    have HBL3 := Lib.hid (HBL2.out.below hb HBL2.out.lt)
    have c1 := HBL3.out.cell 0
    simp only [List.getElem?_toArray, List.getElem?_cons_zero] at c1
    clear hb c0
    generalize (tabB T && ordB T) = bo at *
    cases bo with
    | false =>
      go_wp2
      go_ret
      rw [HG.out]
      exact ⟨rfl, HB3.out⟩
    | true =>
      go_wp2_with fail
      refine (ncontains_ok c 89 #[.pointer (some ⟨w.heap.size, 0, none⟩)] (fun n => !fitB T n) (enters_of Tryz.func89 (by kernel_rfl) rfl) (H.out.below HB3.out) (fun W x hx hW => coref_ok (HBL3.out.below hW HBL3.out.lt) (H.out.below (HB3.out.trans (hW.mono HB3.out.size))) HT.out x hx)).mono ?_
      rintro e w3 ⟨rfl, hb2⟩
      generalize (T.any fun n => !fitB T n) = bb at *
      have HB4 := Lib.hid (HB3.out.trans (hb2.mono HB3.out.size))
      clear hb2
      go_wp2
      go_ret
      rw [HG.out]
      exact ⟨rfl, HB4.out⟩
end Go.Proofs.YtlipnnibagidiaaGreat

/- An equality; a layer keeps what a put came to. -/
namespace Go.Proofs.YtlipnnibagidiaaGreat
open Go.RowKit

set_option maxRecDepth 100000 in
theorem equality_ok (w : World) (x y : Int) : Calls Tryz.prog 58 #[.int .i64 x, .int .i64 y] w fun e w' => e = .returned (nodeVal (eqNd x y)) ∧ Below w.heap.size w w' := by
  have HB0 := Lib.hid (show Below w.heap.size w (w.alloc (.cells (nodeCells (eqNd x y)).toArray 51)) from (Below.refl _ w).alloc (Nat.le_refl _) _)
  have HBN := Lib.hid (show Blk (w.alloc (.cells (nodeCells (eqNd x y)).toArray 51)) w.heap.size 51 (nodeCells (eqNd x y)).toArray from Blk.new w _ _)
  simp only [nodeCells, eqNd] at HB0 HBN
  go_enter Tryz.func58, Tryz.ntmps58
  go_wp2
  refine bodyPost_ret (v := nodeVal (eqNd x y)) ?_ rfl ⟨rfl, HB0.out⟩
  have n0 := HBN.out.cell 0
  have n1 := HBN.out.cell 1
  have n2 := HBN.out.cell 2
  have n3 := HBN.out.cell 3
  have n4 := HBN.out.cell 4
  have n5 := HBN.out.cell 5
  have n6 := HBN.out.cell 6
  have n7 := HBN.out.cell 7
  simp only [List.getElem?_toArray, List.getElem?_cons_zero, List.getElem?_cons_succ] at n0 n1 n2 n3 n4 n5 n6 n7
  simp [results, Tryz.results58, go_sem, n0, n1, n2, n3, n4, n5, n6, n7, nodeVal, nodeCells, eqNd]

structure LayAt (w : World) (l : Nat) (A : Option Addr) (n c : Nat) (most e : Int) : Prop where
  blk : Blk w l 100 #[.slice A n c, .int .i64 most, .int .i64 e]
set_option maxRecDepth 100000 in
theorem keep_ok {w : World} {l : Nat} {A : Option Addr} {n c : Nat} {most e0 : Int} (h : LayAt w l A n c most e0) (A' : Option Addr) (n' c' : Nat) (e : Int) :
    Calls Tryz.prog 59 #[.pointer (some ⟨l, 0, none⟩), .agg #[.slice A' n' c'], .int .i64 e] w fun r w' => r = .returned (.tuple #[]) ∧
      (if e = 0 then LayAt w' l A' n' c' most 0 else LayAt w' l A n c most e) ∧ Kept (fun b => b = l) w w' := by
  have hb1 := h.blk.alloc (.cells #[.slice A' n' c'] 33)
  have HB1 := Lib.hid hb1
  have HK := Lib.hid (show Kept (fun b => b = l) w (w.alloc (.cells #[.slice A' n' c'] 33)) from (Kept.refl _ w).alloc _)
  have hlt := h.blk.lt
  have f0 := hb1.frozen 0
  have f2 := hb1.frozen 2
  have c0 := hb1.cell 0
  have c2 := hb1.cell 2
  simp only [List.getElem?_toArray, List.getElem?_cons_zero, List.getElem?_cons_succ] at c0 c2
  have HBW := Lib.hid h.blk
  have hb2 := (h.blk.set_ 2 (.int .i64 e)).alloc (.cells #[.slice A' n' c'] 33)
  simp only [List.setIfInBounds_toArray, List.set_cons_zero, List.set_cons_succ] at hb2
  have HB2 := Lib.hid hb2
  have HK2 := Lib.hid ((Kept.set1 w l 2 (.int .i64 e)).alloc (.cells #[.slice A' n' c'] 33))
  have f02 := hb2.frozen 0
  have c02 := hb2.cell 0
  simp only [List.getElem?_toArray, List.getElem?_cons_zero] at c02
  clear h hb1 hb2
  by_cases t : e = 0
  · subst t
    go_enter Tryz.func59, Tryz.ntmps59
    go_wp2
    refine bodyPost_end (results_none rfl _ _ _) rfl ⟨rfl, ?_, ((Kept.set1 w l 2 (.int .i64 0)).setCell (.inl rfl) _).alloc _⟩
    exact ⟨((HBW.out.set_ 2 (.int .i64 0)).set_ 0 (.slice A' n' c')).alloc _⟩
  · have d : (e == 0) = false := by simp [t]
    go_enter Tryz.func59, Tryz.ntmps59
    go_wp2
    refine bodyPost_end (results_none rfl _ _ _) rfl ⟨rfl, ?_, HK2.out⟩
    exact ⟨HB2.out⟩
end Go.Proofs.YtlipnnibagidiaaGreat

/- A layer's step is the document's laying of two. -/
namespace Go.Proofs.YtlipnnibagidiaaGreat

/-- What a layer keeps. -/
def keepS (T : List Nd) (T' : List Nd) (e : Int) : List Nd × Int := if e = 0 then (T', 0) else (T, e)
/-- What a difference does to a layer. -/
def diffS (T : List Nd) (most e x y : Int) : List Nd × Int :=
  if e ≠ 0 then (T, e) else if (diffT T x y 0).e ≠ 0 ∨ (diffT T x y 0).x = (diffT T x y 0).y then (T, (diffT T x y 0).e) else keepS T (leT T x y 0 most).T (leT T x y 0 most).e
/-- What two shared nodes do to a layer. -/
def lay1S (T : List Nd) (most x y : Int) : List Nd × Int :=
  diffS (diffS (keepS T (putT T (eqNd x y) most).T (putT T (eqNd x y) most).e).1 most (keepS T (putT T (eqNd x y) most).T (putT T (eqNd x y) most).e).2 x y).1 most (diffS (keepS T (putT T (eqNd x y) most).T (putT T (eqNd x y) most).e).1 most (keepS T (putT T (eqNd x y) most).T (putT T (eqNd x y) most).e).2 x y).2 y x

theorem ofT_ok {T : List Nd} {a : Int} (h : (ofT T a).e = 0) : TabOk T ∧ 0 ≤ a ∧ a < T.length ∧ (ndAt T a).sort = 1 ∧ ofT T a = ⟨(baseT T a).1, (baseT T a).2, 0⟩ := by
  unfold ofT at h ⊢
  split at h
  · rename_i h1
    rw [if_pos h1]
    simp only [Bool.and_eq_true, decide_eq_true_eq] at h1
    split at h
    · rename_i h2
      rw [if_pos h2]
      exact ⟨tabB_iff.1 h1.1.1, h1.1.2, h1.2, h2, rfl⟩
    · cases h
  · cases h
theorem ofT_ext {T S : List Nd} {a : Int} (h : (ofT T a).e = 0) (ht : TabOk (T ++ S)) : ofT (T ++ S) a = ofT T a := by
  obtain ⟨h1, h2, h3, h4, h5⟩ := ofT_ok h
  rw [h5]
  unfold ofT
  rw [if_pos (by simp [tabB_iff.2 ht, h2]; omega), ndAt_append h2 h3, if_pos h4, baseT_append h2 h3]
theorem subN_ok {a b : Int} (h : (subN a b).2 = 0) : mayI a = true ∧ mayI b = true ∧ mayI (a - b) = true ∧ subN a b = (a - b, 0) := by
  unfold subN at h ⊢
  split at h
  · rename_i h1
    rw [if_pos h1]
    simp only [Bool.and_eq_true] at h1
    exact ⟨h1.1.1, h1.1.2, h1.2, rfl⟩
  · cases h
theorem addN_ok {a b : Int} (h : (addN a b).2 = 0) : mayI a = true ∧ mayI b = true ∧ mayI (a + b) = true ∧ addN a b = (a + b, 0) := by
  unfold addN at h ⊢
  split at h
  · rename_i h1
    rw [if_pos h1]
    simp only [Bool.and_eq_true] at h1
    exact ⟨h1.1.1, h1.1.2, h1.2, rfl⟩
  · cases h
theorem subN_yes {a b : Int} (h1 : mayI a = true) (h2 : mayI b = true) (h3 : mayI (a - b) = true) : subN a b = (a - b, 0) := by
  unfold subN
  rw [if_pos (by simp [h1, h2, h3])]
theorem addN_yes {a b : Int} (h1 : mayI a = true) (h2 : mayI b = true) (h3 : mayI (a + b) = true) : addN a b = (a + b, 0) := by
  unfold addN
  rw [if_pos (by simp [h1, h2, h3])]
/-- A difference that is one. -/
theorem diffT_ok {T : List Nd} {a b : Int} (h : (diffT T a b 0).e = 0) : (ofT T a).e = 0 ∧ (ofT T b).e = 0 ∧ mayI (ofT T a).n = true ∧ mayI (ofT T b).n = true ∧ mayI ((ofT T b).n - (ofT T a).n) = true ∧ diffT T a b 0 = ⟨(ofT T a).b, (ofT T b).b, (ofT T b).n - (ofT T a).n, 0⟩ := by
  unfold diffT at h ⊢
  split at h
  · rename_i h1
    exact absurd h h1
  rename_i h1
  split at h
  · rename_i h2
    exact absurd h h2
  rename_i h2
  split at h
  · rename_i h3
    exact absurd h h3
  rename_i h3
  split at h
  · rename_i h4
    exact absurd h h4
  rename_i h4
  rw [if_neg h1, if_neg h2, if_neg h3, if_neg h4]
  simp only [ne_eq, Decidable.not_not] at h1 h2 h3 h4
  obtain ⟨a1, a2, a3, a4⟩ := subN_ok h3
  obtain ⟨b1, b2, b3, b4⟩ := addN_ok h4
  rw [a4] at b1 b3 b4 ⊢
  dsimp only at b1 b3 b4 ⊢
  rw [b4]
  dsimp only
  have e : 0 - (ofT T a).n + (ofT T b).n = (ofT T b).n - (ofT T a).n := by omega
  rw [e] at b3 ⊢
  exact ⟨h1, h2, a2, b2, b3, rfl⟩
theorem diffT_yes {T : List Nd} {a b : Int} (h1 : (ofT T a).e = 0) (h2 : (ofT T b).e = 0) (m1 : mayI (ofT T a).n = true) (m2 : mayI (ofT T b).n = true) (m3 : mayI ((ofT T b).n - (ofT T a).n) = true) : diffT T a b 0 = ⟨(ofT T a).b, (ofT T b).b, (ofT T b).n - (ofT T a).n, 0⟩ := by
  have e : 0 - (ofT T a).n + (ofT T b).n = (ofT T b).n - (ofT T a).n := by omega
  have s : subN 0 (ofT T a).n = (0 - (ofT T a).n, 0) := subN_yes (by decide) m1 (by rw [mayI_iff] at m1 ⊢; omega)
  have p : addN (0 - (ofT T a).n) (ofT T b).n = ((ofT T b).n - (ofT T a).n, 0) := by
    rw [addN_yes (by rw [mayI_iff] at m1 ⊢; omega) m2 (by rw [e]; exact m3), e]
  unfold diffT
  rw [if_neg (by simp [h1]), if_neg (by simp [h2]), s]
  dsimp only
  rw [if_neg (by simp), p, if_neg (by simp)]
theorem diffT_turn {T : List Nd} {a b : Int} (h : (diffT T a b 0).e = 0) : diffT T b a 0 = ⟨(diffT T a b 0).y, (diffT T a b 0).x, -(diffT T a b 0).d, 0⟩ := by
  obtain ⟨h1, h2, h3, h4, h5, h6⟩ := diffT_ok h
  rw [diffT_yes h2 h1 h4 h3 (by rw [mayI_iff] at h5 ⊢; omega), h6]
  congr 1
  dsimp only
  omega
theorem diffT_ext {T S : List Nd} {a b : Int} (h : (diffT T a b 0).e = 0) (ht : TabOk (T ++ S)) : diffT (T ++ S) a b 0 = diffT T a b 0 := by
  obtain ⟨h1, h2, h3, h4, h5, h6⟩ := diffT_ok h
  rw [h6, ← ofT_ext h1 ht, ← ofT_ext h2 ht]
  exact diffT_yes (by rw [ofT_ext h1 ht]; exact h1) (by rw [ofT_ext h2 ht]; exact h2) (by rw [ofT_ext h1 ht]; exact h3) (by rw [ofT_ext h2 ht]; exact h4) (by rw [ofT_ext h1 ht, ofT_ext h2 ht]; exact h5)
theorem leT_ext {T : List Nd} {a b most : Int} (hx : (diffT T a b 0).x ≠ (diffT T a b 0).y) (h : (leT T a b 0 most).e = 0) : ∃ S, (leT T a b 0 most).T = T ++ S ∧ TabOk (T ++ S) := by
  unfold leT at h ⊢
  split at h
  · rename_i h1
    exact absurd h h1
  rename_i h1
  rw [if_neg h1]
  rw [if_pos hx]
  first | rw [if_pos hx] at h | skip
  obtain ⟨_, _, h3, _, S, h4, _⟩ := putT_ok h
  exact ⟨S, h4, by rw [← h4]; exact h3⟩
theorem leT_err {T : List Nd} {a b most : Int} (h : (leT T a b 0 most).e ≠ 0) : (leT T a b 0 most).T = [] := by
  unfold leT at h ⊢
  split at h
  · rename_i h1
    rw [if_pos h1]
  rename_i h1
  rw [if_neg h1]
  have key : ∀ n, (putT T n most).e ≠ 0 → (putT T n most).T = [] := fun n hn => by
    unfold putT at hn ⊢
    split at hn
    · rename_i h2
      rw [if_pos h2]
      split at hn
      · exact absurd rfl hn
      · rename_i h3
        rw [if_neg h3]
        split at hn
        · rename_i h4
          rw [if_pos h4]
        · exact absurd rfl hn
    · rename_i h2
      rw [if_neg h2]
  split at h
  · rename_i h2
    rw [if_pos h2]
    exact key _ h
  rename_i h2
  rw [if_neg h2]
  split at h
  · exact absurd rfl h
  · rename_i h3
    rw [if_neg h3]
    exact key _ h
/-- A layer's step is the laying of two. -/
theorem lay1_is (T : List Nd) (most x y : Int) : (lay1S T most x y).2 = (layT T x y most).e ∧ ((layT T x y most).e = 0 → (lay1S T most x y).1 = (layT T x y most).T) := by
  unfold lay1S layT keepS
  by_cases h1 : (putT T (eqNd x y) most).e = 0
  rotate_left
  · rw [if_neg h1, if_pos h1]
    dsimp only
    unfold diffS
    rw [if_pos h1]
    dsimp only
    rw [if_pos h1]
    exact ⟨rfl, fun h => absurd h h1⟩
  rw [if_pos h1, if_neg (by simp [h1])]
  dsimp only
  generalize (putT T (eqNd x y) most).T = T1
  by_cases h2 : (diffT T1 x y 0).e = 0
  rotate_left
  · rw [if_pos h2]
    have e : diffS T1 most 0 x y = (T1, (diffT T1 x y 0).e) := by
      unfold diffS
      rw [if_neg (by simp), if_pos (.inl h2)]
    rw [e]
    dsimp only
    unfold diffS
    rw [if_pos h2]
    exact ⟨rfl, fun h => absurd h h2⟩
  rw [if_neg (by simp [h2])]
  have ht := diffT_turn h2
  by_cases h3 : (diffT T1 x y 0).x = (diffT T1 x y 0).y
  · rw [if_pos h3]
    have e : diffS T1 most 0 x y = (T1, 0) := by
      unfold diffS
      rw [if_neg (by simp), if_pos (.inr h3), h2]
    rw [e]
    dsimp only
    unfold diffS
    rw [if_neg (by simp), ht]
    dsimp only
    rw [if_pos (.inr h3.symm)]
    exact ⟨rfl, fun _ => rfl⟩
  rw [if_neg h3]
  have e : diffS T1 most 0 x y = keepS T1 (leT T1 x y 0 most).T (leT T1 x y 0 most).e := by
    unfold diffS
    rw [if_neg (by simp), if_neg (by simp [h2, h3])]
  rw [e]
  unfold keepS
  by_cases h4 : (leT T1 x y 0 most).e = 0
  rotate_left
  · rw [if_neg h4, if_pos h4]
    dsimp only
    unfold diffS
    rw [if_pos h4]
    exact ⟨rfl, fun h => absurd h h4⟩
  rw [if_pos h4, if_neg (by simp [h4])]
  dsimp only
  obtain ⟨S, hS, hok⟩ := leT_ext h3 h4
  rw [hS]
  have hd : diffT (T1 ++ S) y x 0 = ⟨(diffT T1 x y 0).y, (diffT T1 x y 0).x, -(diffT T1 x y 0).d, 0⟩ := by rw [diffT_ext (by rw [ht]) hok, ht]
  have hg : diffS (T1 ++ S) most 0 y x = keepS (T1 ++ S) (leT (T1 ++ S) y x 0 most).T (leT (T1 ++ S) y x 0 most).e := by
    unfold diffS
    rw [if_neg (by simp), hd]
    dsimp only
    rw [if_neg (by simp; exact fun e => h3 e.symm)]
  rw [hg]
  unfold keepS
  by_cases h5 : (leT (T1 ++ S) y x 0 most).e = 0
  · rw [if_pos h5]
    exact ⟨h5.symm, fun _ => rfl⟩
  · rw [if_neg h5]
    exact ⟨rfl, fun h => absurd h h5⟩
/-- The whole laying, as a layer does it. -/
def layAllS : List (Int × Int) → List Nd → Int → List Nd × Int
  | [], T, _ => (T, 0)
  | p :: r, T, most => if (lay1S T most p.1 p.2).2 ≠ 0 then ([], (lay1S T most p.1 p.2).2) else layAllS r (lay1S T most p.1 p.2).1 most
theorem layAll_is (most : Int) : ∀ (ps : List (Int × Int)) (T : List Nd), (layAllS ps T most).2 = (laysT ps T most).e ∧ (layAllS ps T most).1 = (laysT ps T most).T
  | [], T => ⟨rfl, rfl⟩
  | p :: r, T => by
    obtain ⟨h1, h2⟩ := lay1_is T most p.1 p.2
    rw [layAllS, laysT, h1]
    by_cases h : (layT T p.1 p.2 most).e = 0
    · rw [if_neg (by simp [h]), if_neg (by simp [h]), h2 h]
      exact layAll_is most r _
    · rw [if_pos h, if_pos h]
      exact ⟨rfl, rfl⟩
end Go.Proofs.YtlipnnibagidiaaGreat

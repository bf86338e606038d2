/- The shared nodes of a table: share.nodes. -/
import Derived.Test.YtlipnnibagidiaaGreatSwA
import Derived.Test.YtlipnnibagidiaaGreatRfC
namespace Go.Proofs.YtlipnnibagidiaaGreat
open Go.RowKit Go.Lib
set_option maxRecDepth 100000 in
set_option maxHeartbeats 8000000 in
theorem sfits_ok {T : List Nd} {w : World} {A : Option Addr} (c : Nat) (n : Nd) (at_ : Int) (hst : Stands n at_) (hat : at_ ≤ T.length) (h : Tab w A T) :
    Calls Tryz.prog 90 #[.agg #[.slice A T.length c], nodeVal n] w (BoolIs (fitB T n) w) := by
  have HB0 := zzh (show Below w.heap.size w ((w.alloc (.cells #[.slice A T.length c] 33)).alloc (.cells (nodeCells n).toArray 51)) from ((Below.refl _ w).alloc (Nat.le_refl _) _).alloc (by simp) _)
  have HBT : Hid (Blk ((w.alloc (.cells #[.slice A T.length c] 33)).alloc (.cells (nodeCells n).toArray 51)) w.heap.size 33 #[.slice A T.length c]) := zzh ((Blk.new w _ _).alloc _)
  have KI := zzh (fun (W : World) (hW : Below w.heap.size w W) => sints_ok c n (fun ho => by have := (hst.two (.inl ho)).1; omega) (h.below hW))
  have KO := zzh (fun (W : World) (k : Nat) (hk : k < T.length) (hW : Below w.heap.size w W) => sown_ok c k hk (h.below hW))
  have HN := zzh (fun (W : World) (hW : Below w.heap.size w W) => h.below hW)
  have HST := zzh hst
  simp only [nodeVal, nodeCells] at HB0 HBT KI ⊢
  by_cases q4 : n.op = 4 ∨ n.op = 5 ∨ n.op = 8 ∨ n.op = 9
  · have HR : Hid (fitB T n = false) := zzh (by unfold fitB; rw [if_pos q4])
    clear h hst
    rcases q4 with q | q | q | q
    all_goals
      rw [q] at HB0 HBT ⊢
      go_enter Tryz.func90, Tryz.ntmps90
      go_wp2
      go_quiet (fail)
      go_wp2
      go_ret
      rw [HR.out]
      exact ⟨rfl, below_drewN HB0.out _⟩
  have HF : Hid (fitB T n = if n.op = 1 then decide ((ndAt T n.a0).op ≠ 1)
      else if n.op = 6 then (if (ndAt T n.a0).sort = 1 then decide (n.a0 < n.a1) && decide ((ndAt T n.a1).sort = 1) else decide ((ndAt T n.a0).sort = 0) || decide (n.a0 ≠ n.a1))
      else if n.op = 12 then decide (n.a0 ≠ n.a1) && ownB T n.a0 && ownB T n.a1
      else true) := zzh (by unfold fitB; rw [if_neg q4])
  have q4' : n.op ≠ 4 ∧ n.op ≠ 5 ∧ n.op ≠ 8 ∧ n.op ≠ 9 := by omega
  clear q4
  obtain ⟨q4, q5, q8, q9⟩ := q4'
  by_cases q1 : n.op = 1
  · have HR : Hid (fitB T n = decide ((ndAt T n.a0).op ≠ 1)) := zzh (by rw [HF.out, if_pos q1])
    obtain ⟨h0, h1⟩ := hst.one (.inl q1)
    obtain ⟨k, hk⟩ : ∃ k : Nat, n.a0 = k := ⟨n.a0.toNat, by omega⟩
    have hkT : k < T.length := by omega
    obtain ⟨b, off, hA, hbb, hcell⟩ := h.at_.resolve_left (by omega)
    subst hA
    have hm := (hcell k hkT).below HB0.out
    have hnd : ndAt T n.a0 = T[k] := by rw [hk, ndAt_nat hkT]
    rw [hnd] at HR
    have g1 : (0 : Int) ≤ (k : Int) := by omega
    have g2 : (k : Int) < (T.length : Int) := by omega
    generalize T[k] = m at *
    obtain ⟨z0, z1, z2, z3, z4, z5, z6, z7⟩ := hm.all
    rw [q1, hk] at z0 z1 z2 z3 z4 z5 z6 z7 HB0 HBT ⊢
    clear hm hcell hbb hnd h h0 h1 hst q1 q4 q5 q8 q9 HF KI KO HN HST
    go_enter Tryz.func90, Tryz.ntmps90
    go_wp2
    go_quiet (fail)
    go_wp2
    go_ret
    rw [HR.out]
    refine ⟨?_, below_drewN HB0.out _⟩
    by_cases hq : m.op = 1 <;> simp [hq]
  by_cases q6 : n.op = 6
  · have HR : Hid (fitB T n = (if (ndAt T n.a0).sort = 1 then decide (n.a0 < n.a1) && decide ((ndAt T n.a1).sort = 1) else decide ((ndAt T n.a0).sort = 0) || decide (n.a0 ≠ n.a1))) := zzh (by rw [HF.out, if_neg q1, if_pos q6])
    obtain ⟨⟨h0, h1⟩, h2, h3⟩ := hst.two (.inl q6)
    obtain ⟨k, hk⟩ : ∃ k : Nat, n.a0 = k := ⟨n.a0.toNat, by omega⟩
    obtain ⟨j, hj⟩ : ∃ j : Nat, n.a1 = j := ⟨n.a1.toNat, by omega⟩
    have hkT : k < T.length := by omega
    have hjT : j < T.length := by omega
    have HKJ := zzh (And.intro hkT hjT)
    have hnd : ndAt T n.a0 = T[k] := by rw [hk, ndAt_nat hkT]
    have hnd2 : ndAt T n.a1 = T[j] := by rw [hj, ndAt_nat hjT]
    have HIB : Hid (intsB T n = decide (T[k].sort = 1)) := zzh (by unfold intsB; rw [hnd, decide_eq_true q6]; rfl)
    rw [hnd, hnd2, hk, hj] at HR
    rw [q6, hk, hj] at HB0 HBT ⊢
    rw [HIB.out, q6, hk, hj] at KI
    clear h h0 h1 h2 h3 hst hnd hnd2 q4 q5 q8 q9 q1 HF KO HST
    go_enter Tryz.func90, Tryz.ntmps90
    go_wp2
    go_quiet (fail)
    go_wp2_with fail
    refine (KI.out _ (below_drewN HB0.out nq)).mono ?_
    rintro e w1 ⟨rfl, hb⟩
    have HB1 : Hid (Below w.heap.size w w1) := zzh ((below_drewN HB0.out nq).trans (hb.mono (below_drewN HB0.out nq).size))
    have c0 := (HBT.out.below (w' := w1) (B := _) ((below_drewN (Below.refl _ _) nq).trans hb) HBT.out.lt).cell 0
    simp only [zzg, zzi] at c0
    obtain ⟨b, off, hA, hbb, hcell⟩ := (HN.out w1 HB1.out).at_.resolve_left (by omega)
    subst hA
    obtain ⟨y0, y1, y2, y3, y4, y5, y6, y7⟩ := (hcell k hkT).all
    obtain ⟨z0, z1, z2, z3, z4, z5, z6, z7⟩ := (hcell j hjT).all
    have g1 : (0 : Int) ≤ (k : Int) := by omega
    have g2 : (k : Int) < (T.length : Int) := by omega
    have g3 : (0 : Int) ≤ (j : Int) := by omega
    have g4 : (j : Int) < (T.length : Int) := by omega
    clear hb hbb hcell
    generalize T[k] = m at *
    generalize T[j] = o at *
    clear hkT hjT
    by_cases t1 : m.sort = 1
    · have d0 := decide_eq_true t1
      rw [if_pos t1] at HR
      rw [d0]
      by_cases t2 : k < j
      · have d2 := decide_eq_true t2
        go_wp2
        go_ret
        rw [HR.out]
        refine ⟨?_, HB1.out⟩
        have d3 : decide ((k : Int) < (j : Int)) = true := by simp; omega
        rw [d3]
        rfl
      · have d2 := decide_eq_false t2
        go_wp2
        go_ret
        rw [HR.out]
        refine ⟨?_, HB1.out⟩
        have d3 : decide ((k : Int) < (j : Int)) = false := by simp; omega
        rw [d3]
        rfl
    · have d0 := decide_eq_false t1
      rw [if_neg t1] at HR
      rw [d0]
      by_cases t2 : m.sort = 0
      · rw [t2] at y5
        go_wp2
        go_ret
        rw [HR.out]
        exact ⟨by rw [decide_eq_true t2]; rfl, HB1.out⟩
      · have d2 : (m.sort == 0) = false := by simp [t2]
        go_wp2
        go_ret
        rw [HR.out]
        refine ⟨?_, HB1.out⟩
        rw [decide_eq_false t2]
        have e3 : ((k : Int) != (j : Int)) = decide ((k : Int) ≠ (j : Int)) := by
          rw [Bool.eq_iff_iff]
          simp
        rw [e3]
        rfl
  by_cases q12 : n.op = 12
  · have HR : Hid (fitB T n = (decide (n.a0 ≠ n.a1) && ownB T n.a0 && ownB T n.a1)) := zzh (by rw [HF.out, if_neg q1, if_neg q6, if_pos q12])
    obtain ⟨⟨h0, h1⟩, h2, h3⟩ := hst.two (.inr (.inl q12))
    obtain ⟨k, hk⟩ : ∃ k : Nat, n.a0 = k := ⟨n.a0.toNat, by omega⟩
    obtain ⟨j, hj⟩ : ∃ j : Nat, n.a1 = j := ⟨n.a1.toNat, by omega⟩
    have HK := zzh (show k < T.length by omega)
    have HJ := zzh (show j < T.length by omega)
    have K1 := zzh (fun W hW => KO.out W k HK.out hW)
    have K2 := zzh (fun W hW => KO.out W j HJ.out hW)
    rw [hk, hj] at HR
    rw [q12, hk, hj] at HB0 HBT ⊢
    clear h h0 h1 h2 h3 hst q4 q5 q8 q9 q1 q6 HF KO HST KI HN
    generalize ownB T k = o1 at *
    generalize ownB T j = o2 at *
    by_cases t1 : k = j
    · subst t1
      go_enter Tryz.func90, Tryz.ntmps90
      go_wp2
      go_quiet (fail)
      go_wp2
      go_ret
      rw [HR.out]
      exact ⟨by rw [show decide ((k : Int) ≠ (k : Int)) = false by simp]; rfl, below_drewN HB0.out _⟩
    · have t5 : ¬ ((k : Int) = (j : Int)) := by omega
      have d2 : ((k : Int) != (j : Int)) = true := by simp [t5]
      have d3 : ((k : Int) == (j : Int)) = false := by simp [t5]
      have HD : Hid (decide ((k : Int) ≠ (j : Int)) = true) := zzh (by simp [t5])
      go_enter Tryz.func90, Tryz.ntmps90
      go_wp2
      go_quiet (fail)
      go_wp2_with fail
      refine (K1.out _ (below_drewN HB0.out nq)).mono ?_
      rintro e w1 ⟨rfl, hb⟩
      have HB1 : Hid (Below w.heap.size w w1) := zzh ((below_drewN HB0.out nq).trans (hb.mono (below_drewN HB0.out nq).size))
      have c0 := (HBT.out.below (w' := w1) (B := _) ((below_drewN (Below.refl _ _) nq).trans hb) HBT.out.lt).cell 0
      simp only [zzg, zzi] at c0
      clear hb
      cases o1 with
      | false =>
        go_wp2
        go_ret
        rw [HR.out, HD.out]
        exact ⟨rfl, HB1.out⟩
      | true =>
        go_wp2_with fail
        refine (K2.out _ HB1.out).mono ?_
        rintro e w2 ⟨rfl, hb⟩
        have HB2 : Hid (Below w.heap.size w w2) := zzh (HB1.out.trans (hb.mono HB1.out.size))
        clear hb
        go_wp2
        go_ret
        rw [HR.out, HD.out]
        exact ⟨rfl, HB2.out⟩
  · have HR : Hid (fitB T n = true) := zzh (by rw [HF.out, if_neg q1, if_neg q6, if_neg q12])
    have e4 : (n.op == 4) = false := by simp [q4]
    have e5 : (n.op == 5) = false := by simp [q5]
    have e8 : (n.op == 8) = false := by simp [q8]
    have e9 : (n.op == 9) = false := by simp [q9]
    have e1 : (n.op == 1) = false := by simp [q1]
    have e6 : (n.op == 6) = false := by simp [q6]
    have e12 : (n.op == 12) = false := by simp [q12]
    clear h hst q4 q5 q8 q9 q1 q6 q12 HF KI KO HN HST
    go_enter Tryz.func90, Tryz.ntmps90
    go_wp2
    go_quiet (fail)
    go_wp2
    go_ret
    rw [HR.out]
    exact ⟨rfl, below_drewN HB0.out _⟩
theorem coreB_any (T : List Nd) : coreB T = (tabB T && ordB T && !T.any fun n => !fitB T n) := by
  unfold coreB
  congr 1
  rw [Bool.eq_iff_iff, List.all_eq_true, Bool.not_eq_true', List.any_eq_false]
  refine forall_congr' fun n => forall_congr' fun _ => ?_
  simp
set_option maxRecDepth 100000 in
set_option maxHeartbeats 4000000 in
theorem coref_ok {W : World} {q : Nat} {A : Option Addr} {c : Nat} {T : List Nd} (hb : Blk W q 33 #[.slice A T.length c]) (ht : Tab W A T) (hT : TabOk T) (x : Nd) (hx : x ∈ T) :
    Calls Tryz.prog 89 #[nodeVal x, .pointer (some ⟨q, 0, none⟩)] W fun e w' => e = .returned (.bool (!fitB T x)) ∧ Below W.heap.size W w' := by
  obtain ⟨i, hi, hti, hst⟩ := hT.stands hx
  have HB0 := zzh (show Below W.heap.size W (W.alloc (.cells (nodeCells x).toArray 51)) from (Below.refl _ W).alloc (Nat.le_refl _) _)
  have KF := zzh (sfits_ok c x i hst (by omega) (ht.below HB0.out))
  have hb1 := hb.alloc (.cells (nodeCells x).toArray 51)
  have c0 := hb1.cell 0
  simp only [zzg, zzi] at c0
  simp only [nodeVal, nodeCells] at HB0 KF c0 ⊢
  clear hb hb1 ht hT hst hti hi hx
  go_enter Tryz.func89, Tryz.ntmps89
  go_wp2_with fail
  refine KF.out.mono ?_
  rintro e w1 ⟨rfl, hb⟩
  have HB1 := zzh (HB0.out.trans (hb.mono HB0.out.size))
  clear hb
  go_wp2
  go_ret
  exact ⟨rfl, HB1.out⟩
set_option maxRecDepth 100000 in
set_option maxHeartbeats 4000000 in
theorem score_ok {T : List Nd} {w : World} {A : Option Addr} (c : Nat) (hc : T.length ≤ c) (h : Tab w A T) : Calls Tryz.prog 53 #[.agg #[.slice A T.length c]] w (BoolIs (coreB T) w) := by
  have HB1 := zzh (show Below w.heap.size w (w.alloc (.cells #[.slice A T.length c] 33)) from (Below.refl _ w).alloc (Nat.le_refl _) _)
  have HBL := zzh (show Blk (w.alloc (.cells #[.slice A T.length c] 33)) w.heap.size 33 #[.slice A T.length c] from Blk.new w _ _)
  have HL1 : Hid (w.heap.size < (w.alloc (.cells #[.slice A T.length c] 33)).heap.size) := zzh (by simp)
  have H := zzh h
  have HC := zzh hc
  have HG := zzh (coreB_any T)
  clear h hc
  go_enter Tryz.func53, Tryz.ntmps53
  go_wp2_with fail
  refine (check_ok c HC.out (H.out.below HB1.out)).mono ?_
  rintro e w1 ⟨r, rfl, hr, hb⟩
  have HR := zzh hr
  have HB2 : Hid (Below w.heap.size w w1) := zzh (HB1.out.trans (hb.mono (Nat.le_of_lt HL1.out)))
  have HBL2 := zzh (HBL.out.below hb HL1.out)
  have c0 := HBL2.out.cell 0
  simp only [zzg, zzi] at c0
  clear hr hb
  cases r with
  | false =>
    have HN : Hid (tabB T = false) := zzh (by
      cases ht : tabB T with
      | false => rfl
      | true => exact absurd (HR.out.2 (tabB_iff.1 ht)) (by simp))
    go_wp2
    go_ret
    rw [HG.out, HN.out]
    exact ⟨rfl, HB2.out⟩
  | true =>
    have HT := zzh (HR.out.1 rfl)
    go_wp2_with fail
    refine (ordered_ok c HC.out (H.out.below HB2.out)).mono ?_
    rintro e w2 ⟨rfl, hb⟩
    have HB3 := zzh (HB2.out.trans (hb.mono HB2.out.size))
    have HBL3 := zzh (HBL2.out.below hb HBL2.out.lt)
    have c1 := HBL3.out.cell 0
    simp only [zzg, zzi] at c1
    clear hb c0
    generalize (tabB T && ordB T) = bo at *
    cases bo with
    | false =>
      go_wp2
      go_ret
      rw [HG.out]
      exact ⟨rfl, HB3.out⟩
    | true =>
      go_wp2_with fail
      refine (ncontains_ok c 89 #[.pointer (some ⟨w.heap.size, 0, none⟩)] (fun n => !fitB T n) (enters_of Tryz.func89 (by kernel_rfl) rfl) (H.out.below HB3.out) (fun W x hx hW => coref_ok (HBL3.out.below hW HBL3.out.lt) (H.out.below (HB3.out.trans (hW.mono HB3.out.size))) HT.out x hx)).mono ?_
      rintro e w3 ⟨rfl, hb2⟩
      generalize (T.any fun n => !fitB T n) = bb at *
      have HB4 := zzh (HB3.out.trans (hb2.mono HB3.out.size))
      clear hb2
      go_wp2
      go_ret
      rw [HG.out]
      exact ⟨rfl, HB4.out⟩
set_option maxRecDepth 100000 in
theorem equality_ok (w : World) (x y : Int) : Calls Tryz.prog 58 #[.int .i64 x, .int .i64 y] w fun e w' => e = .returned (nodeVal (eqNd x y)) ∧ Below w.heap.size w w' := by
  have HB0 := zzh (show Below w.heap.size w (w.alloc (.cells (nodeCells (eqNd x y)).toArray 51)) from (Below.refl _ w).alloc (Nat.le_refl _) _)
  have HBN := zzh (show Blk (w.alloc (.cells (nodeCells (eqNd x y)).toArray 51)) w.heap.size 51 (nodeCells (eqNd x y)).toArray from Blk.new w _ _)
  simp only [nodeCells, eqNd] at HB0 HBN
  go_enter Tryz.func58, Tryz.ntmps58
  go_wp2
  refine bodyPost_ret (v := nodeVal (eqNd x y)) ?_ rfl ⟨rfl, HB0.out⟩
  have n0 := HBN.out.cell 0
  have n1 := HBN.out.cell 1
  have n2 := HBN.out.cell 2
  have n3 := HBN.out.cell 3
  have n4 := HBN.out.cell 4
  have n5 := HBN.out.cell 5
  have n6 := HBN.out.cell 6
  have n7 := HBN.out.cell 7
  simp only [zzg, zzi, zzj] at n0 n1 n2 n3 n4 n5 n6 n7
  simp [results, Tryz.results58, go_sem, n0, n1, n2, n3, n4, n5, n6, n7, nodeVal, nodeCells, eqNd]
structure LayAt (w : World) (l : Nat) (A : Option Addr) (n c : Nat) (most e : Int) : Prop where
  blk : Blk w l 100 #[.slice A n c, .int .i64 most, .int .i64 e]
set_option maxRecDepth 100000 in
theorem keep_ok {w : World} {l : Nat} {A : Option Addr} {n c : Nat} {most e0 : Int} (h : LayAt w l A n c most e0) (A' : Option Addr) (n' c' : Nat) (e : Int) :
    Calls Tryz.prog 59 #[.pointer (some ⟨l, 0, none⟩), .agg #[.slice A' n' c'], .int .i64 e] w fun r w' => r = .returned (.tuple #[]) ∧
      (if e = 0 then LayAt w' l A' n' c' most 0 else LayAt w' l A n c most e) ∧ Kept (fun b => b = l) w w' := by
  have hb1 := h.blk.alloc (.cells #[.slice A' n' c'] 33)
  have HB1 := zzh hb1
  have HK := zzh (show Kept (fun b => b = l) w (w.alloc (.cells #[.slice A' n' c'] 33)) from (Kept.refl _ w).alloc _)
  have hlt := h.blk.lt
  have f0 := hb1.frozen 0
  have f2 := hb1.frozen 2
  have c0 := hb1.cell 0
  have c2 := hb1.cell 2
  simp only [zzg, zzi, zzj] at c0 c2
  have HBW := zzh h.blk
  have hb2 := (h.blk.set_ 2 (.int .i64 e)).alloc (.cells #[.slice A' n' c'] 33)
  simp only [zza, zzb, zzc] at hb2
  have HB2 := zzh hb2
  have HK2 := zzh ((Kept.set1 w l 2 (.int .i64 e)).alloc (.cells #[.slice A' n' c'] 33))
  have f02 := hb2.frozen 0
  have c02 := hb2.cell 0
  simp only [zzg, zzi] at c02
  clear h hb1 hb2
  by_cases t : e = 0
  · subst t
    go_enter Tryz.func59, Tryz.ntmps59
    go_wp2
    refine bodyPost_end (results_none rfl _ _ _) rfl ⟨rfl, ?_, ((Kept.set1 w l 2 (.int .i64 0)).setCell (.inl rfl) _).alloc _⟩
    exact ⟨((HBW.out.set_ 2 (.int .i64 0)).set_ 0 (.slice A' n' c')).alloc _⟩
  · have d : (e == 0) = false := by simp [t]
    go_enter Tryz.func59, Tryz.ntmps59
    go_wp2
    refine bodyPost_end (results_none rfl _ _ _) rfl ⟨rfl, ?_, HK2.out⟩
    exact ⟨HB2.out⟩
end Go.Proofs.YtlipnnibagidiaaGreat
namespace Go.Proofs.YtlipnnibagidiaaGreat
def keepS (T : List Nd) (T' : List Nd) (e : Int) : List Nd × Int := if e = 0 then (T', 0) else (T, e)
def diffS (T : List Nd) (most e x y : Int) : List Nd × Int :=
  if e ≠ 0 then (T, e) else if (diffT T x y 0).e ≠ 0 ∨ (diffT T x y 0).x = (diffT T x y 0).y then (T, (diffT T x y 0).e) else keepS T (leT T x y 0 most).T (leT T x y 0 most).e
def lay1S (T : List Nd) (most x y : Int) : List Nd × Int :=
  diffS (diffS (keepS T (putT T (eqNd x y) most).T (putT T (eqNd x y) most).e).1 most (keepS T (putT T (eqNd x y) most).T (putT T (eqNd x y) most).e).2 x y).1 most (diffS (keepS T (putT T (eqNd x y) most).T (putT T (eqNd x y) most).e).1 most (keepS T (putT T (eqNd x y) most).T (putT T (eqNd x y) most).e).2 x y).2 y x
theorem ofT_ok {T : List Nd} {a : Int} (h : (ofT T a).e = 0) : TabOk T ∧ 0 ≤ a ∧ a < T.length ∧ (ndAt T a).sort = 1 ∧ ofT T a = ⟨(baseT T a).1, (baseT T a).2, 0⟩ := by
  unfold ofT at h ⊢
  split at h
  · rename_i h1
    rw [if_pos h1]
    simp only [Bool.and_eq_true, decide_eq_true_eq] at h1
    split at h
    · rename_i h2
      rw [if_pos h2]
      exact ⟨tabB_iff.1 h1.1.1, h1.1.2, h1.2, h2, rfl⟩
    · cases h
  · cases h
theorem ofT_ext {T S : List Nd} {a : Int} (h : (ofT T a).e = 0) (ht : TabOk (T ++ S)) : ofT (T ++ S) a = ofT T a := by
  obtain ⟨h1, h2, h3, h4, h5⟩ := ofT_ok h
  rw [h5]
  unfold ofT
  rw [if_pos (by simp [tabB_iff.2 ht, h2]; omega), ndAt_append h2 h3, if_pos h4, baseT_append h2 h3]
theorem subN_ok {a b : Int} (h : (subN a b).2 = 0) : mayI a = true ∧ mayI b = true ∧ mayI (a - b) = true ∧ subN a b = (a - b, 0) := by
  unfold subN at h ⊢
  split at h
  · rename_i h1
    rw [if_pos h1]
    simp only [Bool.and_eq_true] at h1
    exact ⟨h1.1.1, h1.1.2, h1.2, rfl⟩
  · cases h
theorem addN_ok {a b : Int} (h : (addN a b).2 = 0) : mayI a = true ∧ mayI b = true ∧ mayI (a + b) = true ∧ addN a b = (a + b, 0) := by
  unfold addN at h ⊢
  split at h
  · rename_i h1
    rw [if_pos h1]
    simp only [Bool.and_eq_true] at h1
    exact ⟨h1.1.1, h1.1.2, h1.2, rfl⟩
  · cases h
theorem subN_yes {a b : Int} (h1 : mayI a = true) (h2 : mayI b = true) (h3 : mayI (a - b) = true) : subN a b = (a - b, 0) := by
  unfold subN
  rw [if_pos (by simp [h1, h2, h3])]
theorem addN_yes {a b : Int} (h1 : mayI a = true) (h2 : mayI b = true) (h3 : mayI (a + b) = true) : addN a b = (a + b, 0) := by
  unfold addN
  rw [if_pos (by simp [h1, h2, h3])]
theorem diffT_ok {T : List Nd} {a b : Int} (h : (diffT T a b 0).e = 0) : (ofT T a).e = 0 ∧ (ofT T b).e = 0 ∧ mayI (ofT T a).n = true ∧ mayI (ofT T b).n = true ∧ mayI ((ofT T b).n - (ofT T a).n) = true ∧ diffT T a b 0 = ⟨(ofT T a).b, (ofT T b).b, (ofT T b).n - (ofT T a).n, 0⟩ := by
  unfold diffT at h ⊢
  split at h
  · rename_i h1
    exact absurd h h1
  rename_i h1
  split at h
  · rename_i h2
    exact absurd h h2
  rename_i h2
  split at h
  · rename_i h3
    exact absurd h h3
  rename_i h3
  split at h
  · rename_i h4
    exact absurd h h4
  rename_i h4
  rw [if_neg h1, if_neg h2, if_neg h3, if_neg h4]
  simp only [ne_eq, Decidable.not_not] at h1 h2 h3 h4
  obtain ⟨a1, a2, a3, a4⟩ := subN_ok h3
  obtain ⟨b1, b2, b3, b4⟩ := addN_ok h4
  rw [a4] at b1 b3 b4 ⊢
  dsimp only at b1 b3 b4 ⊢
  rw [b4]
  dsimp only
  have e : 0 - (ofT T a).n + (ofT T b).n = (ofT T b).n - (ofT T a).n := by omega
  rw [e] at b3 ⊢
  exact ⟨h1, h2, a2, b2, b3, rfl⟩
theorem diffT_yes {T : List Nd} {a b : Int} (h1 : (ofT T a).e = 0) (h2 : (ofT T b).e = 0) (m1 : mayI (ofT T a).n = true) (m2 : mayI (ofT T b).n = true) (m3 : mayI ((ofT T b).n - (ofT T a).n) = true) : diffT T a b 0 = ⟨(ofT T a).b, (ofT T b).b, (ofT T b).n - (ofT T a).n, 0⟩ := by
  have e : 0 - (ofT T a).n + (ofT T b).n = (ofT T b).n - (ofT T a).n := by omega
  have s : subN 0 (ofT T a).n = (0 - (ofT T a).n, 0) := subN_yes (by decide) m1 (by rw [mayI_iff] at m1 ⊢; omega)
  have p : addN (0 - (ofT T a).n) (ofT T b).n = ((ofT T b).n - (ofT T a).n, 0) := by
    rw [addN_yes (by rw [mayI_iff] at m1 ⊢; omega) m2 (by rw [e]; exact m3), e]
  unfold diffT
  rw [if_neg (by simp [h1]), if_neg (by simp [h2]), s]
  dsimp only
  rw [if_neg (by simp), p, if_neg (by simp)]
theorem diffT_turn {T : List Nd} {a b : Int} (h : (diffT T a b 0).e = 0) : diffT T b a 0 = ⟨(diffT T a b 0).y, (diffT T a b 0).x, -(diffT T a b 0).d, 0⟩ := by
  obtain ⟨h1, h2, h3, h4, h5, h6⟩ := diffT_ok h
  rw [diffT_yes h2 h1 h4 h3 (by rw [mayI_iff] at h5 ⊢; omega), h6]
  congr 1
  dsimp only
  omega
theorem diffT_ext {T S : List Nd} {a b : Int} (h : (diffT T a b 0).e = 0) (ht : TabOk (T ++ S)) : diffT (T ++ S) a b 0 = diffT T a b 0 := by
  obtain ⟨h1, h2, h3, h4, h5, h6⟩ := diffT_ok h
  rw [h6, ← ofT_ext h1 ht, ← ofT_ext h2 ht]
  exact diffT_yes (by rw [ofT_ext h1 ht]; exact h1) (by rw [ofT_ext h2 ht]; exact h2) (by rw [ofT_ext h1 ht]; exact h3) (by rw [ofT_ext h2 ht]; exact h4) (by rw [ofT_ext h1 ht, ofT_ext h2 ht]; exact h5)
theorem leT_ext {T : List Nd} {a b most : Int} (hx : (diffT T a b 0).x ≠ (diffT T a b 0).y) (h : (leT T a b 0 most).e = 0) : ∃ S, (leT T a b 0 most).T = T ++ S ∧ TabOk (T ++ S) := by
  unfold leT at h ⊢
  split at h
  · rename_i h1
    exact absurd h h1
  rename_i h1
  rw [if_neg h1]
  rw [if_pos hx]
  first | rw [if_pos hx] at h | skip
  obtain ⟨_, _, h3, _, S, h4, _⟩ := putT_ok h
  exact ⟨S, h4, by rw [← h4]; exact h3⟩
theorem lay1_is (T : List Nd) (most x y : Int) : (lay1S T most x y).2 = (layT T x y most).e ∧ ((layT T x y most).e = 0 → (lay1S T most x y).1 = (layT T x y most).T) := by
  unfold lay1S layT keepS
  by_cases h1 : (putT T (eqNd x y) most).e = 0
  rotate_left
  · rw [if_neg h1, if_pos h1]
    dsimp only
    unfold diffS
    rw [if_pos h1]
    dsimp only
    rw [if_pos h1]
    exact ⟨rfl, fun h => absurd h h1⟩
  rw [if_pos h1, if_neg (by simp [h1])]
  dsimp only
  generalize (putT T (eqNd x y) most).T = T1
  by_cases h2 : (diffT T1 x y 0).e = 0
  rotate_left
  · rw [if_pos h2]
    have e : diffS T1 most 0 x y = (T1, (diffT T1 x y 0).e) := by
      unfold diffS
      rw [if_neg (by simp), if_pos (.inl h2)]
    rw [e]
    dsimp only
    unfold diffS
    rw [if_pos h2]
    exact ⟨rfl, fun h => absurd h h2⟩
  rw [if_neg (by simp [h2])]
  have ht := diffT_turn h2
  by_cases h3 : (diffT T1 x y 0).x = (diffT T1 x y 0).y
  · rw [if_pos h3]
    have e : diffS T1 most 0 x y = (T1, 0) := by
      unfold diffS
      rw [if_neg (by simp), if_pos (.inr h3), h2]
    rw [e]
    dsimp only
    unfold diffS
    rw [if_neg (by simp), ht]
    dsimp only
    rw [if_pos (.inr h3.symm)]
    exact ⟨rfl, fun _ => rfl⟩
  rw [if_neg h3]
  have e : diffS T1 most 0 x y = keepS T1 (leT T1 x y 0 most).T (leT T1 x y 0 most).e := by
    unfold diffS
    rw [if_neg (by simp), if_neg (by simp [h2, h3])]
  rw [e]
  unfold keepS
  by_cases h4 : (leT T1 x y 0 most).e = 0
  rotate_left
  · rw [if_neg h4, if_pos h4]
    dsimp only
    unfold diffS
    rw [if_pos h4]
    exact ⟨rfl, fun h => absurd h h4⟩
  rw [if_pos h4, if_neg (by simp [h4])]
  dsimp only
  obtain ⟨S, hS, hok⟩ := leT_ext h3 h4
  rw [hS]
  have hd : diffT (T1 ++ S) y x 0 = ⟨(diffT T1 x y 0).y, (diffT T1 x y 0).x, -(diffT T1 x y 0).d, 0⟩ := by rw [diffT_ext (by rw [ht]) hok, ht]
  have hg : diffS (T1 ++ S) most 0 y x = keepS (T1 ++ S) (leT (T1 ++ S) y x 0 most).T (leT (T1 ++ S) y x 0 most).e := by
    unfold diffS
    rw [if_neg (by simp), hd]
    dsimp only
    rw [if_neg (by simp; exact fun e => h3 e.symm)]
  rw [hg]
  unfold keepS
  by_cases h5 : (leT (T1 ++ S) y x 0 most).e = 0
  · rw [if_pos h5]
    exact ⟨h5.symm, fun _ => rfl⟩
  · rw [if_neg h5]
    exact ⟨rfl, fun h => absurd h h5⟩
def layAllS : List (Int × Int) → List Nd → Int → List Nd × Int
  | [], T, _ => (T, 0)
  | p :: r, T, most => if (lay1S T most p.1 p.2).2 ≠ 0 then ([], (lay1S T most p.1 p.2).2) else layAllS r (lay1S T most p.1 p.2).1 most
theorem layAll_is (most : Int) : ∀ (ps : List (Int × Int)) (T : List Nd), (layAllS ps T most).2 = (laysT ps T most).e ∧ (layAllS ps T most).1 = (laysT ps T most).T
  | [], T => ⟨rfl, rfl⟩
  | p :: r, T => by
    obtain ⟨h1, h2⟩ := lay1_is T most p.1 p.2
    rw [layAllS, laysT, h1]
    by_cases h : (layT T p.1 p.2 most).e = 0
    · rw [if_neg (by simp [h]), if_neg (by simp [h]), h2 h]
      exact layAll_is most r _
    · rw [if_pos h, if_pos h]
      exact ⟨rfl, rfl⟩
end Go.Proofs.YtlipnnibagidiaaGreat
namespace Go.Proofs.YtlipnnibagidiaaGreat
open Go.RowKit Go.Lib
structure LayS (w : World) (l : Nat) (T : List Nd) (most e : Int) (A : Option Addr) (c : Nat) : Prop where
  lay : LayAt w l A T.length c most e
  tab : Tab w A T
  cap : T.length ≤ c
  ne : ∀ b, A = some b → b.block ≠ l
set_option maxRecDepth 100000 in
set_option maxHeartbeats 4000000 in
theorem ldiff_ok {w : World} {l : Nat} {T : List Nd} {most e : Int} {A : Option Addr} {c : Nat} (h : LayS w l T most e A c) (hl : T.length < 100000) (ho : TabOk T → ordB T = true) (x y : Int) (hx : In64 x) (hy : In64 y) :
    Calls Tryz.prog 55 #[.pointer (some ⟨l, 0, none⟩), .int .i64 x, .int .i64 y] w fun r w' => r = .returned (.tuple #[]) ∧
      (∃ A' c', LayS w' l (diffS T most e x y).1 most (diffS T most e x y).2 A' c') ∧ Kept (fun b => b = l) w w' := by
  have KD := zzh (diff_ok c x y 0 hx hy h.cap h.tab ho)
  have KL := zzh (fun (W : World) (hW : Below w.heap.size w W) => le_ok c x y 0 most hx hy h.cap (h.tab.below hW) hl ho)
  have HB := zzh h.lay.blk
  have H := zzh h
  have c0 := h.lay.blk.cell 0
  have c1 := h.lay.blk.cell 1
  have c2 := h.lay.blk.cell 2
  have f2 := h.lay.blk.frozen 2
  simp only [zzg, zzi, zzj] at c0 c1 c2
  clear h ho
  by_cases t : e = 0
  rotate_left
  · have d : (e == 0) = false := by simp [t]
    have HS : Hid (diffS T most e x y = (T, e)) := zzh (by unfold diffS; rw [if_pos t])
    clear t
    go_enter Tryz.func55, Tryz.ntmps55
    go_wp2
    refine bodyPost_ret (v := .tuple #[]) (results_none rfl _ _ _) rfl ⟨rfl, ?_, Kept.refl _ _⟩
    rw [HS.out]
    exact ⟨A, c, H.out⟩
  subst t
  go_enter Tryz.func55, Tryz.ntmps55
  go_wp2_with fail
  refine KD.out.mono ?_
  rintro r w1 ⟨rfl, hb⟩
  generalize hD : diffT T x y 0 = p at *
  obtain ⟨p1, p2, p3, p4⟩ := p
  have HB1 := zzh hb
  have hb1 := HB.out.below hb HB.out.lt
  have HBL := zzh hb1
  have a0 := hb1.cell 0
  have a1 := hb1.cell 1
  have a2 := hb1.cell 2
  have g2 := hb1.frozen 2
  simp only [zzg, zzi, zzj] at a0 a1 a2
  have HS : Hid (diffS T most 0 x y = if p4 ≠ 0 ∨ p1 = p2 then (T, p4) else keepS T (leT T x y 0 most).T (leT T x y 0 most).e) := zzh (by unfold diffS; rw [if_neg (by simp), hD])
  clear hb hb1 hD c0 c1 c2 f2
  by_cases t1 : p4 = 0
  rotate_left
  · have d1 : (p4 == 0) = false := by simp [t1]
    have HS' : Hid (diffS T most 0 x y = (T, p4)) := zzh (by rw [HS.out, if_pos (.inl t1)])
    clear t1
    go_wp2
    refine bodyPost_ret (v := .tuple #[]) (results_none rfl _ _ _) rfl ⟨rfl, ?_, (Kept.of_below (S := fun b => b = l) HB1.out).setCell (.inl rfl) _⟩
    rw [HS'.out]
    have := HBL.out.set_ 2 (.int .i64 p4)
    refine ⟨A, c, ⟨⟨this⟩, (H.out.tab.below HB1.out).kept1 (Kept.set1 w1 l 2 _) H.out.ne, H.out.cap, H.out.ne⟩⟩
  subst t1
  by_cases t2 : p1 = p2
  · have d2 : (p1 == p2) = true := by simp [t2]
    have HS' : Hid (diffS T most 0 x y = (T, 0)) := zzh (by rw [HS.out, if_pos (.inr t2)])
    clear t2
    go_wp2
    refine bodyPost_ret (v := .tuple #[]) (results_none rfl _ _ _) rfl ⟨rfl, ?_, (Kept.of_below (S := fun b => b = l) HB1.out).setCell (.inl rfl) _⟩
    rw [HS'.out]
    have := HBL.out.set_ 2 (.int .i64 0)
    refine ⟨A, c, ⟨⟨this⟩, (H.out.tab.below HB1.out).kept1 (Kept.set1 w1 l 2 _) H.out.ne, H.out.cap, H.out.ne⟩⟩
  have d2 : (p1 == p2) = false := by simp [t2]
  have HS' : Hid (diffS T most 0 x y = keepS T (leT T x y 0 most).T (leT T x y 0 most).e) := zzh (by rw [HS.out, if_neg (by simp [t2])])
  clear t2
  go_upto_region 4 with (fail)
  have X1 := zzh (show Below w.heap.size w w1.drew from below_drewN HB1.out 1)
  have X2 := zzh (show Below w.heap.size w (w1.alloc (.cells #[.slice none 0 0] 33)).drew from below_drewN (HB1.out.alloc HB1.out.size _) 1)
  generalize leT T x y 0 most = r at *
  obtain ⟨T', id', is', e'⟩ := r
  go_region_held3 (fun w' => w'.cell? ⟨l, 0, none⟩ = some (.slice A T.length c) ∧ w'.cell? ⟨l, 1, none⟩ = some (.int .i64 most)) (go_keep) (first
    | (go_at_call 92; refine (KL.out _ X1.out).mono ?_; rintro r w2 ⟨A2, c2, rfl, ht, hc2, hf, hb⟩; have HT2 := zzh ht; have HC2 := zzh hc2; have HF2 := zzh hf; have HB2 := zzh hb; have hbl := (show Blk w1.drew l 100 #[.slice A T.length c, .int .i64 most, .int .i64 0] from HBL.out).below hb (by simp; have := HBL.out.lt; omega); have HBL2 := zzh hbl; have b0 := hbl.cell 0; have b1 := hbl.cell 1; simp only [zzg, zzi, zzj] at b0 b1; clear hbl; clear ht hc2 hf hb)
    | (go_at_call 92; refine (KL.out _ X2.out).mono ?_; rintro r w2 ⟨A2, c2, rfl, ht, hc2, hf, hb⟩; have HT2 := zzh ht; have HC2 := zzh hc2; have HF2 := zzh hf; have HB2 := zzh hb; have hbl := (show Blk (w1.alloc (.cells #[.slice none 0 0] 33)).drew l 100 #[.slice A T.length c, .int .i64 most, .int .i64 0] from HBL.out.alloc _).below hb (by simp; have := HBL.out.lt; omega); have HBL2 := zzh hbl; have b0 := hbl.cell 0; have b1 := hbl.cell 1; simp only [zzg, zzi, zzj] at b0 b1; clear hbl; have hx := (show Blk (w1.alloc (.cells #[.slice none 0 0] 33)).drew w1.heap.size 33 #[.slice none 0 0] from Blk.new w1 _ _).below hb (by simp); have HX := zzh hx; have cx := hx.cell 0; have fx := hx.frozen 0; simp only [zzg, zzi] at cx; clear hx; have hbs := HBL2.out.kept (Kept.set1 w2 w1.heap.size 0 (.slice A2 T'.length c2)) (by have := HBL.out.lt; omega); have b0s := hbs.cell 0; have b1s := hbs.cell 1; simp only [zzg, zzi, zzj] at b0s b1s; clear hbs; clear ht hc2 hf hb))
  all_goals go_wp2_with fail
  · have HW := zzh (show LayAt (w2.alloc (.cells #[.slice A2 T'.length c2] 33)) l A T.length c most 0 from ⟨HBL2.out.alloc _⟩)
    have HNe : Hid (∀ b, A2 = some b → b.block ≠ l) := zzh (fun b e => by
      rcases HF2.out b e with ⟨e1, _⟩ | h1
      · exact H.out.ne b e1
      · have := HBL.out.lt
        simp at h1
        omega)
    have HTW : Hid (Tab (w2.alloc (.cells #[.slice A2 T'.length c2] 33)) A2 T') := zzh (HT2.out.alloc _)
    have HKW : Hid (Kept (fun b => b = l) w (w2.alloc (.cells #[.slice A2 T'.length c2] 33))) := zzh (((Kept.of_below (S := fun b => b = l) X1.out).trans (Kept.of_below HB2.out)).alloc _)
    have HTO : Hid (Tab (w2.alloc (.cells #[.slice A2 T'.length c2] 33)) A T) := zzh (H.out.tab.kept1 HKW.out H.out.ne)
    refine (keep_ok HW.out A2 T'.length c2 e').mono ?_
    rintro r w3 ⟨rfl, hlay, hk⟩
    have HL3 := zzh hlay
    have HK3 := zzh hk
    clear hlay hk
    go_wp2
    refine bodyPost_end (results_none rfl _ _ _) rfl ⟨rfl, ?_, HKW.out.trans HK3.out⟩
    rw [HS'.out]
    unfold keepS
    have hl3 := HL3.out
    by_cases te : e' = 0
    · rw [if_pos te] at hl3 ⊢
      exact ⟨A2, c2, hl3, HTW.out.kept1 HK3.out HNe.out, HC2.out, HNe.out⟩
    · rw [if_neg te] at hl3 ⊢
      exact ⟨A, c, hl3, HTO.out.kept1 HK3.out H.out.ne, H.out.cap, H.out.ne⟩
  · have HW := zzh (show LayAt (w2.setCell ⟨w1.heap.size, 0, none⟩ (.slice A2 T'.length c2)) l A T.length c most 0 from ⟨HBL2.out.kept (Kept.set1 w2 w1.heap.size 0 _) (by have := HBL.out.lt; omega)⟩)
    have HNe : Hid (∀ b, A2 = some b → b.block ≠ l) := zzh (fun b e => by
      rcases HF2.out b e with ⟨e1, _⟩ | h1
      · exact H.out.ne b e1
      · have := HBL.out.lt
        simp at h1
        omega)
    have HNf : Hid (∀ b, A2 = some b → b.block ≠ w1.heap.size) := zzh (fun b e => by
      rcases HF2.out b e with ⟨e1, h0⟩ | h1
      · have := Tab.lt (e1 ▸ H.out.tab) h0
        have := HB1.out.size
        omega
      · simp at h1
        omega)
    have HTW : Hid (Tab (w2.setCell ⟨w1.heap.size, 0, none⟩ (.slice A2 T'.length c2)) A2 T') := zzh (HT2.out.kept1 (Kept.set1 w2 w1.heap.size 0 _) HNf.out)
    have HKW : Hid (Kept (fun b => b = l) w (w2.setCell ⟨w1.heap.size, 0, none⟩ (.slice A2 T'.length c2))) := zzh (((Kept.of_below (S := fun b => b = l) X2.out).trans (Kept.of_below HB2.out)).setCell (.inr HB1.out.size) _)
    have HTO : Hid (Tab (w2.setCell ⟨w1.heap.size, 0, none⟩ (.slice A2 T'.length c2)) A T) := zzh (H.out.tab.kept1 HKW.out H.out.ne)
    refine (keep_ok HW.out A2 T'.length c2 e').mono ?_
    rintro r w3 ⟨rfl, hlay, hk⟩
    have HL3 := zzh hlay
    have HK3 := zzh hk
    clear hlay hk
    go_wp2
    refine bodyPost_end (results_none rfl _ _ _) rfl ⟨rfl, ?_, HKW.out.trans HK3.out⟩
    rw [HS'.out]
    unfold keepS
    have hl3 := HL3.out
    by_cases te : e' = 0
    · rw [if_pos te] at hl3 ⊢
      exact ⟨A2, c2, hl3, HTW.out.kept1 HK3.out HNe.out, HC2.out, HNe.out⟩
    · rw [if_neg te] at hl3 ⊢
      exact ⟨A, c, hl3, HTO.out.kept1 HK3.out H.out.ne, H.out.cap, H.out.ne⟩
end Go.Proofs.YtlipnnibagidiaaGreat
namespace Go.Proofs.YtlipnnibagidiaaGreat
def SelfM (n : Nd) (j i : Int) : Prop := 0 < n.len ∧ n.sort = 1 ∧ i = j
def ArgM (T : List Nd) (n : Nd) (q : Nat) (i : Int) : Prop := ∃ r : Nat, r < q ∧ n.arg r = i ∧ (ndAt T i).sort = 1
def Mark (T : List Nd) (k : Nat) (i : Int) : Prop := ∃ (j : Nat) (n : Nd), j < k ∧ T[j]? = some n ∧ n.op = 13 ∧ (SelfM n j i ∨ ArgM T n n.len.toNat i)
theorem Mark.zero (T : List Nd) (i : Int) : ¬ Mark T 0 i := fun ⟨_, _, h, _⟩ => by omega
theorem Mark.step {T : List Nd} {k : Nat} {n : Nd} (hn : T[k]? = some n) (i : Int) : Mark T (k + 1) i ↔ Mark T k i ∨ (n.op = 13 ∧ (SelfM n k i ∨ ArgM T n n.len.toNat i)) := by
  constructor
  · rintro ⟨j, m, hj, hm, ho, h⟩
    by_cases hjk : j = k
    · subst hjk
      rw [hn] at hm
      injection hm with hm
      subst hm
      exact .inr ⟨ho, h⟩
    · exact .inl ⟨j, m, by omega, hm, ho, h⟩
  · rintro (⟨j, m, hj, hm, ho, h⟩ | ⟨ho, h⟩)
    · exact ⟨j, m, by omega, hm, ho, h⟩
    · exact ⟨k, n, by omega, hn, ho, h⟩
theorem ArgM.zero (T : List Nd) (n : Nd) (i : Int) : ¬ ArgM T n 0 i := fun ⟨_, h, _⟩ => by omega
theorem ArgM.step (T : List Nd) (n : Nd) (q : Nat) (i : Int) : ArgM T n (q + 1) i ↔ ArgM T n q i ∨ (n.arg q = i ∧ (ndAt T i).sort = 1) := by
  constructor
  · rintro ⟨r, hr, h1, h2⟩
    by_cases hq : r = q
    · subst hq
      exact .inr ⟨h1, h2⟩
    · exact .inl ⟨r, by omega, h1, h2⟩
  · rintro (⟨r, hr, h1, h2⟩ | ⟨h1, h2⟩)
    · exact ⟨r, by omega, h1, h2⟩
    · exact ⟨q, by omega, h1, h2⟩
theorem arg3 (n : Nd) : n.arg 0 = n.a0 ∧ n.arg 1 = n.a1 ∧ n.arg 2 = n.a2 := ⟨rfl, rfl, rfl⟩
theorem argM_iff {T : List Nd} {n : Nd} (hl : n.len ≤ 3) (i : Int) : ArgM T n n.len.toNat i ↔ (ndAt T i).sort = 1 ∧ ((0 < n.len ∧ n.a0 = i) ∨ (1 < n.len ∧ n.a1 = i) ∨ (2 < n.len ∧ n.a2 = i)) := by
  obtain ⟨e0, e1, e2⟩ := arg3 n
  constructor
  · rintro ⟨r, hr, h1, h2⟩
    refine ⟨h2, ?_⟩
    rcases (by omega : r = 0 ∨ r = 1 ∨ r = 2) with rfl | rfl | rfl
    · exact .inl ⟨by omega, by rw [← e0]; exact h1⟩
    · exact .inr (.inl ⟨by omega, by rw [← e1]; exact h1⟩)
    · exact .inr (.inr ⟨by omega, by rw [← e2]; exact h1⟩)
  · rintro ⟨h2, ⟨hl0, h⟩ | ⟨hl0, h⟩ | ⟨hl0, h⟩⟩
    · exact ⟨0, by omega, by rw [e0]; exact h, h2⟩
    · exact ⟨1, by omega, by rw [e1]; exact h, h2⟩
    · exact ⟨2, by omega, by rw [e2]; exact h, h2⟩
theorem mark_all {T : List Nd} (hl : ∀ n ∈ T, n.len ≤ 3) {i : Nat} (hi : i < T.length) : Mark T T.length i ↔ sharedB T i = true := by
  have hat := ndAt_nat hi
  unfold sharedB
  simp only [Bool.or_eq_true, Bool.and_eq_true, decide_eq_true_eq, List.any_eq_true]
  constructor
  · rintro ⟨j, n, hj, hn, ho, ⟨h1, h2, h3⟩ | h⟩
    · obtain rfl : i = j := by omega
      have e : ndAt T i = n := ndAt_some hn
      rw [e]
      exact .inl ⟨⟨ho, h1⟩, h2⟩
    · obtain ⟨h1, h2⟩ := (argM_iff (hl n (List.mem_of_getElem? hn)) i).1 h
      exact .inr ⟨h1, n, List.mem_of_getElem? hn, ho, by rcases h2 with h2 | h2 | h2 <;> simp [h2]⟩
  · rintro (⟨⟨ho, h1⟩, h2⟩ | ⟨h1, n, hn, ho, h2⟩)
    · refine ⟨i, ndAt T i, hi, ?_, ho, .inl ⟨h1, h2, rfl⟩⟩
      rw [hat]
      exact List.getElem?_eq_getElem hi
    · obtain ⟨j, hj, rfl⟩ := List.mem_iff_getElem.1 hn
      refine ⟨j, T[j], hj, List.getElem?_eq_getElem hj, ho, .inr ((argM_iff (hl _ hn) i).2 ⟨h1, ?_⟩)⟩
      rcases h2 with (h2 | h2) | h2
      · exact .inl h2
      · exact .inr (.inl h2)
      · exact .inr (.inr h2)
def nodesTo (T : List Nd) (k : Nat) : List Int := ((List.range k).filter (sharedB T)).map fun (i : Nat) => (i : Int)
theorem nodesTo_step (T : List Nd) (k : Nat) : nodesTo T (k + 1) = nodesTo T k ++ (if sharedB T k = true then [(k : Int)] else []) := by
  unfold nodesTo
  rw [List.range_succ, List.filter_append, List.map_append]
  congr 1
  by_cases h : sharedB T k = true <;> simp [h]
theorem nodesTo_len (T : List Nd) (k : Nat) : (nodesTo T k).length ≤ k := by
  unfold nodesTo
  rw [List.length_map]
  have := List.length_filter_le (sharedB T) (List.range k)
  rwa [List.length_range] at this
end Go.Proofs.YtlipnnibagidiaaGreat
namespace Go.Proofs.YtlipnnibagidiaaGreat
open Go.RowKit
open Go.Maps (Keyed)
theorem int_key : Keyed Tryz.prog 3 := Go.Maps.int_keyed Tryz.underlying3
theorem int_key_of {x : Int} (h0 : -9223372036854775808 ≤ x) (h1 : x ≤ 9223372036854775807) : keyOf Tryz.prog 3 (.int .i64 x) = some (.int .i64 x) :=
  Go.Maps.keyOf_int_mk Tryz.underlying3 (by simp [Lit.wf, IntKind.min, IntKind.max, IntKind.bits, IntKind.signed]; omega)
theorem zero_bool (w : World) : (zeroValue 4).run Tryz.prog w = .ok (.bool false) w := by kernel_rfl
theorem own_base_le {w : World} {B n : Nat} {va : Value} {xs : List Value} {e : TypeId} (h : w.ownsRow B e 1 va n xs) : ∀ k, va.ownBlock = some k → B ≤ k := fun k hk => (h.lt k hk).1
def OwnL (w : World) (B : Nat) (v : Value) (zs : List Int) : Prop := w.ownsRow B 3 1 v zs.length (zs.map (Value.int .i64))
theorem slice_arr0 (g : Nat) (W : World) : (Instr.sliceAt 49 (.pointer (some ⟨g, 2, none⟩)) none (some (.int .i8 0)) none).run Tryz.prog W = .ok (.slice (some ⟨g, 2, none⟩) 0 3) W := by kernel_rfl
theorem slice_arr1 (g : Nat) (W : World) : (Instr.sliceAt 49 (.pointer (some ⟨g, 2, none⟩)) none (some (.int .i8 1)) none).run Tryz.prog W = .ok (.slice (some ⟨g, 2, none⟩) 1 3) W := by kernel_rfl
theorem slice_arr2 (g : Nat) (W : World) : (Instr.sliceAt 49 (.pointer (some ⟨g, 2, none⟩)) none (some (.int .i8 2)) none).run Tryz.prog W = .ok (.slice (some ⟨g, 2, none⟩) 2 3) W := by kernel_rfl
theorem slice_arr3 (g : Nat) (W : World) : (Instr.sliceAt 49 (.pointer (some ⟨g, 2, none⟩)) none (some (.int .i8 3)) none).run Tryz.prog W = .ok (.slice (some ⟨g, 2, none⟩) 3 3) W := by kernel_rfl
theorem slice_arr (g ln : Nat) (h : ln ≤ 3) (W : World) : (Instr.sliceAt 49 (.pointer (some ⟨g, 2, none⟩)) none (some (.int .i8 (ln : Int))) none).run Tryz.prog W = .ok (.slice (some ⟨g, 2, none⟩) ln 3) W := by
  have hc : ln = 0 ∨ ln = 1 ∨ ln = 2 ∨ ln = 3 := by omega
  rcases hc with rfl | rfl | rfl | rfl
  · exact slice_arr0 g W
  · exact slice_arr1 g W
  · exact slice_arr2 g W
  · exact slice_arr3 g W
theorem NdAt.arg {w : World} {b o : Nat} {n : Nd} (h : NdAt w b o n) (k : Nat) (hk : k < 3) : w.cell? ⟨b, o + 2 + k, none⟩ = some (.int .i64 (n.arg k)) := by
  rw [Nat.add_assoc, h.cells (2 + k) (by omega)]
  match k, hk with
  | 0, _ => rfl
  | 1, _ => rfl
  | 2, _ => rfl
def MarkF (P : Int → Prop) (f : Value → Option Value) : Prop := ∀ i : Int, (f (.int .i64 i) = some (.bool true) ∧ P i) ∨ (f (.int .i64 i) = none ∧ ¬ P i)
theorem MarkF.congr {P Q : Int → Prop} {f : Value → Option Value} (h : MarkF P f) (hp : ∀ i, Q i ↔ P i) : MarkF Q f := fun i => (h i).imp (fun ⟨a, b⟩ => ⟨a, (hp i).2 b⟩) fun ⟨a, b⟩ => ⟨a, fun c => b ((hp i).1 c)⟩
theorem MarkF.put {P : Int → Prop} {f : Value → Option Value} (h : MarkF P f) (k : Int) : MarkF (fun i => P i ∨ i = k) (putFn f (.int .i64 k) (.bool true)) := fun i => by
  by_cases hi : i = k
  · subst hi
    exact .inl ⟨putFn_at _ _ _, .inr rfl⟩
  · rw [putFn_far _ _ _ _ (fun e => hi (by injection e))]
    exact (h i).imp (fun ⟨a, b⟩ => ⟨a, .inl b⟩) fun ⟨a, b⟩ => ⟨a, fun c => c.elim b hi⟩
def NodesIs (w : World) (l : List Int) (e : Ending) (w' : World) : Prop := ∃ v, e = .returned v ∧ OwnL w' w.heap.size v l ∧ Below w.heap.size w w'
set_option maxRecDepth 100000 in
set_option maxHeartbeats 8000000 in
theorem nodes_ok {T : List Nd} {w : World} {A : Option Addr} (c : Nat) (h : Tab w A T) (hT : TabOk T) : Calls Tryz.prog 54 #[.agg #[.slice A T.length c]] w (NodesIs w (nodesT T)) := by
  obtain ⟨i0, hi0, hz0, hz1, hz2⟩ := info_parts int_info
  have hlen := h.len
  have hmm := @run_makeMap Tryz.prog
  have hb0 : Below w.heap.size w (w.alloc (.cells #[.slice A T.length c] 33)) := (Below.refl _ w).alloc (Nat.le_refl _) _
  have HB0 := zzh (show Below w.heap.size w ((w.alloc (.cells #[.slice A T.length c] 33)).alloc (.map #[] 0)) from hb0.alloc (by simp) _)
  have HBT := zzh ((Blk.new w 33 #[.slice A T.length c]).alloc (.map #[] 0))
  have hM := MapAt.made Tryz.prog 3 (w.alloc (.cells #[.slice A T.length c] 33))
  rw [World.size_alloc] at hM
  have HM0 := zzh hM
  have HT := zzh hT
  have H := zzh h
  clear h hT hM hb0
  go_enter Tryz.func54, Tryz.ntmps54
  go_wp2
  have c0 := HBT.out.cell 0
  simp only [zzg, zzi] at c0
  go_loopg [13] T.length (fun g v wr => ∃ (i : Nat) (f : Value → Option Value), i + g = T.length ∧ v = .int .i64 i ∧ MapAt Tryz.prog 3 wr (w.heap.size + 1) (4 * i) f ∧ MarkF (Mark T i) f ∧ Blk wr w.heap.size 33 #[.slice A T.length c] ∧ Below w.heap.size w wr)
  case atStart => exact ⟨0, _, by omega, rfl, HM0.out, fun i => .inr ⟨rfl, Mark.zero T i⟩, HBT.out, HB0.out⟩
  case round =>
    obtain ⟨wo, rfl⟩ : ∃ wo : World, wo = wr := ⟨_, rfl⟩
    obtain ⟨i, f, hig, rfl, hmap, hmk, hbt, hb⟩ := hrel
    have HM := zzh hmap
    have HF := zzh hmk
    have HT1 := zzh hbt
    have HB := zzh hb
    have c1 := hbt.cell 0
    simp only [zzg, zzi] at c1
    clear hmap hmk hbt hb
    cases gk with
    | zero =>
      obtain rfl : i = T.length := by omega
      have d1 : decide ((T.length : Int) < T.length) = false := by simp
      have HML : Hid (∀ j : Nat, j < T.length → (Mark T T.length j ↔ sharedB T j = true)) := zzh (fun j hj => mark_all (fun n hn => by obtain ⟨q, _, _, hst⟩ := HT.out.stands hn; have := hst.len; omega) hj)
      go_wp2
      go_loopg [54, 2] T.length (fun g v vo wr => ∃ k : Nat, k + g = T.length ∧ v = .int .i64 k ∧ OwnL wr w.heap.size vo (nodesTo T k) ∧ MapAt Tryz.prog 3 wr (w.heap.size + 1) (4 * T.length) f ∧ (∀ p, vo.ownBlock = some p → w.heap.size + 1 < p) ∧ Below w.heap.size w wr)
      case atStart => exact ⟨0, by omega, rfl, World.ownsRow_nil _ _ _ _, HM.out, fun p e => (by cases e), HB.out⟩
      case round =>
        obtain ⟨k, hkg, rfl, hown, hmap, hob, hb⟩ := hrel
        have HO := zzh hown
        have HM2 := zzh hmap
        have HOB := zzh hob
        have HB2 := zzh hb
        clear hown hmap hob hb
        cases gk with
        | zero =>
          obtain rfl : k = T.length := by omega
          have d2 : decide ((T.length : Int) < T.length) = false := by simp
          go_wp2
          go_ret
          exact ⟨_, rfl, HO.out, HB2.out⟩
        | succ gk =>
          have hlt : k < T.length := by omega
          have d2 : decide ((k : Int) < T.length) = true := by simp; omega
          have u1 : (0 : Int) ≤ (k : Int) := by omega
          have u2 : (k : Int) < (T.length : Int) := by omega
          have hlk := HM2.out.look int_key Tryz.underlying140 (zero_bool wr) (int_key_of (x := (k : Int)) (by omega) (by omega)) false
          have HST := zzh (nodesTo_step T k)
          have HLN := zzh (nodesTo_len T k)
          rcases HF.out (k : Int) with ⟨hf, hm⟩ | ⟨hf, hm⟩
          · rw [hf] at hlk
            dsimp only at hlk
            have HS := zzh ((HML.out k hlt).1 hm)
            clear hf hm
            rw [HS.out] at HST
            obtain ⟨fs, hfs⟩ : ∃ fs, nodesTo T k = fs := ⟨_, rfl⟩
            rw [hfs] at HO HST HLN
            clear hfs
            have X1 := zzh (show (fs.length + 1) * 8 ≤ 140737488355328 by have := HLN.out; omega)
            go_wp2_with (at_builtin; refine list_push _ rfl (.tmp 60) (.tmp 62) 27 rfl w.heap.size 3 i0 (.int .i64 0) 1 8 Tryz.underlying27 hi0 hz0 hz1 hz2 rfl (by decide) _ fs.length (fs.map (Value.int .i64)) rfl (own_kept HO.out ((Kept.refl (fun _ => False) wr).alloc _) (fun _ _ h => h)) wr.heap.size #[.int .i64 k] rfl (Blk.new wr _ _) rfl (by intro u hu; rw [List.mem_singleton.1 hu]; rfl) X1.out (by decide) HB2.out.size ?_; intro ga ca w3 ho3 hg3 hx3 _; have HO3 := zzh ho3; have HG3 := zzh hg3; have HX3 := zzh hx3; have HB3 := zzh (Below.grown (HB2.out.alloc HB2.out.size _) hg3 (Nat.le_trans HB2.out.size (by simp)) (own_base_le HO.out)); clear ho3 hg3 hx3)
            go_roundg gk
            case measure => omega
            case rel =>
              refine ⟨k + 1, by omega, by go_num, ?_, (HM2.out.alloc _).grown HG3.out (fun e => by have := HOB.out _ e.symm; omega), fun p e => ?_, HB3.out⟩
              · rw [HST.out, if_pos trivial]
                unfold OwnL
                rw [List.length_append, List.map_append]
                exact HO3.out
              · have e' : ga = p := Option.some.inj e
                rcases HX3.out with h | h
                · exact HOB.out p (h.trans (congrArg some e'))
                · have := HM2.out.lt
                  rw [World.size_alloc] at h
                  omega
          · rw [hf] at hlk
            dsimp only at hlk
            have HS : Hid (sharedB T k = false) := zzh (Bool.eq_false_iff.2 fun h => hm ((HML.out k hlt).2 h))
            clear hf hm
            rw [HS.out] at HST
            go_wp2
            go_roundg gk
            case measure => omega
            case rel => exact ⟨k + 1, by omega, by go_num, by rw [HST.out, if_neg (by simp), List.append_nil]; exact HO.out, HM2.out, HOB.out, HB2.out⟩
    | succ gk =>
      have hlt : i < T.length := by omega
      have d1 : decide ((i : Int) < T.length) = true := by simp; omega
      have t1 : (0 : Int) ≤ (i : Int) := by omega
      have t2 : (i : Int) < (T.length : Int) := by omega
      obtain ⟨b, off, hA, hbb, hcell⟩ := (H.out.below HB.out).at_.resolve_left (by omega)
      subst hA
      have hn := hcell i hlt
      obtain ⟨y0, y1, y2, y3, y4, y5, y6, y7⟩ := hn.all
      have HG := zzh (List.getElem?_eq_getElem hlt)
      have HWf := zzh hn.wf
      have HST := zzh (HT.out.st i _ (List.getElem?_eq_getElem hlt))
      clear hcell hn
      generalize T[i] = n at *
      obtain ⟨ln, hln⟩ : ∃ ln : Nat, n.len = ln := ⟨n.len.toNat, by have := HST.out.len; omega⟩
      have hln3 : ln ≤ 3 := by have := HST.out.len; omega
      have HLN := zzh hln
      rw [hln] at y1
      clear hln
      obtain ⟨ov, hov⟩ : ∃ ov, n.op = ov := ⟨_, rfl⟩
      have HOV := zzh hov
      rw [hov] at y0
      obtain ⟨sv, hsv⟩ : ∃ sv, n.sort = sv := ⟨_, rfl⟩
      have HSV := zzh hsv
      rw [hsv] at y5
      have hbN : Below wo.heap.size wo (wo.alloc (.cells #[.int .i8 ov, .int .i8 (ln : Int), .int .i64 n.a0, .int .i64 n.a1, .int .i64 n.a2, .int .i64 sv, .int .i64 n.fn, .int .i64 n.num] 51)) := (Below.refl _ wo).alloc (Nat.le_refl _) _
      have HN2 := zzh (Blk.new wo 51 #[.int .i8 ov, .int .i8 (ln : Int), .int .i64 n.a0, .int .i64 n.a1, .int .i64 n.a2, .int .i64 sv, .int .i64 n.fn, .int .i64 n.num])
      have HM2 := zzh (HM.out.below hbN HM.out.lt)
      have HT2 := zzh (HT1.out.below hbN HT1.out.lt)
      have HB2 := zzh (HB.out.trans (hbN.mono HB.out.size))
      clear hov hsv hbN
      have HLT := zzh (show w.heap.size + 1 < wo.heap.size from HM.out.lt)
      by_cases o13 : ov = 13
      rotate_left
      · have b13 : (ov != 13) = true := by simp [o13]
        have b13' : (ov == 13) = false := by simp [o13]
        have HO13 := zzh o13
        clear o13
        go_wp2
        go_roundg gk
        case measure => omega
        case rel => exact ⟨i + 1, f, by omega, by go_num, HM2.out.mono (by omega), HF.out.congr fun x => (Mark.step HG.out x).trans ⟨fun h => h.resolve_right fun h => HO13.out (HOV.out ▸ h.1), .inl⟩, HT2.out, HB2.out⟩
      subst o13
      have hsl := slice_arr wo.heap.size ln hln3
      obtain ⟨go, rfl⟩ : ∃ go : Nat, go = gk := ⟨_, rfl⟩
      have HMS : Hid (∀ x, Mark T (i + 1) x ↔ (Mark T i x ∨ SelfM n i x) ∨ ArgM T n ln x) := zzh (fun x => (Mark.step HG.out x).trans (by rw [HLN.out, Int.toNat_natCast, HOV.out]; simp [or_assoc]))
      by_cases hs : 0 < ln ∧ sv = 1
      · obtain ⟨hs1, hs2⟩ := hs
        have HF3 : Hid (MarkF (fun x => Mark T i x ∨ SelfM n i x) (putFn f (.int .i64 i) (.bool true))) := zzh ((HF.out.put i).congr fun x => or_congr Iff.rfl ⟨fun h => h.2.2, fun h => ⟨by rw [HLN.out]; omega, by rw [HSV.out]; exact hs2, h⟩⟩)
        obtain ⟨w5, hrun, hm5, hg5⟩ := HM2.out.store int_key Tryz.underlying140 (by unfold maxLen; omega) (int_key_of (x := (i : Int)) (by omega) (by omega)) (.bool true) (g := putFn f (.int .i64 i) (.bool true)) (putFn_at _ _ _) (fun y hy => putFn_far _ _ _ y hy)
        have HM3 := zzh hm5
        have HT3 := zzh (HT2.out.grown hg5 (by simp))
        have HN3 := zzh (HN2.out.grown hg5 (by have := HLT.out; simp; omega))
        have HB3 : Hid (Below w.heap.size w w5) := zzh (Below.grown HB2.out hg5 HB2.out.size (fun k e => by injection e with e; omega))
        subst hs2
        have e1 : decide (0 < (ln : Int)) = true := by simp; omega
        clear hm5 hg5
        generalize putFn f (.int .i64 i) (.bool true) = f3 at *
        have z1 := HN3.out.cell 1
        simp only [zzg, zzi, zzj] at z1
        go_wp2
        go_loopg [36] ln (fun g v wx => ∃ (k : Nat) (f4 : Value → Option Value), k + g = ln ∧ v = .int .i64 k ∧ MapAt Tryz.prog 3 wx (w.heap.size + 1) (4 * i + 1 + k) f4 ∧ MarkF (fun x => (Mark T i x ∨ SelfM n i x) ∨ ArgM T n k x) f4 ∧ Blk wx w.heap.size 33 #[.slice (some ⟨b, off, none⟩) T.length c] ∧ Blk wx wo.heap.size 51 #[.int .i8 13, .int .i8 (ln : Int), .int .i64 n.a0, .int .i64 n.a1, .int .i64 n.a2, .int .i64 1, .int .i64 n.fn, .int .i64 n.num] ∧ Below w.heap.size w wx)
        case atStart => exact ⟨0, _, by omega, rfl, HM3.out, HF3.out.congr fun x => ⟨fun h => h.resolve_right (ArgM.zero T n x), .inl⟩, HT3.out, HN3.out, HB3.out⟩
        case round =>
          obtain ⟨k, f4, hkg, rfl, hmp, hmk, hbt, hnb, hb⟩ := hrel
          have HM4 := zzh hmp
          have HF4 := zzh hmk
          have HT4 := zzh hbt
          have HN4 := zzh hnb
          have HB4 := zzh hb
          have c4 := hbt.cell 0
          simp only [zzg, zzi] at c4
          clear hmp hmk hbt hnb hb
          cases gk with
          | zero =>
            obtain rfl : k = ln := by omega
            have d4 : decide ((k : Int) < (k : Int)) = false := by simp
            go_wp2
            go_roundg go
            case measure => omega
            case rel => exact ⟨i + 1, f4, by omega, by go_num, HM4.out.mono (by omega), HF4.out.congr HMS.out, HT4.out, HB4.out⟩
          | succ g2 =>
            have hkl : k < ln := by omega
            have d4 : decide ((k : Int) < (ln : Int)) = true := by simp; omega
            have hk3 : k < 3 := by omega
            have hnd : NdAt wr wo.heap.size 0 n := ⟨HN4.out.lt, fun j hj => by rw [HN4.out.cell, zzg, Nat.zero_add]; simp only [nodeCells, HOV.out, HLN.out, HSV.out], HWf.out⟩
            have z2 := hnd.arg k hk3
            simp only [Nat.zero_add] at z2
            have harg := (HST.out.args k hk3).1 (by rw [HLN.out]; omega)
            obtain ⟨av, hav⟩ : ∃ av : Nat, n.arg k = av := ⟨(n.arg k).toNat, by omega⟩
            have hav2 : av < T.length := by omega
            rw [hav] at z2
            have HAV := zzh hav
            obtain ⟨b5, off5, hA5, hbb5, hcell5⟩ := (H.out.below HB4.out).at_.resolve_left (by omega)
            obtain ⟨rfl, rfl⟩ : b = b5 ∧ off = off5 := by simp at hA5; exact hA5
            obtain ⟨q0, q1, q2, q3, q4, q5, q6, q7⟩ := (hcell5 av hav2).all
            have HSN : Hid ((ndAt T av).sort = T[av].sort) := zzh (by rw [ndAt_nat hav2])
            have u1 : (0 : Int) ≤ (av : Int) := by omega
            have u2 : (av : Int) < (T.length : Int) := by omega
            have tk1 : (0 : Int) ≤ (k : Int) := by omega
            have tk2 : (k : Int) < (ln : Int) := by omega
            have tk3 : (2 : Int) + (k : Int) < 5 := by omega
            clear hnd hav harg hA5 hbb5 hcell5
            generalize T[av] = m at *
            by_cases sm : m.sort = 1
            · rw [sm] at q5
              obtain ⟨w6, hrun6, hm6, hg6⟩ := HM4.out.store int_key Tryz.underlying140 (by unfold maxLen; omega) (int_key_of (x := (av : Int)) (by omega) (by omega)) (.bool true) (g := putFn f4 (.int .i64 av) (.bool true)) (putFn_at _ _ _) (fun y hy => putFn_far _ _ _ y hy)
              have HM6 := zzh hm6
              have HT6 := zzh (HT4.out.grown hg6 (by simp))
              have HN6 := zzh (HN4.out.grown hg6 (by have := HLT.out; simp; omega))
              have HB6 : Hid (Below w.heap.size w w6) := zzh (Below.grown HB4.out hg6 HB4.out.size (fun k e => by injection e with e; omega))
              have HSM := zzh sm
              clear hm6 hg6 sm
              go_wp2
              go_roundg g2
              case measure => omega
              case rel => exact ⟨k + 1, _, by omega, by go_num, HM6.out.mono (by omega), (HF4.out.put av).congr fun x => by rw [ArgM.step, ← or_assoc, HAV.out]; exact or_congr Iff.rfl ⟨fun h => h.1.symm, fun h => ⟨h.symm, by rw [h, HSN.out]; exact HSM.out⟩⟩, HT6.out, HN6.out, HB6.out⟩
            · have e5 : (m.sort == 1) = false := by simp [sm]
              have HSM := zzh sm
              clear sm
              go_wp2
              go_roundg g2
              case measure => omega
              case rel => exact ⟨k + 1, f4, by omega, by go_num, HM4.out.mono (by omega), HF4.out.congr fun x => by rw [ArgM.step, ← or_assoc]; exact ⟨fun h => h.resolve_right fun h => HSM.out (by rw [← HSN.out, ← HAV.out, h.1]; exact h.2), .inl⟩, HT4.out, HN4.out, HB4.out⟩
      · have HF3 : Hid (MarkF (fun x => Mark T i x ∨ SelfM n i x) f) := zzh (HF.out.congr fun x => ⟨fun h => h.resolve_right fun h => hs ⟨by have := h.1; rw [HLN.out] at this; omega, by rw [← HSV.out]; exact h.2.1⟩, .inl⟩)
        have HM3 := zzh (HM2.out.mono (show 4 * i ≤ 4 * i + 1 by omega))
        have HT3 := HT2
        have HN3 := HN2
        have HB3 := HB2
        have hcase : ln = 0 ∨ (0 < ln ∧ sv ≠ 1) := by omega
        rcases hcase with h0 | ⟨h0, h1⟩
        · have e1 : decide (0 < (ln : Int)) = false := by simp; omega
          have e1' : decide (0 < ln) = false := by simp; omega
          clear hs h0
          go_wp2
          go_loopg [36] ln (fun g v wx => ∃ (k : Nat) (f4 : Value → Option Value), k + g = ln ∧ v = .int .i64 k ∧ MapAt Tryz.prog 3 wx (w.heap.size + 1) (4 * i + 1 + k) f4 ∧ MarkF (fun x => (Mark T i x ∨ SelfM n i x) ∨ ArgM T n k x) f4 ∧ Blk wx w.heap.size 33 #[.slice (some ⟨b, off, none⟩) T.length c] ∧ Blk wx wo.heap.size 51 #[.int .i8 13, .int .i8 (ln : Int), .int .i64 n.a0, .int .i64 n.a1, .int .i64 n.a2, .int .i64 sv, .int .i64 n.fn, .int .i64 n.num] ∧ Below w.heap.size w wx)
          case atStart => exact ⟨0, _, by omega, rfl, HM3.out, HF3.out.congr fun x => ⟨fun h => h.resolve_right (ArgM.zero T n x), .inl⟩, HT3.out, HN3.out, HB3.out⟩
          case round =>
            obtain ⟨k, f4, hkg, rfl, hmp, hmk, hbt, hnb, hb⟩ := hrel
            have HM4 := zzh hmp
            have HF4 := zzh hmk
            have HT4 := zzh hbt
            have HN4 := zzh hnb
            have HB4 := zzh hb
            have c4 := hbt.cell 0
            simp only [zzg, zzi] at c4
            clear hmp hmk hbt hnb hb
            cases gk with
            | zero =>
              obtain rfl : k = ln := by omega
              have d4 : decide ((k : Int) < (k : Int)) = false := by simp
              go_wp2
              go_roundg go
              case measure => omega
              case rel => exact ⟨i + 1, f4, by omega, by go_num, HM4.out.mono (by omega), HF4.out.congr HMS.out, HT4.out, HB4.out⟩
            | succ g2 =>
              have hkl : k < ln := by omega
              have d4 : decide ((k : Int) < (ln : Int)) = true := by simp; omega
              have hk3 : k < 3 := by omega
              have hnd : NdAt wr wo.heap.size 0 n := ⟨HN4.out.lt, fun j hj => by rw [HN4.out.cell, zzg, Nat.zero_add]; simp only [nodeCells, HOV.out, HLN.out, HSV.out], HWf.out⟩
              have z2 := hnd.arg k hk3
              simp only [Nat.zero_add] at z2
              have harg := (HST.out.args k hk3).1 (by rw [HLN.out]; omega)
              obtain ⟨av, hav⟩ : ∃ av : Nat, n.arg k = av := ⟨(n.arg k).toNat, by omega⟩
              have hav2 : av < T.length := by omega
              rw [hav] at z2
              have HAV := zzh hav
              obtain ⟨b5, off5, hA5, hbb5, hcell5⟩ := (H.out.below HB4.out).at_.resolve_left (by omega)
              obtain ⟨rfl, rfl⟩ : b = b5 ∧ off = off5 := by simp at hA5; exact hA5
              obtain ⟨q0, q1, q2, q3, q4, q5, q6, q7⟩ := (hcell5 av hav2).all
              have HSN : Hid ((ndAt T av).sort = T[av].sort) := zzh (by rw [ndAt_nat hav2])
              have u1 : (0 : Int) ≤ (av : Int) := by omega
              have u2 : (av : Int) < (T.length : Int) := by omega
              have tk1 : (0 : Int) ≤ (k : Int) := by omega
              have tk2 : (k : Int) < (ln : Int) := by omega
              have tk3 : (2 : Int) + (k : Int) < 5 := by omega
              clear hnd hav harg hA5 hbb5 hcell5
              generalize T[av] = m at *
              by_cases sm : m.sort = 1
              · rw [sm] at q5
                obtain ⟨w6, hrun6, hm6, hg6⟩ := HM4.out.store int_key Tryz.underlying140 (by unfold maxLen; omega) (int_key_of (x := (av : Int)) (by omega) (by omega)) (.bool true) (g := putFn f4 (.int .i64 av) (.bool true)) (putFn_at _ _ _) (fun y hy => putFn_far _ _ _ y hy)
                have HM6 := zzh hm6
                have HT6 := zzh (HT4.out.grown hg6 (by simp))
                have HN6 := zzh (HN4.out.grown hg6 (by have := HLT.out; simp; omega))
                have HB6 : Hid (Below w.heap.size w w6) := zzh (Below.grown HB4.out hg6 HB4.out.size (fun k e => by injection e with e; omega))
                have HSM := zzh sm
                clear hm6 hg6 sm
                go_wp2
                go_roundg g2
                case measure => omega
                case rel => exact ⟨k + 1, _, by omega, by go_num, HM6.out.mono (by omega), (HF4.out.put av).congr fun x => by rw [ArgM.step, ← or_assoc, HAV.out]; exact or_congr Iff.rfl ⟨fun h => h.1.symm, fun h => ⟨h.symm, by rw [h, HSN.out]; exact HSM.out⟩⟩, HT6.out, HN6.out, HB6.out⟩
              · have e5 : (m.sort == 1) = false := by simp [sm]
                have HSM := zzh sm
                clear sm
                go_wp2
                go_roundg g2
                case measure => omega
                case rel => exact ⟨k + 1, f4, by omega, by go_num, HM4.out.mono (by omega), HF4.out.congr fun x => by rw [ArgM.step, ← or_assoc]; exact ⟨fun h => h.resolve_right fun h => HSM.out (by rw [← HSN.out, ← HAV.out, h.1]; exact h.2), .inl⟩, HT4.out, HN4.out, HB4.out⟩
        · have e1 : decide (0 < (ln : Int)) = true := by simp; omega
          have e2 : (sv == 1) = false := by simp [h1]
          clear hs
          go_wp2
          go_loopg [36] ln (fun g v wx => ∃ (k : Nat) (f4 : Value → Option Value), k + g = ln ∧ v = .int .i64 k ∧ MapAt Tryz.prog 3 wx (w.heap.size + 1) (4 * i + 1 + k) f4 ∧ MarkF (fun x => (Mark T i x ∨ SelfM n i x) ∨ ArgM T n k x) f4 ∧ Blk wx w.heap.size 33 #[.slice (some ⟨b, off, none⟩) T.length c] ∧ Blk wx wo.heap.size 51 #[.int .i8 13, .int .i8 (ln : Int), .int .i64 n.a0, .int .i64 n.a1, .int .i64 n.a2, .int .i64 sv, .int .i64 n.fn, .int .i64 n.num] ∧ Below w.heap.size w wx)
          case atStart => exact ⟨0, _, by omega, rfl, HM3.out, HF3.out.congr fun x => ⟨fun h => h.resolve_right (ArgM.zero T n x), .inl⟩, HT3.out, HN3.out, HB3.out⟩
          case round =>
            obtain ⟨k, f4, hkg, rfl, hmp, hmk, hbt, hnb, hb⟩ := hrel
            have HM4 := zzh hmp
            have HF4 := zzh hmk
            have HT4 := zzh hbt
            have HN4 := zzh hnb
            have HB4 := zzh hb
            have c4 := hbt.cell 0
            simp only [zzg, zzi] at c4
            clear hmp hmk hbt hnb hb
            cases gk with
            | zero =>
              obtain rfl : k = ln := by omega
              have d4 : decide ((k : Int) < (k : Int)) = false := by simp
              go_wp2
              go_roundg go
              case measure => omega
              case rel => exact ⟨i + 1, f4, by omega, by go_num, HM4.out.mono (by omega), HF4.out.congr HMS.out, HT4.out, HB4.out⟩
            | succ g2 =>
              have hkl : k < ln := by omega
              have d4 : decide ((k : Int) < (ln : Int)) = true := by simp; omega
              have hk3 : k < 3 := by omega
              have hnd : NdAt wr wo.heap.size 0 n := ⟨HN4.out.lt, fun j hj => by rw [HN4.out.cell, zzg, Nat.zero_add]; simp only [nodeCells, HOV.out, HLN.out, HSV.out], HWf.out⟩
              have z2 := hnd.arg k hk3
              simp only [Nat.zero_add] at z2
              have harg := (HST.out.args k hk3).1 (by rw [HLN.out]; omega)
              obtain ⟨av, hav⟩ : ∃ av : Nat, n.arg k = av := ⟨(n.arg k).toNat, by omega⟩
              have hav2 : av < T.length := by omega
              rw [hav] at z2
              have HAV := zzh hav
              obtain ⟨b5, off5, hA5, hbb5, hcell5⟩ := (H.out.below HB4.out).at_.resolve_left (by omega)
              obtain ⟨rfl, rfl⟩ : b = b5 ∧ off = off5 := by simp at hA5; exact hA5
              obtain ⟨q0, q1, q2, q3, q4, q5, q6, q7⟩ := (hcell5 av hav2).all
              have HSN : Hid ((ndAt T av).sort = T[av].sort) := zzh (by rw [ndAt_nat hav2])
              have u1 : (0 : Int) ≤ (av : Int) := by omega
              have u2 : (av : Int) < (T.length : Int) := by omega
              have tk1 : (0 : Int) ≤ (k : Int) := by omega
              have tk2 : (k : Int) < (ln : Int) := by omega
              have tk3 : (2 : Int) + (k : Int) < 5 := by omega
              clear hnd hav harg hA5 hbb5 hcell5
              generalize T[av] = m at *
              by_cases sm : m.sort = 1
              · rw [sm] at q5
                obtain ⟨w6, hrun6, hm6, hg6⟩ := HM4.out.store int_key Tryz.underlying140 (by unfold maxLen; omega) (int_key_of (x := (av : Int)) (by omega) (by omega)) (.bool true) (g := putFn f4 (.int .i64 av) (.bool true)) (putFn_at _ _ _) (fun y hy => putFn_far _ _ _ y hy)
                have HM6 := zzh hm6
                have HT6 := zzh (HT4.out.grown hg6 (by simp))
                have HN6 := zzh (HN4.out.grown hg6 (by have := HLT.out; simp; omega))
                have HB6 : Hid (Below w.heap.size w w6) := zzh (Below.grown HB4.out hg6 HB4.out.size (fun k e => by injection e with e; omega))
                have HSM := zzh sm
                clear hm6 hg6 sm
                go_wp2
                go_roundg g2
                case measure => omega
                case rel => exact ⟨k + 1, _, by omega, by go_num, HM6.out.mono (by omega), (HF4.out.put av).congr fun x => by rw [ArgM.step, ← or_assoc, HAV.out]; exact or_congr Iff.rfl ⟨fun h => h.1.symm, fun h => ⟨h.symm, by rw [h, HSN.out]; exact HSM.out⟩⟩, HT6.out, HN6.out, HB6.out⟩
              · have e5 : (m.sort == 1) = false := by simp [sm]
                have HSM := zzh sm
                clear sm
                go_wp2
                go_roundg g2
                case measure => omega
                case rel => exact ⟨k + 1, f4, by omega, by go_num, HM4.out.mono (by omega), HF4.out.congr fun x => by rw [ArgM.step, ← or_assoc]; exact ⟨fun h => h.resolve_right fun h => HSM.out (by rw [← HSN.out, ← HAV.out, h.1]; exact h.2), .inl⟩, HT4.out, HN4.out, HB4.out⟩
end Go.Proofs.YtlipnnibagidiaaGreat

/- Bases, own ones, equalities of Ints: share.base, share.own, share.ints. -/
import Derived.Test.YtlipnnibagidiaaGreatOfE
namespace Go.Proofs.YtlipnnibagidiaaGreat
open Go.RowKit Go.Lib
def BoolIs (r : Bool) (w : World) (e : Ending) (w' : World) : Prop := e = .returned (.bool r) ∧ Below w.heap.size w w'
def BaseIs (r : Int × Int) (w : World) (e : Ending) (w' : World) : Prop := e = .returned (.tuple #[.int .i64 r.1, .int .i64 r.2]) ∧ Below w.heap.size w w'
set_option maxRecDepth 100000 in
set_option maxHeartbeats 4000000 in
theorem sbase_ok {T : List Nd} {w : World} {A : Option Addr} (c k : Nat) (hk : k < T.length) (h : Tab w A T) :
    Calls Tryz.prog 150 #[.agg #[.slice A T.length c], .int .i64 (k : Nat)] w (BaseIs (baseT T k) w) := by
  obtain ⟨b, off, hA, hbb, hcell⟩ := h.at_.resolve_left (by omega)
  subst hA
  have HB0 := zzh (show Below w.heap.size w (w.alloc (.cells #[.slice (some ⟨b, off, none⟩) T.length c] 33)) from (Below.refl _ w).alloc (Nat.le_refl _) _)
  have hm := (hcell k hk).below HB0.out
  have hnd : ndAt T k = T[k] := ndAt_nat hk
  have g1 : (0 : Int) ≤ (k : Int) := by omega
  have g2 : (k : Int) < (T.length : Int) := by omega
  have HR : Hid (baseT T k = if T[k].op = 11 then (T[k].a0, T[k].num) else if T[k].op = 10 then (1, T[k].num) else ((k : Int), 0)) := zzh (by unfold baseT; rw [hnd])
  generalize T[k] = m at *
  obtain ⟨z0, z1, z2, z3, z4, z5, z6, z7⟩ := hm.all
  clear hm hcell hbb hnd h hk
  by_cases q0 : m.op = 10
  · rw [q0] at z0
    have HS : Hid (baseT T k = (1, m.num)) := zzh (by rw [HR.out, if_neg (by omega), if_pos q0])
    clear q0
    go_enter Tryz.func150, Tryz.ntmps150
    go_wp2
    go_quiet (fail)
    go_wp2
    go_ret2
    rw [HS.out]
    exact ⟨rfl, below_drewN (HB0.out.alloc (by simp) _) _⟩
  · have e0 : (m.op == 10) = false := by simp [q0]
    by_cases q1 : m.op = 11
    · rw [q1] at z0
      have HS : Hid (baseT T k = (m.a0, m.num)) := zzh (by rw [HR.out, if_pos q1])
      clear q0 q1
      go_enter Tryz.func150, Tryz.ntmps150
      go_wp2
      go_quiet (fail)
      go_wp2
      go_ret2
      rw [HS.out]
      exact ⟨rfl, below_drewN (HB0.out.alloc (by simp) _) _⟩
    · have e1 : (m.op == 11) = false := by simp [q1]
      have HS : Hid (baseT T k = ((k : Int), 0)) := zzh (by rw [HR.out, if_neg q1, if_neg q0])
      clear q0 q1
      go_enter Tryz.func150, Tryz.ntmps150
      go_wp2
      go_ret2
      rw [HS.out]
      exact ⟨rfl, HB0.out.alloc (by simp) _⟩
set_option maxRecDepth 100000 in
set_option maxHeartbeats 4000000 in
theorem sown_ok {T : List Nd} {w : World} {A : Option Addr} (c k : Nat) (hk : k < T.length) (h : Tab w A T) :
    Calls Tryz.prog 135 #[.agg #[.slice A T.length c], .int .i64 (k : Nat)] w (BoolIs (ownB T k) w) := by
  have HB0 := zzh (show Below w.heap.size w (w.alloc (.cells #[.slice A T.length c] 33)) from (Below.refl _ w).alloc (Nat.le_refl _) _)
  have HBL := zzh (show Blk (w.alloc (.cells #[.slice A T.length c] 33)) w.heap.size 33 #[.slice A T.length c] from Blk.new w _ _)
  have HL1 : Hid (w.heap.size < (w.alloc (.cells #[.slice A T.length c] 33)).heap.size) := zzh (by simp)
  have HK := zzh hk
  have H := zzh h
  clear h
  go_enter Tryz.func135, Tryz.ntmps135
  go_wp2_with fail
  refine (sbase_ok c k HK.out (H.out.below HB0.out)).mono ?_
  rintro e w1 ⟨rfl, hb⟩
  have HB1 : Hid (Below w.heap.size w w1) := zzh (HB0.out.trans (hb.mono (Nat.le_of_lt HL1.out)))
  have c0 := (HBL.out.below hb HL1.out).cell 0
  simp only [zzg, zzi] at c0
  obtain ⟨b, off, hA, hbb, hcell⟩ := (H.out.below HB1.out).at_.resolve_left (by omega)
  subst hA
  have hm := hcell k hk
  have hnd : ndAt T k = T[k] := ndAt_nat hk
  have g1 : (0 : Int) ≤ (k : Int) := by omega
  have g2 : (k : Int) < (T.length : Int) := by omega
  have HR : Hid (ownB T k = (decide ((baseT T k).1 = k) && decide (T[k].sort = 1))) := zzh (by unfold ownB; rw [hnd])
  generalize T[k] = m at *
  generalize (baseT T k).1 = x at *
  obtain ⟨z0, z1, z2, z3, z4, z5, z6, z7⟩ := hm.all
  clear hm hcell hbb hnd hk hb
  by_cases q0 : x = k
  · have e0 : (x == (k : Int)) = true := by simp [q0]
    go_wp2
    go_ret
    rw [HR.out]
    exact ⟨by rw [decide_eq_true q0]; rfl, HB1.out⟩
  · have e0 : (x == (k : Int)) = false := by simp [q0]
    go_wp2
    go_ret
    rw [HR.out]
    exact ⟨by rw [decide_eq_false q0]; rfl, HB1.out⟩
def intsB (T : List Nd) (n : Nd) : Bool := decide (n.op = 6) && decide ((ndAt T n.a0).sort = 1)
set_option maxRecDepth 100000 in
set_option maxHeartbeats 4000000 in
theorem sints_ok {T : List Nd} {w : World} {A : Option Addr} (c : Nat) (n : Nd) (hn : n.op = 6 → 0 ≤ n.a0 ∧ n.a0 < T.length) (h : Tab w A T) :
    Calls Tryz.prog 108 #[.agg #[.slice A T.length c], nodeVal n] w (BoolIs (intsB T n) w) := by
  have HB0 := zzh (show Below w.heap.size w ((w.alloc (.cells #[.slice A T.length c] 33)).alloc (.cells (nodeCells n).toArray 51)) from ((Below.refl _ w).alloc (Nat.le_refl _) _).alloc (by simp) _)
  simp only [nodeVal, nodeCells] at HB0 ⊢
  by_cases q : n.op = 6
  · obtain ⟨h0, h1⟩ := hn q
    obtain ⟨k, hk⟩ : ∃ k : Nat, n.a0 = k := ⟨n.a0.toNat, by omega⟩
    have hkT : k < T.length := by omega
    obtain ⟨b, off, hA, hbb, hcell⟩ := h.at_.resolve_left (by omega)
    subst hA
    have hm := (hcell k hkT).below HB0.out
    have hnd : ndAt T n.a0 = T[k] := by rw [hk, ndAt_nat hkT]
    have g1 : (0 : Int) ≤ (k : Int) := by omega
    have g2 : (k : Int) < (T.length : Int) := by omega
    have HR : Hid (intsB T n = decide (T[k].sort = 1)) := zzh (by unfold intsB; rw [hnd, decide_eq_true q]; rfl)
    generalize T[k] = m at *
    obtain ⟨z0, z1, z2, z3, z4, z5, z6, z7⟩ := hm.all
    rw [q, hk] at z0 z1 z2 z3 z4 z5 z6 z7 HB0 ⊢
    clear hm hcell hbb hnd h h0 h1 hn
    go_enter Tryz.func108, Tryz.ntmps108
    go_wp2
    go_ret
    rw [HR.out]
    exact ⟨rfl, HB0.out⟩
  · have e0 : (n.op == 6) = false := by simp [q]
    have HR : Hid (intsB T n = false) := zzh (by unfold intsB; rw [decide_eq_false q]; rfl)
    clear h hn
    go_enter Tryz.func108, Tryz.ntmps108
    go_wp2
    go_ret
    rw [HR.out]
    exact ⟨rfl, HB0.out⟩
end Go.Proofs.YtlipnnibagidiaaGreat

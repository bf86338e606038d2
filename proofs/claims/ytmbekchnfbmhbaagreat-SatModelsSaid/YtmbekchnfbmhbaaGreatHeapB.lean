/- Which node is ahead; two places changed. -/
import Derived.Test.YtmbekchnfbmhbaaGreatHeapA
import Derived.BigRegion
namespace Go.Proofs.YtmbekchnfbmhbaaGreat
open Go.RowKit Go.Lib

theorem ahead_raw {w : World} {bh ga ca : Nat} {vr vt : Value} {la : List Int} {a b : Int} {i k : Nat} (_hl : la.length ≤ 65536) (h : Blk w bh 68 #[.slice (some ⟨ga, 0, none⟩) la.length ca, vr, vt])
    (ca_ : w.cell? ⟨ga, i, none⟩ = some (.int .i64 a)) (cb_ : w.cell? ⟨ga, k, none⟩ = some (.int .i64 b)) (hi : i < la.length) (hk : k < la.length) :
    Calls Tryz.prog 49 #[.pointer (some ⟨bh, 0, none⟩), .int .i64 i, .int .i64 k] w fun e w' => e = .returned (.bool (decide (b < a) || (a == b && decide (i < k)))) ∧ ∃ q, w' = w.drewN q := by
  have b0 := h.cell 0
  simp only [List.getElem?_toArray, List.getElem?_cons_zero] at b0
  have t1 : (0 : Int) ≤ (i : Int) := by omega
  have t2 : (i : Int) < (la.length : Int) := by omega
  have t3 : (0 : Int) ≤ (k : Int) := by omega
  have t4 : (k : Int) < (la.length : Int) := by omega
  by_cases h1 : b < a
  · have d1 : decide (b < a) = true := decide_eq_true h1
    rw [d1]
    clear h h1
    go_enter Tryz.func49, Tryz.ntmps49
    go_wp2
    go_quiet (fail)
    go_wp2
    go_ret
    exact ⟨rfl, _, rfl⟩
  · have d1 : decide (b < a) = false := decide_eq_false h1
    rw [d1]
    by_cases h2 : a = b
    · subst h2
      have d2 : (a == a) = true := by simp
      rw [d2]
      clear h h1
      go_enter Tryz.func49, Tryz.ntmps49
      go_wp2
      go_quiet (fail)
      go_wp2
      go_ret
      exact ⟨rfl, _, rfl⟩
    · have d2 : (a == b) = false := by simp [h2]
      rw [d2]
      clear h h1 h2
      go_enter Tryz.func49, Tryz.ntmps49
      go_wp2
      go_quiet (fail)
      go_wp2
      go_ret
      exact ⟨rfl, _, rfl⟩

set_option maxRecDepth 100000 in
set_option maxHeartbeats 2000000 in
theorem swap_raw {w : World} {bh gr cr gt ct : Nat} {va : Value} {nr nt : Nat} {i k x y : Nat} {px py : Value} (hnr : nr ≤ 65536) (hnt : nt ≤ 65536) (h : Blk w bh 68 #[va, .slice (some ⟨gr, 0, none⟩) nr cr, .slice (some ⟨gt, 0, none⟩) nt ct])
    (ci : w.cell? ⟨gr, i, none⟩ = some (.int .i64 x)) (ck : w.cell? ⟨gr, k, none⟩ = some (.int .i64 y)) (fr : ∀ j, w.frozen? ⟨gr, j, none⟩ = false) (ft : ∀ j, w.frozen? ⟨gt, j, none⟩ = false)
    (cx : w.cell? ⟨gt, x, none⟩ = some px) (cy : w.cell? ⟨gt, y, none⟩ = some py) (hne : i ≠ k) (hxy : x ≠ y) (h1 : bh ≠ gr) (h2 : gr ≠ gt)
    (hi : i < nr) (hk : k < nr) (hx : x < nt) (hy : y < nt) :
    Calls Tryz.prog 50 #[.pointer (some ⟨bh, 0, none⟩), .int .i64 i, .int .i64 k] w fun e w' => e = .returned (.tuple #[]) ∧ ∃ q, w' = (((((w.setCell ⟨gr, i, none⟩ (.int .i64 y)).setCell ⟨gr, k, none⟩ (.int .i64 x)).setCell ⟨gt, y, none⟩ (.int .i64 i)).setCell ⟨gt, x, none⟩ (.int .i64 k))).drewN q := by
  have b1 := h.cell 1
  have b2 := h.cell 2
  simp only [List.getElem?_toArray, List.getElem?_cons_zero, List.getElem?_cons_succ] at b1 b2
  have t1 : (0 : Int) ≤ (i : Int) := by omega
  have t2 : (i : Int) < (nr : Int) := by omega
  have t3 : (0 : Int) ≤ (k : Int) := by omega
  have t4 : (k : Int) < (nr : Int) := by omega
  have t5 : (0 : Int) ≤ (x : Int) := by omega
  have t6 : (x : Int) < (nt : Int) := by omega
  have t7 : (0 : Int) ≤ (y : Int) := by omega
  have t8 : (y : Int) < (nt : Int) := by omega
  have fi := fr i
  have fk := fr k
  have k1 := ((h.far (p := ⟨gr, i, none⟩) h1 (.int .i64 y)).far (p := ⟨gr, k, none⟩) h1 (.int .i64 x))
  have n1 := k1.cell 1
  have n2 := k1.cell 2
  simp only [List.getElem?_toArray, List.getElem?_cons_zero, List.getElem?_cons_succ] at n1 n2
  have hc : ∀ (j : Nat) (u : Value), w.cell? ⟨gt, j, none⟩ = some u → ((w.setCell ⟨gr, i, none⟩ (.int .i64 y)).setCell ⟨gr, k, none⟩ (.int .i64 x)).cell? ⟨gt, j, none⟩ = some u := fun j u hu => by
    rw [World.cell?_of_block (w := w.setCell ⟨gr, i, none⟩ (.int .i64 y)) (Below.heap_setCell _ ⟨gr, k, none⟩ _ gt (Ne.symm h2)), World.cell?_of_block (w := w) (Below.heap_setCell _ ⟨gr, i, none⟩ _ gt (Ne.symm h2))]
    exact hu
  have hf : ∀ (j : Nat), ((w.setCell ⟨gr, i, none⟩ (.int .i64 y)).setCell ⟨gr, k, none⟩ (.int .i64 x)).frozen? ⟨gt, j, none⟩ = false := fun j => by
    rw [World.frozen?_of_block (w := w.setCell ⟨gr, i, none⟩ (.int .i64 y)) (Below.heap_setCell _ ⟨gr, k, none⟩ _ gt (Ne.symm h2)), World.frozen?_of_block (w := w) (Below.heap_setCell _ ⟨gr, i, none⟩ _ gt (Ne.symm h2))]
    exact ft j
  have n3 := hc x px cx
  have n4 := hc y py cy
  have n5 := hf x
  have n6 := hf y
  have n7 : ((w.setCell ⟨gr, i, none⟩ (.int .i64 y)).setCell ⟨gr, k, none⟩ (.int .i64 x)).cell? ⟨gr, i, none⟩ = some (.int .i64 y) := by
    go_simp
  have n8 : ((w.setCell ⟨gr, i, none⟩ (.int .i64 y)).setCell ⟨gr, k, none⟩ (.int .i64 x)).cell? ⟨gr, k, none⟩ = some (.int .i64 x) := by
    go_simp
  clear h hc hf k1 fr ft cx cy h1 h2
  go_enter Tryz.func50, Tryz.ntmps50
  go_wp2
  go_region
  generalize hW : (w.setCell ⟨gr, i, none⟩ (.int .i64 y)).setCell ⟨gr, k, none⟩ (.int .i64 x) = w1 at *
  have HW := Lib.hid hW
  clear hW ci ck b1 b2 fi fk
  go_wp2
  go_region
  go_end0
  have e := HW.out
  subst e
  exact ⟨rfl, 2, rfl⟩
end Go.Proofs.YtmbekchnfbmhbaaGreat

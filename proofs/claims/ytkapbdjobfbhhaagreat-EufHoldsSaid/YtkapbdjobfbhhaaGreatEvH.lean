/- gantrylaw23.wakes. -/
import Derived.Test.YtkapbdjobfbhhaaGreatEvB
import Derived.Laws.IdiomCopy
import Derived.Laws.OwnMore
namespace Go.Proofs.YtkapbdjobfbhhaaGreat
open Go.RowKit Go.Lib
def inB (n : Nat) (x : Int) : Bool := decide (0 ≤ x) && decide (x < n)
theorem inB_iff {n : Nat} {x : Int} : inB n x = true ↔ 0 ≤ x ∧ x < n := by
  unfold inB
  simp
def oneL (cs : List Int) (a b : Int) : Bool := inB cs.length a && inB cs.length b && (atC cs a == atC cs b)
theorem isf_ok {w : World} {bx : Nat} {A : Option Addr} {n c : Nat} (h : Blk w bx 27 #[.slice A n c]) (x : Int) :
    Calls Tryz.prog 31 #[.int .i64 x, .pointer (some ⟨bx, 0, none⟩)] w fun e w' => e = .returned (.bool (inB n x)) ∧ w = w' := by
  have c0 := h.cell 0
  have hl := h.lt
  simp only [List.getElem?_toArray, List.getElem?_cons_zero] at c0
  clear h
  unfold inB
  by_cases h0 : 0 ≤ x
  · have d0 := decide_eq_true h0
    rw [d0, Bool.true_and]
    obtain ⟨r, hr⟩ : ∃ r, decide (x < n) = r := ⟨_, rfl⟩
    rw [hr]
    clear h0
    go_enter Tryz.func31, Tryz.ntmps31
    go_wp2
    go_ret
    exact ⟨rfl, rfl⟩
  · have d0 := decide_eq_false h0
    rw [d0, Bool.false_and]
    clear h0
    go_enter Tryz.func31, Tryz.ntmps31
    go_wp2
    go_ret
    exact ⟨rfl, rfl⟩
set_option maxRecDepth 100000 in
set_option maxHeartbeats 2000000 in
theorem one_fn {w : World} {A : Option Addr} {cs : List Int} (cap : Nat) (hr : Row w A cs) (a b : Int) :
    Calls Tryz.prog 17 #[.slice A cs.length cap, .int .i64 a, .int .i64 b] w fun e w' => e = .returned (.bool (oneL cs a b)) ∧ Below w.heap.size w w' := by
  have HB := Lib.hid (show Below w.heap.size w (w.alloc (.cells #[.slice A cs.length cap] 27)) from (Below.refl _ w).alloc (Nat.le_refl _) _)
  have HX := Lib.hid (Blk.new w 27 #[.slice A cs.length cap])
  have HR := Lib.hid (hr.below HB.out)
  have KA : Hid (∀ W x, Below (w.heap.size + 1) (w.alloc (.cells #[.slice A cs.length cap] 27)) W → Calls Tryz.prog 31 #[.int .i64 x, .pointer (some ⟨w.heap.size, 0, none⟩)] W fun e w' => e = .returned (.bool (inB cs.length x)) ∧ W = w') := Lib.hid fun W x hW => isf_ok (HX.out.below hW (Nat.lt_succ_self _)) x
  have hlen := hr.len
  clear hr
  unfold oneL
  obtain ⟨ia, hia⟩ : ∃ ia, inB cs.length a = ia := ⟨_, rfl⟩
  obtain ⟨ib, hib⟩ : ∃ ib, inB cs.length b = ib := ⟨_, rfl⟩
  rw [hia, hib]
  have K1 : Hid (∀ W, Below (w.heap.size + 1) (w.alloc (.cells #[.slice A cs.length cap] 27)) W → Calls Tryz.prog 31 #[.int .i64 a, .pointer (some ⟨w.heap.size, 0, none⟩)] W fun e w' => e = .returned (.bool ia) ∧ W = w') := Lib.hid fun W hW => hia ▸ KA.out W a hW
  have K2 : Hid (∀ W, Below (w.heap.size + 1) (w.alloc (.cells #[.slice A cs.length cap] 27)) W → Calls Tryz.prog 31 #[.int .i64 b, .pointer (some ⟨w.heap.size, 0, none⟩)] W fun e w' => e = .returned (.bool ib) ∧ W = w') := Lib.hid fun W hW => hib ▸ KA.out W b hW
  have HIA := Lib.hid hia
  have HIB := Lib.hid hib
  clear hia hib KA
  obtain ⟨W0, hW0⟩ : ∃ W0, w.alloc (.cells #[.slice A cs.length cap] 27) = W0 := ⟨_, rfl⟩
  cases ia with
  | false =>
    rw [Bool.false_and, Bool.false_and]
    clear hW0
    go_enter Tryz.func17, Tryz.ntmps17
    go_upto_region 2 with (fail)
    refine wp_region_quiet (C := fun w' => Below (w.heap.size + 1) (w.alloc (.cells #[.slice A cs.length cap] 27)) w') (by kernel_rfl) (by kernel_rfl) (⟨rfl, rfl, rfl, Nat.le_refl _, fun _ _ => rfl⟩) ?_
    refine QW.lit ?_
    refine qw_want rfl ?_ (fun w' hw' => ?_) ?_
    rotate_left
    · unfold Oper.quietAt
      go_simp
      exact rfl
    simp only [Act.put, List.setIfInBounds_toArray, List.set_cons_succ, List.set_cons_zero]
    refine qw_want rfl ?_ (fun w' hw' => ?_) ?_
    rotate_left
    · unfold Oper.quietAt
      go_simp
      exact rfl
    simp only [Act.put, List.setIfInBounds_toArray, List.set_cons_succ, List.set_cons_zero]
    refine qw_want rfl (.bool false) (fun w' hw' => ?_) ?_
    · unfold Oper.quietAt
      go_simp
      refine (K1.out w' hw').mono ?_
      rintro e w2 ⟨rfl, rfl⟩
      exact ⟨rfl, hw'⟩
    simp only [Act.put, List.setIfInBounds_toArray, List.set_cons_succ, List.set_cons_zero]
    refine qw_want rfl ?_ (fun w' hw' => ?_) ?_
    rotate_left
    · unfold Oper.quietAt
      go_simp
      exact rfl
    simp only [Act.put, List.setIfInBounds_toArray, List.set_cons_succ, List.set_cons_zero]
    refine qw_skip (by rfl) ?_
    simp only [Act.put, List.setIfInBounds_toArray, List.set_cons_succ, List.set_cons_zero]
    refine qw_skip (by rfl) ?_
    simp only [Act.put, List.setIfInBounds_toArray, List.set_cons_succ, List.set_cons_zero]
    refine qw_skip (by rfl) ?_
    simp only [Act.put, List.setIfInBounds_toArray, List.set_cons_succ, List.set_cons_zero]
    refine qw_want rfl ?_ (fun w' hw' => ?_) ?_
    rotate_left
    · unfold Oper.quietAt
      go_simp
      exact rfl
    simp only [Act.put, List.setIfInBounds_toArray, List.set_cons_succ, List.set_cons_zero]
    refine qw_want rfl ?_ (fun w' hw' => ?_) ?_
    rotate_left
    · unfold Oper.quietAt
      go_simp
      exact rfl
    simp only [Act.put, List.setIfInBounds_toArray, List.set_cons_succ, List.set_cons_zero]
    refine qw_skip (by rfl) ?_
    simp only [Act.put, List.setIfInBounds_toArray, List.set_cons_succ, List.set_cons_zero]
    refine qw_skip (by rfl) ?_
    simp only [Act.put, List.setIfInBounds_toArray, List.set_cons_succ, List.set_cons_zero]
    refine qw_skip (by rfl) ?_
    simp only [Act.put, List.setIfInBounds_toArray, List.set_cons_succ, List.set_cons_zero]
    refine qw_skip (by rfl) ?_
    simp only [Act.put, List.setIfInBounds_toArray, List.set_cons_succ, List.set_cons_zero]
    refine qw_skip (by rfl) ?_
    simp only [Act.put, List.setIfInBounds_toArray, List.set_cons_succ, List.set_cons_zero]
    refine qw_skip (by rfl) ?_
    simp only [Act.put, List.setIfInBounds_toArray, List.set_cons_succ, List.set_cons_zero]
    refine qw_skip (by rfl) ?_
    simp only [Act.put, List.setIfInBounds_toArray, List.set_cons_succ, List.set_cons_zero]
    refine qw_skip (by rfl) ?_
    simp only [Act.put, List.setIfInBounds_toArray, List.set_cons_succ, List.set_cons_zero]
    refine qw_skip (by rfl) ?_
    simp only [Act.put, List.setIfInBounds_toArray, List.set_cons_succ, List.set_cons_zero]
    refine qw_want rfl ?_ (fun w' hw' => ?_) ?_
    rotate_left
    · unfold Oper.quietAt
      go_simp
      exact rfl
    simp only [Act.put, List.setIfInBounds_toArray, List.set_cons_succ, List.set_cons_zero]
    refine qw_want rfl ?_ (fun w' hw' => ?_) ?_
    rotate_left
    · unfold Oper.quietAt
      go_simp
      exact rfl
    simp only [Act.put, List.setIfInBounds_toArray, List.set_cons_succ, List.set_cons_zero]
    refine qw_end (fun w5 hb5 => ?_)
    go_wp2
    go_ret
    exact ⟨rfl, HB.out.trans (hb5.mono (Nat.le_succ _))⟩
  | true =>
    cases ib with
    | false =>
      rw [Bool.true_and, Bool.false_and]
      clear hW0
      go_enter Tryz.func17, Tryz.ntmps17
      go_upto_region 2 with (fail)
      refine wp_region_quiet (C := fun w' => Below (w.heap.size + 1) (w.alloc (.cells #[.slice A cs.length cap] 27)) w') (by kernel_rfl) (by kernel_rfl) (⟨rfl, rfl, rfl, Nat.le_refl _, fun _ _ => rfl⟩) ?_
      refine QW.lit ?_
      refine qw_want rfl ?_ (fun w' hw' => ?_) ?_
      rotate_left
      · unfold Oper.quietAt
        go_simp
        exact rfl
      simp only [Act.put, List.setIfInBounds_toArray, List.set_cons_succ, List.set_cons_zero]
      refine qw_want rfl ?_ (fun w' hw' => ?_) ?_
      rotate_left
      · unfold Oper.quietAt
        go_simp
        exact rfl
      simp only [Act.put, List.setIfInBounds_toArray, List.set_cons_succ, List.set_cons_zero]
      refine qw_want rfl (.bool true) (fun w' hw' => ?_) ?_
      · unfold Oper.quietAt
        go_simp
        refine (K1.out w' hw').mono ?_
        rintro e w2 ⟨rfl, rfl⟩
        exact ⟨rfl, hw'⟩
      simp only [Act.put, List.setIfInBounds_toArray, List.set_cons_succ, List.set_cons_zero]
      refine qw_want rfl ?_ (fun w' hw' => ?_) ?_
      rotate_left
      · unfold Oper.quietAt
        go_simp
        exact rfl
      simp only [Act.put, List.setIfInBounds_toArray, List.set_cons_succ, List.set_cons_zero]
      refine qw_want rfl ?_ (fun w' hw' => ?_) ?_
      rotate_left
      · unfold Oper.quietAt
        go_simp
        exact rfl
      simp only [Act.put, List.setIfInBounds_toArray, List.set_cons_succ, List.set_cons_zero]
      refine qw_want rfl ?_ (fun w' hw' => ?_) ?_
      rotate_left
      · unfold Oper.quietAt
        go_simp
        exact rfl
      simp only [Act.put, List.setIfInBounds_toArray, List.set_cons_succ, List.set_cons_zero]
      refine qw_want rfl (.bool false) (fun w' hw' => ?_) ?_
      · unfold Oper.quietAt
        go_simp
        refine (K2.out w' hw').mono ?_
        rintro e w2 ⟨rfl, rfl⟩
        exact ⟨rfl, hw'⟩
      simp only [Act.put, List.setIfInBounds_toArray, List.set_cons_succ, List.set_cons_zero]
      refine qw_want rfl ?_ (fun w' hw' => ?_) ?_
      rotate_left
      · unfold Oper.quietAt
        go_simp
        exact rfl
      simp only [Act.put, List.setIfInBounds_toArray, List.set_cons_succ, List.set_cons_zero]
      refine qw_want rfl ?_ (fun w' hw' => ?_) ?_
      rotate_left
      · unfold Oper.quietAt
        go_simp
        exact rfl
      simp only [Act.put, List.setIfInBounds_toArray, List.set_cons_succ, List.set_cons_zero]
      refine qw_skip (by rfl) ?_
      simp only [Act.put, List.setIfInBounds_toArray, List.set_cons_succ, List.set_cons_zero]
      refine qw_skip (by rfl) ?_
      simp only [Act.put, List.setIfInBounds_toArray, List.set_cons_succ, List.set_cons_zero]
      refine qw_skip (by rfl) ?_
      simp only [Act.put, List.setIfInBounds_toArray, List.set_cons_succ, List.set_cons_zero]
      refine qw_skip (by rfl) ?_
      simp only [Act.put, List.setIfInBounds_toArray, List.set_cons_succ, List.set_cons_zero]
      refine qw_skip (by rfl) ?_
      simp only [Act.put, List.setIfInBounds_toArray, List.set_cons_succ, List.set_cons_zero]
      refine qw_skip (by rfl) ?_
      simp only [Act.put, List.setIfInBounds_toArray, List.set_cons_succ, List.set_cons_zero]
      refine qw_skip (by rfl) ?_
      simp only [Act.put, List.setIfInBounds_toArray, List.set_cons_succ, List.set_cons_zero]
      refine qw_skip (by rfl) ?_
      simp only [Act.put, List.setIfInBounds_toArray, List.set_cons_succ, List.set_cons_zero]
      refine qw_skip (by rfl) ?_
      simp only [Act.put, List.setIfInBounds_toArray, List.set_cons_succ, List.set_cons_zero]
      refine qw_want rfl ?_ (fun w' hw' => ?_) ?_
      rotate_left
      · unfold Oper.quietAt
        go_simp
        exact rfl
      simp only [Act.put, List.setIfInBounds_toArray, List.set_cons_succ, List.set_cons_zero]
      refine qw_want rfl ?_ (fun w' hw' => ?_) ?_
      rotate_left
      · unfold Oper.quietAt
        go_simp
        exact rfl
      simp only [Act.put, List.setIfInBounds_toArray, List.set_cons_succ, List.set_cons_zero]
      refine qw_end (fun w5 hb5 => ?_)
      go_wp2
      go_ret
      exact ⟨rfl, HB.out.trans (hb5.mono (Nat.le_succ _))⟩
    | true =>
      rw [Bool.true_and, Bool.true_and]
      clear hW0
      have ha := inB_iff.1 HIA.out
      have hb := inB_iff.1 HIB.out
      obtain ⟨p, rfl⟩ : ∃ p : Nat, a = p := ⟨a.toNat, by omega⟩
      obtain ⟨q, rfl⟩ : ∃ q : Nat, b = q := ⟨b.toNat, by omega⟩
      have hp : p < cs.length := by omega
      have hq : q < cs.length := by omega
      rw [atC_nat hp, atC_nat hq]
      obtain ⟨bb, off, hA, hbb, hcell⟩ := HR.out.at_.resolve_left (by omega)
      subst hA
      have y0 := hcell p hp
      have y1 := hcell q hq
      have t1 : (0 : Int) ≤ (p : Int) := by omega
      have t2 : (p : Int) < (cs.length : Int) := by omega
      have t3 : (0 : Int) ≤ (q : Int) := by omega
      have t4 : (q : Int) < (cs.length : Int) := by omega
      generalize cs[p] = x at *
      generalize cs[q] = y at *
      have HBB : Hid (bb < w.heap.size + 1) := Lib.hid (by simpa using hbb)
      have HF : Hid (∀ w', Below (w.heap.size + 1) (w.alloc (.cells #[.slice (some ⟨bb, off, none⟩) cs.length cap] 27)) w' → w'.cell? ⟨w.heap.size, 0, none⟩ = some (.slice (some ⟨bb, off, none⟩) cs.length cap) ∧ w'.cell? ⟨bb, off + p, none⟩ = some (.int .i64 x) ∧ w'.cell? ⟨bb, off + q, none⟩ = some (.int .i64 y)) := Lib.hid fun w' hb => ⟨(hb.cell (p := ⟨w.heap.size, 0, none⟩) (Nat.lt_succ_self _)).trans (HX.out.cell 0), (hb.cell (p := ⟨bb, off + p, none⟩) HBB.out).trans y0, (hb.cell (p := ⟨bb, off + q, none⟩) HBB.out).trans y1⟩
      clear ha hb hcell y0 y1
      go_enter Tryz.func17, Tryz.ntmps17
      go_upto_region 2 with (fail)
      refine wp_region_quiet (C := fun w' => Below (w.heap.size + 1) (w.alloc (.cells #[.slice (some ⟨bb, off, none⟩) cs.length cap] 27)) w') (by kernel_rfl) (by kernel_rfl) (⟨rfl, rfl, rfl, Nat.le_refl _, fun _ _ => rfl⟩) ?_
      refine QW.lit ?_
      refine qw_want rfl ?_ (fun w' hw' => ?_) ?_
      rotate_left
      · unfold Oper.quietAt
        go_simp
        exact rfl
      simp only [Act.put, List.setIfInBounds_toArray, List.set_cons_succ, List.set_cons_zero]
      refine qw_want rfl ?_ (fun w' hw' => ?_) ?_
      rotate_left
      · unfold Oper.quietAt
        go_simp
        exact rfl
      simp only [Act.put, List.setIfInBounds_toArray, List.set_cons_succ, List.set_cons_zero]
      refine qw_want rfl (.bool true) (fun w' hw' => ?_) ?_
      · unfold Oper.quietAt
        go_simp
        refine (K1.out w' hw').mono ?_
        rintro e w2 ⟨rfl, rfl⟩
        exact ⟨rfl, hw'⟩
      simp only [Act.put, List.setIfInBounds_toArray, List.set_cons_succ, List.set_cons_zero]
      refine qw_want rfl ?_ (fun w' hw' => ?_) ?_
      rotate_left
      · unfold Oper.quietAt
        go_simp
        exact rfl
      simp only [Act.put, List.setIfInBounds_toArray, List.set_cons_succ, List.set_cons_zero]
      refine qw_want rfl ?_ (fun w' hw' => ?_) ?_
      rotate_left
      · unfold Oper.quietAt
        go_simp
        exact rfl
      simp only [Act.put, List.setIfInBounds_toArray, List.set_cons_succ, List.set_cons_zero]
      refine qw_want rfl ?_ (fun w' hw' => ?_) ?_
      rotate_left
      · unfold Oper.quietAt
        go_simp
        exact rfl
      simp only [Act.put, List.setIfInBounds_toArray, List.set_cons_succ, List.set_cons_zero]
      refine qw_want rfl (.bool true) (fun w' hw' => ?_) ?_
      · unfold Oper.quietAt
        go_simp
        refine (K2.out w' hw').mono ?_
        rintro e w2 ⟨rfl, rfl⟩
        exact ⟨rfl, hw'⟩
      simp only [Act.put, List.setIfInBounds_toArray, List.set_cons_succ, List.set_cons_zero]
      refine qw_want rfl ?_ (fun w' hw' => ?_) ?_
      rotate_left
      · unfold Oper.quietAt
        go_simp
        exact rfl
      simp only [Act.put, List.setIfInBounds_toArray, List.set_cons_succ, List.set_cons_zero]
      refine qw_want rfl ?_ (fun w' hw' => ?_) ?_
      rotate_left
      · unfold Oper.quietAt
        go_simp
        exact rfl
      simp only [Act.put, List.setIfInBounds_toArray, List.set_cons_succ, List.set_cons_zero]
      refine qw_want rfl ?_ (fun w' hw' => ?_) ?_
      rotate_left
      · obtain ⟨k0, k1, k2⟩ := HF.out w' hw'
        unfold Oper.quietAt
        go_simp
        exact rfl
      simp only [Act.put, List.setIfInBounds_toArray, List.set_cons_succ, List.set_cons_zero]
      refine qw_want rfl ?_ (fun w' hw' => ?_) ?_
      rotate_left
      · unfold Oper.quietAt
        go_simp
        exact rfl
      simp only [Act.put, List.setIfInBounds_toArray, List.set_cons_succ, List.set_cons_zero]
      refine qw_want rfl ?_ (fun w' hw' => ?_) ?_
      rotate_left
      · unfold Oper.quietAt
        go_simp
        exact rfl
      simp only [Act.put, List.setIfInBounds_toArray, List.set_cons_succ, List.set_cons_zero]
      refine qw_want rfl ?_ (fun w' hw' => ?_) ?_
      rotate_left
      · obtain ⟨k0, k1, k2⟩ := HF.out w' hw'
        unfold Oper.quietAt
        go_simp
        exact rfl
      simp only [Act.put, List.setIfInBounds_toArray, List.set_cons_succ, List.set_cons_zero]
      refine qw_want rfl ?_ (fun w' hw' => ?_) ?_
      rotate_left
      · obtain ⟨k0, k1, k2⟩ := HF.out w' hw'
        unfold Oper.quietAt
        go_simp
        exact rfl
      simp only [Act.put, List.setIfInBounds_toArray, List.set_cons_succ, List.set_cons_zero]
      refine qw_want rfl ?_ (fun w' hw' => ?_) ?_
      rotate_left
      · unfold Oper.quietAt
        go_simp
        exact rfl
      simp only [Act.put, List.setIfInBounds_toArray, List.set_cons_succ, List.set_cons_zero]
      refine qw_want rfl ?_ (fun w' hw' => ?_) ?_
      rotate_left
      · unfold Oper.quietAt
        go_simp
        exact rfl
      simp only [Act.put, List.setIfInBounds_toArray, List.set_cons_succ, List.set_cons_zero]
      refine qw_want rfl ?_ (fun w' hw' => ?_) ?_
      rotate_left
      · obtain ⟨k0, k1, k2⟩ := HF.out w' hw'
        unfold Oper.quietAt
        go_simp
        exact rfl
      simp only [Act.put, List.setIfInBounds_toArray, List.set_cons_succ, List.set_cons_zero]
      refine qw_want rfl ?_ (fun w' hw' => ?_) ?_
      rotate_left
      · unfold Oper.quietAt
        go_simp
        exact rfl
      simp only [Act.put, List.setIfInBounds_toArray, List.set_cons_succ, List.set_cons_zero]
      refine qw_want rfl ?_ (fun w' hw' => ?_) ?_
      rotate_left
      · unfold Oper.quietAt
        go_simp
        exact rfl
      simp only [Act.put, List.setIfInBounds_toArray, List.set_cons_succ, List.set_cons_zero]
      refine qw_want rfl ?_ (fun w' hw' => ?_) ?_
      rotate_left
      · unfold Oper.quietAt
        go_simp
        exact rfl
      simp only [Act.put, List.setIfInBounds_toArray, List.set_cons_succ, List.set_cons_zero]
      refine qw_end (fun w5 hb5 => ?_)
      go_wp2
      go_ret
      exact ⟨rfl, HB.out.trans (hb5.mono (Nat.le_succ _))⟩
end Go.Proofs.YtkapbdjobfbhhaaGreat
namespace Go.Proofs.YtkapbdjobfbhhaaGreat
def wakT : List Nd := [trueNd, zeroNd, ⟨13, 0, 0, 0, 0, 2, 0, 0⟩, ⟨13, 0, 0, 0, 0, 2, 1, 0⟩, ⟨13, 1, 2, 0, 0, 2, 2, 0⟩, ⟨13, 1, 3, 0, 0, 2, 2, 0⟩, ⟨6, 2, 2, 3, 0, 0, 0, 0⟩, ⟨6, 2, 4, 5, 0, 0, 0, 0⟩]
theorem wak_cases {i : Nat} {n : Nd} (h : wakT[i]? = some n) : i < 8 ∧ n = wakT.getD i default := by
  obtain ⟨h1, h2⟩ := List.getElem?_eq_some_iff.1 h
  refine ⟨by simpa [wakT] using h1, ?_⟩
  rw [List.getD_eq_getElem?_getD, h]
  rfl
theorem wak_stands : ∀ i : Nat, i < 8 → Stands (wakT.getD i default) i := by
  intro i hi
  have hc : i = 0 ∨ i = 1 ∨ i = 2 ∨ i = 3 ∨ i = 4 ∨ i = 5 ∨ i = 6 ∨ i = 7 := by omega
  have arg3 : ∀ (n : Nd) (a : Int), ((0 < n.len → 0 ≤ n.a0 ∧ n.a0 < a) ∧ (n.len ≤ 0 → n.a0 = 0)) → ((1 < n.len → 0 ≤ n.a1 ∧ n.a1 < a) ∧ (n.len ≤ 1 → n.a1 = 0)) → ((2 < n.len → 0 ≤ n.a2 ∧ n.a2 < a) ∧ (n.len ≤ 2 → n.a2 = 0)) → ∀ j : Nat, j < 3 → ((j : Int) < n.len → 0 ≤ n.arg j ∧ n.arg j < a) ∧ (n.len ≤ j → n.arg j = 0) := by
    intro n a h0 h1 h2 j hj
    match j, hj with
    | 0, _ => exact h0
    | 1, _ => exact h1
    | 2, _ => exact h2
  rcases hc with rfl | rfl | rfl | rfl | rfl | rfl | rfl | rfl
  all_goals
    refine ⟨?_, by decide, arg3 _ _ (by decide) (by decide) (by decide), by decide, by decide, by decide⟩
  · exact ⟨0, 0, rfl, by decide, by decide⟩
  · exact ⟨0, 0, rfl, by decide, by decide⟩
  · exact ⟨0, 3, rfl, by decide, by decide⟩
  · exact ⟨0, 3, rfl, by decide, by decide⟩
  · exact ⟨0, 3, rfl, by decide, by decide⟩
  · exact ⟨0, 3, rfl, by decide, by decide⟩
  · exact ⟨2, 2, rfl, by decide, by decide⟩
  · exact ⟨2, 2, rfl, by decide, by decide⟩
theorem wak_ok : TabOk wakT := by
  refine ⟨rfl, rfl, fun i n h => ?_, ?_⟩
  · obtain ⟨h1, rfl⟩ := wak_cases h
    exact wak_stands i h1
  · simp [wakT, trueNd, zeroNd]
theorem wak_may {x : Int} (h : x = 12 ∨ x = 15) : LitMay wakT x := by
  rcases h with rfl | rfl
  · exact ⟨by decide, by decide, fun n hn => by have : wakT[(12 / 2 : Int).toNat]? = some ⟨6, 2, 2, 3, 0, 0, 0, 0⟩ := rfl; rw [this] at hn; injection hn with hn; subst hn; decide⟩
  · exact ⟨by decide, by decide, fun n hn => by have : wakT[(15 / 2 : Int).toNat]? = some ⟨6, 2, 4, 5, 0, 0, 0, 0⟩ := rfl; rw [this] at hn; injection hn with hn; subst hn; decide⟩
theorem wak_mays {L : List Int} (h : ∀ x ∈ L, x = 12 ∨ x = 15) : MayLits wakT L := ⟨wak_ok, fun x hx => wak_may (h x hx)⟩
theorem wak_told {L : List Int} (h : (12 : Int) ∈ L) : told wakT L 12 := ⟨h, .inl (.inl (by decide))⟩
theorem wak_23 {L : List Int} (h : (12 : Int) ∈ L) : Cg wakT (told wakT L) 2 3 :=
  Cg.side (n := ⟨6, 2, 2, 3, 0, 0, 0, 0⟩) (wak_told h) (by decide) (.inl (by decide)) rfl
theorem wak_45 {L : List Int} (h : (12 : Int) ∈ L) : Cg wakT (told wakT L) 4 5 :=
  Cg.app (i := 4) (k := 5) (n := ⟨13, 1, 2, 0, 0, 2, 2, 0⟩) (m := ⟨13, 1, 3, 0, 0, 2, 2, 0⟩) rfl rfl rfl rfl rfl rfl (fun j hj => by
    have : j = 0 := by simp at hj; omega
    subst this
    exact wak_23 h)
theorem wak_bad : BadL wakT [12, 15] := by
  refine ⟨wak_mays fun x hx => by simpa using hx, .inr ⟨15, ⟨6, 2, 4, 5, 0, 0, 0, 0⟩, ⟨by simp, .inl (.inl (by decide))⟩, by decide, .inl (by decide), rfl, wak_45 (by simp)⟩⟩
def wakF (a : Int) : Int := if a = 6 then 0 else if a = 3 then 2 else if a = 5 then 4 else a
theorem wak_good : ¬ BadL wakT [12] := by
  rintro ⟨_, hb⟩
  have hh : Has wakT (told wakT [12]) wakF := by
    refine ⟨fun x hx e => ?_, fun x hx _ => ?_, fun x n hx _ _ hn => ?_⟩
    · obtain rfl : x = 12 := by simpa using hx.1
      exact absurd e (by decide)
    · obtain rfl : x = 12 := by simpa using hx.1
      decide
    · obtain rfl : x = 12 := by simpa using hx.1
      have : wakT[(12 / 2 : Int).toNat]? = some ⟨6, 2, 2, 3, 0, 0, 0, 0⟩ := rfl
      rw [this] at hn
      injection hn with hn
      subst hn
      decide
  have hc : Clo wakT wakF := by
    refine ⟨fun i n hn ho => ?_, fun i k n m hn hm ho ho' hf hl _ => ?_⟩
    · obtain ⟨h1, rfl⟩ := wak_cases hn
      have hc : i = 0 ∨ i = 1 ∨ i = 2 ∨ i = 3 ∨ i = 4 ∨ i = 5 ∨ i = 6 ∨ i = 7 := by omega
      rcases hc with rfl | rfl | rfl | rfl | rfl | rfl | rfl | rfl <;> exact absurd ho (by decide)
    · obtain ⟨h1, rfl⟩ := wak_cases hn
      obtain ⟨h2, rfl⟩ := wak_cases hm
      have key : ∀ i, i < 8 → ∀ k, k < 8 → (wakT.getD i default).op = 13 → (wakT.getD k default).op = 13 → (wakT.getD i default).fn = (wakT.getD k default).fn → wakF i = wakF k := by decide
      exact key i h1 k h2 ho ho' hf
  rcases hb with g | ⟨x, n, hx, e, _⟩
  · have := g.into hh hc
    revert this
    decide
  · obtain rfl : x = 12 := by simpa using hx.1
    exact absurd e (by decide)
theorem wak_lem : LemL wakT [13, 14] := by
  refine ⟨by decide, ?_⟩
  have : [(13 : Int), 14].map negG = [12, 15] := by
    simp only [List.map_cons, List.map_nil, negG_pos (show (0 : Int) ≤ 13 by decide) (by decide), negG_pos (show (0 : Int) ≤ 14 by decide) (by decide)]
    decide
  rw [this]
  exact wak_bad
theorem wak_nolem : ¬ LemL wakT [13] := by
  rintro ⟨_, h⟩
  have : [(13 : Int)].map negG = [12] := by
    simp only [List.map_cons, List.map_nil, negG_pos (show (0 : Int) ≤ 13 by decide) (by decide)]
    decide
  rw [this] at h
  exact wak_good h
end Go.Proofs.YtkapbdjobfbhhaaGreat
namespace Go.Proofs.YtkapbdjobfbhhaaGreat
open Go.RowKit Go.Lib
def NewOwn (w : World) (e : Ending) (w' : World) : Prop := ∃ g, e = .returned (.agg #[.slice (some ⟨g, 0, none⟩) 2 2]) ∧ w'.ownsRow w.heap.size 48 8 (.slice (some ⟨g, 0, none⟩) 2 2) 2 (twoNd.flatMap nodeCells) ∧ Below w.heap.size w w'
theorem rnew_own (w : World) : Calls Tryz.prog 29 #[] w (NewOwn w) := by
  have H : Hid (NewOwn w (.returned (.agg #[.slice (some ⟨w.heap.size + 1, 0, none⟩) 2 2])) ((w.alloc (.cells #[.slice (some ⟨w.heap.size + 1, 0, none⟩) 2 2] 33)).alloc (.cells (twoNd.flatMap nodeCells).toArray 48))) := Lib.hid ⟨_, rfl, ⟨rfl, .inr ⟨_, 2, (twoNd.flatMap nodeCells).toArray, rfl, by omega, Blk.new_at (by simp) _ _, by decide, by decide, rfl, rfl⟩⟩, ((Below.refl _ w).alloc (Nat.le_refl _) _).alloc (by simp) _⟩
  go_enter Tryz.func29, Tryz.ntmps29
  go_wp2
  refine bodyPost_ret (v := .agg #[.slice (some ⟨w.heap.size + 1, 0, none⟩) 2 2]) (by simp [results, Tryz.results29, go_sem]) rfl ?_
  exact H.out
theorem wak_wf : ∀ n ∈ wakT, NdWf n := by
  intro n hn
  simp only [wakT, List.mem_cons, List.not_mem_nil, or_false] at hn
  rcases hn with rfl | rfl | rfl | rfl | rfl | rfl | rfl | rfl
  all_goals
    refine ⟨by decide, by decide, fun j => ?_, by decide, by decide, by decide⟩
    unfold Nd.arg
    repeat' split
    all_goals decide
theorem own_tab {w : World} {B g c : Nat} (h : w.ownsRow B 48 8 (.slice (some ⟨g, 0, none⟩) (2 + 6) c) (2 + 6) (twoNd.flatMap nodeCells ++ (wakT.drop 2).flatMap nodeCells)) : Tab w (some ⟨g, 0, none⟩) wakT := by
  have e : twoNd.flatMap nodeCells ++ (wakT.drop 2).flatMap nodeCells = wakT.flatMap nodeCells := rfl
  rw [e] at h
  refine ⟨by decide, .inr ⟨g, 0, rfl, own_lt h, fun i hi => ⟨own_lt h, fun j hj => ?_, wak_wf _ (List.getElem_mem hi)⟩⟩⟩
  have := own_cell nodeCells (fun _ => rfl) h hi hj
  simpa using this
def TwoIs (w : World) (e : Ending) (w' : World) : Prop := ∃ A c, e = .returned (.agg #[.slice A 8 c]) ∧ 8 ≤ c ∧ Tab w' A wakT ∧ Below w.heap.size w w'
set_option maxRecDepth 100000 in
set_option maxHeartbeats 2000000 in
theorem two_ok (w : World) : Calls Tryz.prog 16 #[] w (TwoIs w) := by
  have hfd : ∀ (W : World) (a : Option Addr) (l c : Nat), (Instr.field 33 (.agg #[.slice a l c]) 0).run Tryz.prog W = .ok (.slice a l c) W := fun _ _ _ _ => by kernel_rfl
  obtain ⟨i0, hi, hz0, hz1, hz2⟩ := info_parts node_info
  go_enter Tryz.func16, Tryz.ntmps16
  go_wp2_with fail
  refine (rnew_own _).mono ?_
  rintro e w1 ⟨g, rfl, hown, hb⟩
  have HO2 : Hid (w1.ownsRow (w.heap.size + 1) 48 8 (.slice (some ⟨g, 0, none⟩) 2 2) 2 (twoNd.flatMap nodeCells)) := Lib.hid (by simpa using hown)
  have HB2 : Hid (w.heap.size + 1 ≤ w1.heap.size) := Lib.hid (by simpa using hb.size)
  have HB := Lib.hid hb
  have hB1 : Below w.heap.size w (w.alloc (.cells #[.slice none 0 0] 33)) := (Below.refl _ w).alloc (Nat.le_refl _) _
  have HBW : Hid (Below w.heap.size w w1) := Lib.hid (hB1.trans (hb.mono (by simp)))
  have HX : Hid (Blk w1 w.heap.size 33 #[.slice none 0 0]) := Lib.hid ((Blk.new w _ _).below hb (by simp))
  have hg := own_lt hown
  clear hB1
  clear hown hb
  go_wp2_with (at_builtin; (refine wpList_append_lies _ rfl (.tmp 3) (.tmp 18) 31 rfl (w.heap.size + 1) 48 i0 (.agg #[.int .i8 0, .int .i8 0, .int .i64 0, .int .i64 0, .int .i64 0, .int .i64 0, .int .i64 0, .int .i64 0]) 8 56 Tryz.underlying31 hi hz0 hz1 hz2 rfl (by decide) _ 2 (twoNd.flatMap nodeCells) rfl (own_kept HO2.out ((Kept.refl (fun _ => False) w1).alloc _) (fun _ _ h => h)) ⟨w1.heap.size, 0, none⟩ 6 6 ((wakT.drop 2).flatMap nodeCells) rfl rfl (World.news_of_block (Blk.new w1 _ _)) (by decide) (by decide) (by decide) (by decide) (by simp; have := HB2.out; omega) _ rfl ?_; intro ga ca w3 ho3 hg3 _ _; have HO3 := Lib.hid ho3; have HB3 := Lib.hid (Below.grown (HBW.out.alloc (by have := HB2.out; omega) _) hg3 (by have := HB2.out; simp; omega) (fun k hk => Nat.le_of_succ_le (HO2.out.lt k hk).1)); have HX3 := Lib.hid ((HX.out.alloc (.cells ((wakT.drop 2).flatMap nodeCells).toArray 48)).grown hg3 (fun e => own_blk_ne HO2.out HX.out (by decide) e.symm)); have cx := HX3.out.cell 0; have fx := HX3.out.frozen 0; simp only [List.getElem?_toArray, List.getElem?_cons_zero] at cx; clear ho3 hg3))
  refine bodyPost_ret (v := .agg #[.slice (some ⟨ga, 0, none⟩) 8 ca]) ?_ rfl ?_
  · have c1 := (HX3.out.set_ 0 (.slice (some ⟨ga, 0, none⟩) 8 ca)).cell 0
    simp only [List.getElem?_toArray, List.getElem?_cons_zero, List.setIfInBounds_toArray, List.set_cons_zero] at c1
    simp [results, Tryz.results16, go_sem, c1]
  · have ho4 := own_kept HO3.out (Kept.set1 w3 w.heap.size 0 (.slice (some ⟨ga, 0, none⟩) 8 ca)) (fun k hk e => own_blk_ne HO3.out HX3.out (by decide) (by rw [hk, e]))
    refine ⟨_, ca, rfl, by obtain ⟨_, _, e, _, _, hc⟩ := own_form ho4 (by omega); injection e with _ _ e; omega, own_tab ho4, ?_⟩
    exact HB3.out.setCell (Nat.le_refl _) _
theorem lit_row (w : World) (L : List Int) (hl : L.length ≤ 300) : Row (w.alloc (.cells (L.map (Value.int .i64)).toArray 3)) (some ⟨w.heap.size, 0, none⟩) L := by
  have h : OwnL (w.alloc (.cells (L.map (Value.int .i64)).toArray 3)) w.heap.size (.slice (some ⟨w.heap.size, 0, none⟩) L.length L.length) L := ⟨by simp, .inr ⟨_, _, (L.map (Value.int .i64)).toArray, rfl, Nat.le_refl _, Blk.new w _ _, Nat.le_refl _, by unfold maxLen; omega, by simp, by rw [Nat.mul_one, List.take_of_length_le (by simp)]⟩⟩
  obtain ⟨A, cap, e, hr, _⟩ := h.row (by omega)
  injection e with e
  subst e
  exact hr
set_option maxRecDepth 100000 in
set_option maxHeartbeats 2000000 in
theorem wakes_ok (w : World) : Calls Tryz.prog 7 #[] w (fun e w' => e = .returned (.bool true) ∧ Below w.heap.size w w') := by
  go_enter Tryz.func7, Tryz.ntmps7
  go_wp2_with fail
  refine (two_ok _).mono ?_
  rintro e w1 ⟨A1, c1, rfl, hc1, ht1, hb1⟩
  go_wp2_with fail
  refine (close_ok (T := wakT) (L := [12, 15]) 2 (ht1.below ((Below.refl _ w1).alloc (Nat.le_refl _) _)) hc1 (by decide) (by decide) (lit_row w1 [12, 15] (by decide))).mono ?_
  rintro e w2 ⟨v1, cs, bd, er, rfl, ho2, hb2, hbd, hcl⟩
  obtain ⟨rfl, hcl2⟩ : er = 0 ∧ Classes wakT (told wakT [12, 15]) cs := by
    rcases hcl with ⟨_, e1, e2⟩ | ⟨hn, _⟩
    · exact ⟨e1, e2⟩
    · exact absurd wak_bad.1 hn
  obtain rfl : bd = true := hbd.2 wak_bad
  have hn9 : cs.length = 9 := hcl2.1
  obtain ⟨g1, k1, rfl, hg1⟩ := own_form ho2 (by omega)
  rw [hn9]
  have HB2 : Hid (Below w.heap.size w w2) := Lib.hid ((hb1.trans (((Below.refl _ w1).alloc (Nat.le_refl _) _).mono hb1.size)).trans (hb2.mono (by have := hb1.size; simp; omega)))
  clear ho2 hb2 hbd hcl hcl2 hg1 hb1 ht1
  go_wp2_with fail
  refine (two_ok _).mono ?_
  rintro e w3 ⟨A3, c3, rfl, hc3, ht3, hb3⟩
  go_wp2_with fail
  refine (close_ok (T := wakT) (L := [12]) 1 (ht3.below ((Below.refl _ w3).alloc (Nat.le_refl _) _)) hc3 (by decide) (by decide) (lit_row w3 [12] (by decide))).mono ?_
  rintro e w4 ⟨v2, ds, bd, er, rfl, ho4, hb4, hbd, hcl⟩
  obtain ⟨rfl, hcl4⟩ : er = 0 ∧ Classes wakT (told wakT [12]) ds := by
    rcases hcl with ⟨_, e1, e2⟩ | ⟨hn, _⟩
    · exact ⟨e1, e2⟩
    · exact absurd (wak_mays fun x hx => .inl (by simpa using hx)) hn
  obtain rfl : bd = false := by
    cases bd with
    | false => rfl
    | true => exact absurd (hbd.1 rfl) wak_good
  have hm9 : ds.length = 9 := hcl4.1
  obtain ⟨g2, k2, rfl, hg2⟩ := own_form ho4 (by omega)
  have HR4 : Hid (Row w4 (some ⟨g2, 0, none⟩) ds) := Lib.hid (by
    obtain ⟨A, cap, e, hr, _⟩ := ho4.row (by omega)
    injection e with e
    subst e
    exact hr)
  have HONE : Hid (oneL ds 4 5 = true) := Lib.hid (by
    have := hcl4.same (i := 4) (k := 5) (by omega) (by omega) (wak_45 (by simp))
    simp only [oneL, inB, atC, hm9, List.getD_eq_getElem?_getD]
    rw [show (4 : Int).toNat = 4 from rfl, show (5 : Int).toNat = 5 from rfl, List.getElem?_eq_getElem (by omega), List.getElem?_eq_getElem (by omega), this]
    simp)
  have HB4 : Hid (Below w.heap.size w w4) := Lib.hid (HB2.out.trans (((hb3.trans (((Below.refl _ w3).alloc (Nat.le_refl _) _).mono hb3.size)).trans (hb4.mono (by have := hb3.size; simp; omega))).mono HB2.out.size))
  clear hb4 hbd hcl hcl4 hg2 hb3 ht3 ho4
  have HN9 := Lib.hid hm9
  rw [hm9]
  go_wp2_with fail
  have KO : Hid (Calls Tryz.prog 17 #[.slice (some ⟨g2, 0, none⟩) 9 k2, .int .i64 4, .int .i64 5] w4 fun e w' => e = .returned (.bool true) ∧ Below w4.heap.size w4 w') := Lib.hid (by
    have := one_fn k2 HR4.out 4 5
    rw [HN9.out, HONE.out] at this
    exact this)
  refine KO.out.mono ?_
  rintro e w5 ⟨rfl, hb5⟩
  have HB5 := Lib.hid (HB4.out.trans (hb5.mono HB4.out.size))
  clear hb5
  go_wp2_with fail
  refine (two_ok _).mono ?_
  rintro e w6 ⟨A6, c6, rfl, hc6, ht6, hb6⟩
  have HB6 := Lib.hid (HB5.out.trans (hb6.mono HB5.out.size))
  go_wp2_with fail
  refine (lemma_ok (T := wakT) (L := [13, 14]) 2 (ht6.below ((Below.refl _ w6).alloc (Nat.le_refl _) _)) hc6 (by decide) (by decide) (lit_row w6 [13, 14] (by decide))).mono ?_
  rintro e w7 ⟨r7, rfl, hr7, hb7⟩
  obtain rfl : r7 = true := hr7.2 wak_lem
  have HB7 := Lib.hid ((HB6.out.alloc HB6.out.size _).trans (hb7.mono (by have := HB6.out.size; simp; omega)))
  clear hb7 ht6 hb6 hr7
  go_wp2_with fail
  refine (two_ok _).mono ?_
  rintro e w8 ⟨A8, c8, rfl, hc8, ht8, hb8⟩
  have HB8 := Lib.hid (HB7.out.trans (hb8.mono HB7.out.size))
  go_wp2_with fail
  refine (lemma_ok (T := wakT) (L := [13]) 1 (ht8.below ((Below.refl _ w8).alloc (Nat.le_refl _) _)) hc8 (by decide) (by decide) (lit_row w8 [13] (by decide))).mono ?_
  rintro e w9 ⟨r9, rfl, hr9, hb9⟩
  obtain rfl : r9 = false := by
    cases r9 with
    | false => rfl
    | true => exact absurd (hr9.1 rfl) wak_nolem
  have HB9 := Lib.hid ((HB8.out.alloc HB8.out.size _).trans (hb9.mono (by have := HB8.out.size; simp; omega)))
  clear hb9 ht8 hb8 hr9
  go_wp2_with fail
  go_ret
  exact ⟨rfl, HB9.out⟩
end Go.Proofs.YtkapbdjobfbhhaaGreat

/- One. -/
import Derived.Test.YtbgbhfmchpdkcaaEvC
namespace Go.Proofs.Ytbgbhfmchpdkcaa
open Go.RowKit

def inB (n : Nat) (x : Int) : Bool := decide (0 ≤ x) && decide (x < n)
theorem inB_iff {n : Nat} {x : Int} : inB n x = true ↔ 0 ≤ x ∧ x < n := by
  unfold inB
  simp
def oneL (cs : List Int) (a b : Int) : Bool := inB cs.length a && inB cs.length b && (atC cs a == atC cs b)
theorem isf_ok {w : World} {bx : Nat} {A : Option Addr} {n c : Nat} (h : Blk w bx 25 #[.slice A n c]) (x : Int) :
    Calls Try.prog 31 #[.int .i64 x, .pointer (some ⟨bx, 0, none⟩)] w fun e w' => e = .returned (.bool (inB n x)) ∧ w = w' := by
  have c0 := h.cell 0
  have hl := h.lt
  simp only [List.getElem?_toArray, List.getElem?_cons_zero] at c0
  clear h
  unfold inB
  by_cases h0 : 0 ≤ x
  · have d0 := decide_eq_true h0
    rw [d0, Bool.true_and]
    obtain ⟨r, hr⟩ : ∃ r, decide (x < n) = r := ⟨_, rfl⟩
    rw [hr]
    clear h0
    go_enter Try.func31, Try.ntmps31
    go_wp2
    go_ret
    exact ⟨rfl, rfl⟩
  · have d0 := decide_eq_false h0
    rw [d0, Bool.false_and]
    clear h0
    go_enter Try.func31, Try.ntmps31
    go_wp2
    go_ret
    exact ⟨rfl, rfl⟩
set_option maxRecDepth 100000 in
set_option maxHeartbeats 2000000 in
theorem one_fn {w : World} {A : Option Addr} {cs : List Int} (cap : Nat) (hr : Row w A cs) (a b : Int) :
    Calls Try.prog 10 #[.slice A cs.length cap, .int .i64 a, .int .i64 b] w fun e w' => e = .returned (.bool (oneL cs a b)) ∧ Below w.heap.size w w' := by
  have HB := Lib.hid (show Below w.heap.size w (w.alloc (.cells #[.slice A cs.length cap] 25)) from (Below.refl _ w).alloc (Nat.le_refl _) _)
  have HX := Lib.hid (Blk.new w 25 #[.slice A cs.length cap])
  have HR := Lib.hid (hr.below HB.out)
  have KA : Hid (∀ W x, Below (w.heap.size + 1) (w.alloc (.cells #[.slice A cs.length cap] 25)) W → Calls Try.prog 31 #[.int .i64 x, .pointer (some ⟨w.heap.size, 0, none⟩)] W fun e w' => e = .returned (.bool (inB cs.length x)) ∧ W = w') := Lib.hid fun W x hW => isf_ok (HX.out.below hW (Nat.lt_succ_self _)) x
  have hlen := hr.len
  clear hr
  unfold oneL
  obtain ⟨ia, hia⟩ : ∃ ia, inB cs.length a = ia := ⟨_, rfl⟩
  obtain ⟨ib, hib⟩ : ∃ ib, inB cs.length b = ib := ⟨_, rfl⟩
  rw [hia, hib]
  have K1 : Hid (∀ W, Below (w.heap.size + 1) (w.alloc (.cells #[.slice A cs.length cap] 25)) W → Calls Try.prog 31 #[.int .i64 a, .pointer (some ⟨w.heap.size, 0, none⟩)] W fun e w' => e = .returned (.bool ia) ∧ W = w') := Lib.hid fun W hW => hia ▸ KA.out W a hW
  have K2 : Hid (∀ W, Below (w.heap.size + 1) (w.alloc (.cells #[.slice A cs.length cap] 25)) W → Calls Try.prog 31 #[.int .i64 b, .pointer (some ⟨w.heap.size, 0, none⟩)] W fun e w' => e = .returned (.bool ib) ∧ W = w') := Lib.hid fun W hW => hib ▸ KA.out W b hW
  have HIA := Lib.hid hia
  have HIB := Lib.hid hib
  clear hia hib KA
  obtain ⟨W0, hW0⟩ : ∃ W0, w.alloc (.cells #[.slice A cs.length cap] 25) = W0 := ⟨_, rfl⟩
  cases ia with
  | false =>
    rw [Bool.false_and, Bool.false_and]
    clear hW0
    go_enter Try.func10, Try.ntmps10
    go_upto_region 2 with (fail)
    refine wp_region_quiet (C := fun w' => Below (w.heap.size + 1) (w.alloc (.cells #[.slice A cs.length cap] 25)) w') (by kernel_rfl) (by kernel_rfl) (⟨rfl, rfl, rfl, Nat.le_refl _, fun _ _ => rfl⟩) ?_
    refine QW.lit ?_
    refine qw_want rfl ?_ (fun w' hw' => ?_) ?_
    rotate_left
    · unfold Oper.quietAt
      go_simp
      exact rfl
    simp only [Act.put, List.setIfInBounds_toArray, List.set_cons_succ, List.set_cons_zero]
    refine qw_want rfl ?_ (fun w' hw' => ?_) ?_
    rotate_left
    · unfold Oper.quietAt
      go_simp
      exact rfl
    simp only [Act.put, List.setIfInBounds_toArray, List.set_cons_succ, List.set_cons_zero]
    refine qw_want rfl (.bool false) (fun w' hw' => ?_) ?_
    · unfold Oper.quietAt
      go_simp
      refine (K1.out w' hw').mono ?_
      rintro e w2 ⟨rfl, rfl⟩
      exact ⟨rfl, hw'⟩
    simp only [Act.put, List.setIfInBounds_toArray, List.set_cons_succ, List.set_cons_zero]
    refine qw_want rfl ?_ (fun w' hw' => ?_) ?_
    rotate_left
    · unfold Oper.quietAt
      go_simp
      exact rfl
    simp only [Act.put, List.setIfInBounds_toArray, List.set_cons_succ, List.set_cons_zero]
    refine qw_skip (by rfl) ?_
    simp only [Act.put, List.setIfInBounds_toArray, List.set_cons_succ, List.set_cons_zero]
    refine qw_skip (by rfl) ?_
    simp only [Act.put, List.setIfInBounds_toArray, List.set_cons_succ, List.set_cons_zero]
    refine qw_skip (by rfl) ?_
    simp only [Act.put, List.setIfInBounds_toArray, List.set_cons_succ, List.set_cons_zero]
    refine qw_want rfl ?_ (fun w' hw' => ?_) ?_
    rotate_left
    · unfold Oper.quietAt
      go_simp
      exact rfl
    simp only [Act.put, List.setIfInBounds_toArray, List.set_cons_succ, List.set_cons_zero]
    refine qw_want rfl ?_ (fun w' hw' => ?_) ?_
    rotate_left
    · unfold Oper.quietAt
      go_simp
      exact rfl
    simp only [Act.put, List.setIfInBounds_toArray, List.set_cons_succ, List.set_cons_zero]
    refine qw_skip (by rfl) ?_
    simp only [Act.put, List.setIfInBounds_toArray, List.set_cons_succ, List.set_cons_zero]
    refine qw_skip (by rfl) ?_
    simp only [Act.put, List.setIfInBounds_toArray, List.set_cons_succ, List.set_cons_zero]
    refine qw_skip (by rfl) ?_
    simp only [Act.put, List.setIfInBounds_toArray, List.set_cons_succ, List.set_cons_zero]
    refine qw_skip (by rfl) ?_
    simp only [Act.put, List.setIfInBounds_toArray, List.set_cons_succ, List.set_cons_zero]
    refine qw_skip (by rfl) ?_
    simp only [Act.put, List.setIfInBounds_toArray, List.set_cons_succ, List.set_cons_zero]
    refine qw_skip (by rfl) ?_
    simp only [Act.put, List.setIfInBounds_toArray, List.set_cons_succ, List.set_cons_zero]
    refine qw_skip (by rfl) ?_
    simp only [Act.put, List.setIfInBounds_toArray, List.set_cons_succ, List.set_cons_zero]
    refine qw_skip (by rfl) ?_
    simp only [Act.put, List.setIfInBounds_toArray, List.set_cons_succ, List.set_cons_zero]
    refine qw_skip (by rfl) ?_
    simp only [Act.put, List.setIfInBounds_toArray, List.set_cons_succ, List.set_cons_zero]
    refine qw_want rfl ?_ (fun w' hw' => ?_) ?_
    rotate_left
    · unfold Oper.quietAt
      go_simp
      exact rfl
    simp only [Act.put, List.setIfInBounds_toArray, List.set_cons_succ, List.set_cons_zero]
    refine qw_want rfl ?_ (fun w' hw' => ?_) ?_
    rotate_left
    · unfold Oper.quietAt
      go_simp
      exact rfl
    simp only [Act.put, List.setIfInBounds_toArray, List.set_cons_succ, List.set_cons_zero]
    refine qw_end (fun w5 hb5 => ?_)
    go_wp2
    go_ret
    exact ⟨rfl, HB.out.trans (hb5.mono (Nat.le_succ _))⟩
  | true =>
    cases ib with
    | false =>
      rw [Bool.true_and, Bool.false_and]
      clear hW0
      go_enter Try.func10, Try.ntmps10
      go_upto_region 2 with (fail)
      refine wp_region_quiet (C := fun w' => Below (w.heap.size + 1) (w.alloc (.cells #[.slice A cs.length cap] 25)) w') (by kernel_rfl) (by kernel_rfl) (⟨rfl, rfl, rfl, Nat.le_refl _, fun _ _ => rfl⟩) ?_
      refine QW.lit ?_
      refine qw_want rfl ?_ (fun w' hw' => ?_) ?_
      rotate_left
      · unfold Oper.quietAt
        go_simp
        exact rfl
      simp only [Act.put, List.setIfInBounds_toArray, List.set_cons_succ, List.set_cons_zero]
      refine qw_want rfl ?_ (fun w' hw' => ?_) ?_
      rotate_left
      · unfold Oper.quietAt
        go_simp
        exact rfl
      simp only [Act.put, List.setIfInBounds_toArray, List.set_cons_succ, List.set_cons_zero]
      refine qw_want rfl (.bool true) (fun w' hw' => ?_) ?_
      · unfold Oper.quietAt
        go_simp
        refine (K1.out w' hw').mono ?_
        rintro e w2 ⟨rfl, rfl⟩
        exact ⟨rfl, hw'⟩
      simp only [Act.put, List.setIfInBounds_toArray, List.set_cons_succ, List.set_cons_zero]
      refine qw_want rfl ?_ (fun w' hw' => ?_) ?_
      rotate_left
      · unfold Oper.quietAt
        go_simp
        exact rfl
      simp only [Act.put, List.setIfInBounds_toArray, List.set_cons_succ, List.set_cons_zero]
      refine qw_want rfl ?_ (fun w' hw' => ?_) ?_
      rotate_left
      · unfold Oper.quietAt
        go_simp
        exact rfl
      simp only [Act.put, List.setIfInBounds_toArray, List.set_cons_succ, List.set_cons_zero]
      refine qw_want rfl ?_ (fun w' hw' => ?_) ?_
      rotate_left
      · unfold Oper.quietAt
        go_simp
        exact rfl
      simp only [Act.put, List.setIfInBounds_toArray, List.set_cons_succ, List.set_cons_zero]
      refine qw_want rfl (.bool false) (fun w' hw' => ?_) ?_
      · unfold Oper.quietAt
        go_simp
        refine (K2.out w' hw').mono ?_
        rintro e w2 ⟨rfl, rfl⟩
        exact ⟨rfl, hw'⟩
      simp only [Act.put, List.setIfInBounds_toArray, List.set_cons_succ, List.set_cons_zero]
      refine qw_want rfl ?_ (fun w' hw' => ?_) ?_
      rotate_left
      · unfold Oper.quietAt
        go_simp
        exact rfl
      simp only [Act.put, List.setIfInBounds_toArray, List.set_cons_succ, List.set_cons_zero]
      refine qw_want rfl ?_ (fun w' hw' => ?_) ?_
      rotate_left
      · unfold Oper.quietAt
        go_simp
        exact rfl
      simp only [Act.put, List.setIfInBounds_toArray, List.set_cons_succ, List.set_cons_zero]
      refine qw_skip (by rfl) ?_
      simp only [Act.put, List.setIfInBounds_toArray, List.set_cons_succ, List.set_cons_zero]
      refine qw_skip (by rfl) ?_
      simp only [Act.put, List.setIfInBounds_toArray, List.set_cons_succ, List.set_cons_zero]
      refine qw_skip (by rfl) ?_
      simp only [Act.put, List.setIfInBounds_toArray, List.set_cons_succ, List.set_cons_zero]
      refine qw_skip (by rfl) ?_
      simp only [Act.put, List.setIfInBounds_toArray, List.set_cons_succ, List.set_cons_zero]
      refine qw_skip (by rfl) ?_
      simp only [Act.put, List.setIfInBounds_toArray, List.set_cons_succ, List.set_cons_zero]
      refine qw_skip (by rfl) ?_
      simp only [Act.put, List.setIfInBounds_toArray, List.set_cons_succ, List.set_cons_zero]
      refine qw_skip (by rfl) ?_
      simp only [Act.put, List.setIfInBounds_toArray, List.set_cons_succ, List.set_cons_zero]
      refine qw_skip (by rfl) ?_
      simp only [Act.put, List.setIfInBounds_toArray, List.set_cons_succ, List.set_cons_zero]
      refine qw_skip (by rfl) ?_
      simp only [Act.put, List.setIfInBounds_toArray, List.set_cons_succ, List.set_cons_zero]
      refine qw_want rfl ?_ (fun w' hw' => ?_) ?_
      rotate_left
      · unfold Oper.quietAt
        go_simp
        exact rfl
      simp only [Act.put, List.setIfInBounds_toArray, List.set_cons_succ, List.set_cons_zero]
      refine qw_want rfl ?_ (fun w' hw' => ?_) ?_
      rotate_left
      · unfold Oper.quietAt
        go_simp
        exact rfl
      simp only [Act.put, List.setIfInBounds_toArray, List.set_cons_succ, List.set_cons_zero]
      refine qw_end (fun w5 hb5 => ?_)
      go_wp2
      go_ret
      exact ⟨rfl, HB.out.trans (hb5.mono (Nat.le_succ _))⟩
    | true =>
      rw [Bool.true_and, Bool.true_and]
      clear hW0
      have ha := inB_iff.1 HIA.out
      have hb := inB_iff.1 HIB.out
      obtain ⟨p, rfl⟩ : ∃ p : Nat, a = p := ⟨a.toNat, by omega⟩
      obtain ⟨q, rfl⟩ : ∃ q : Nat, b = q := ⟨b.toNat, by omega⟩
      have hp : p < cs.length := by omega
      have hq : q < cs.length := by omega
      rw [atC_nat hp, atC_nat hq]
      obtain ⟨bb, off, hA, hbb, hcell⟩ := HR.out.at_.resolve_left (by omega)
      subst hA
      have y0 := hcell p hp
      have y1 := hcell q hq
      have t1 : (0 : Int) ≤ (p : Int) := by omega
      have t2 : (p : Int) < (cs.length : Int) := by omega
      have t3 : (0 : Int) ≤ (q : Int) := by omega
      have t4 : (q : Int) < (cs.length : Int) := by omega
      generalize cs[p] = x at *
      generalize cs[q] = y at *
      have HBB : Hid (bb < w.heap.size + 1) := Lib.hid (by simpa using hbb)
      have HF : Hid (∀ w', Below (w.heap.size + 1) (w.alloc (.cells #[.slice (some ⟨bb, off, none⟩) cs.length cap] 25)) w' → w'.cell? ⟨w.heap.size, 0, none⟩ = some (.slice (some ⟨bb, off, none⟩) cs.length cap) ∧ w'.cell? ⟨bb, off + p, none⟩ = some (.int .i64 x) ∧ w'.cell? ⟨bb, off + q, none⟩ = some (.int .i64 y)) := Lib.hid fun w' hb => ⟨(hb.cell (p := ⟨w.heap.size, 0, none⟩) (Nat.lt_succ_self _)).trans (HX.out.cell 0), (hb.cell (p := ⟨bb, off + p, none⟩) HBB.out).trans y0, (hb.cell (p := ⟨bb, off + q, none⟩) HBB.out).trans y1⟩
      clear ha hb hcell y0 y1
      go_enter Try.func10, Try.ntmps10
      go_upto_region 2 with (fail)
      refine wp_region_quiet (C := fun w' => Below (w.heap.size + 1) (w.alloc (.cells #[.slice (some ⟨bb, off, none⟩) cs.length cap] 25)) w') (by kernel_rfl) (by kernel_rfl) (⟨rfl, rfl, rfl, Nat.le_refl _, fun _ _ => rfl⟩) ?_
      refine QW.lit ?_
      refine qw_want rfl ?_ (fun w' hw' => ?_) ?_
      rotate_left
      · unfold Oper.quietAt
        go_simp
        exact rfl
      simp only [Act.put, List.setIfInBounds_toArray, List.set_cons_succ, List.set_cons_zero]
      refine qw_want rfl ?_ (fun w' hw' => ?_) ?_
      rotate_left
      · unfold Oper.quietAt
        go_simp
        exact rfl
      simp only [Act.put, List.setIfInBounds_toArray, List.set_cons_succ, List.set_cons_zero]
      refine qw_want rfl (.bool true) (fun w' hw' => ?_) ?_
      · unfold Oper.quietAt
        go_simp
        refine (K1.out w' hw').mono ?_
        rintro e w2 ⟨rfl, rfl⟩
        exact ⟨rfl, hw'⟩
      simp only [Act.put, List.setIfInBounds_toArray, List.set_cons_succ, List.set_cons_zero]
      refine qw_want rfl ?_ (fun w' hw' => ?_) ?_
      rotate_left
      · unfold Oper.quietAt
        go_simp
        exact rfl
      simp only [Act.put, List.setIfInBounds_toArray, List.set_cons_succ, List.set_cons_zero]
      refine qw_want rfl ?_ (fun w' hw' => ?_) ?_
      rotate_left
      · unfold Oper.quietAt
        go_simp
        exact rfl
      simp only [Act.put, List.setIfInBounds_toArray, List.set_cons_succ, List.set_cons_zero]
      refine qw_want rfl ?_ (fun w' hw' => ?_) ?_
      rotate_left
      · unfold Oper.quietAt
        go_simp
        exact rfl
      simp only [Act.put, List.setIfInBounds_toArray, List.set_cons_succ, List.set_cons_zero]
      refine qw_want rfl (.bool true) (fun w' hw' => ?_) ?_
      · unfold Oper.quietAt
        go_simp
        refine (K2.out w' hw').mono ?_
        rintro e w2 ⟨rfl, rfl⟩
        exact ⟨rfl, hw'⟩
      simp only [Act.put, List.setIfInBounds_toArray, List.set_cons_succ, List.set_cons_zero]
      refine qw_want rfl ?_ (fun w' hw' => ?_) ?_
      rotate_left
      · unfold Oper.quietAt
        go_simp
        exact rfl
      simp only [Act.put, List.setIfInBounds_toArray, List.set_cons_succ, List.set_cons_zero]
      refine qw_want rfl ?_ (fun w' hw' => ?_) ?_
      rotate_left
      · unfold Oper.quietAt
        go_simp
        exact rfl
      simp only [Act.put, List.setIfInBounds_toArray, List.set_cons_succ, List.set_cons_zero]
      refine qw_want rfl ?_ (fun w' hw' => ?_) ?_
      rotate_left
      · obtain ⟨k0, k1, k2⟩ := HF.out w' hw'
        unfold Oper.quietAt
        go_simp
        exact rfl
      simp only [Act.put, List.setIfInBounds_toArray, List.set_cons_succ, List.set_cons_zero]
      refine qw_want rfl ?_ (fun w' hw' => ?_) ?_
      rotate_left
      · unfold Oper.quietAt
        go_simp
        exact rfl
      simp only [Act.put, List.setIfInBounds_toArray, List.set_cons_succ, List.set_cons_zero]
      refine qw_want rfl ?_ (fun w' hw' => ?_) ?_
      rotate_left
      · unfold Oper.quietAt
        go_simp
        exact rfl
      simp only [Act.put, List.setIfInBounds_toArray, List.set_cons_succ, List.set_cons_zero]
      refine qw_want rfl ?_ (fun w' hw' => ?_) ?_
      rotate_left
      · obtain ⟨k0, k1, k2⟩ := HF.out w' hw'
        unfold Oper.quietAt
        go_simp
        exact rfl
      simp only [Act.put, List.setIfInBounds_toArray, List.set_cons_succ, List.set_cons_zero]
      refine qw_want rfl ?_ (fun w' hw' => ?_) ?_
      rotate_left
      · obtain ⟨k0, k1, k2⟩ := HF.out w' hw'
        unfold Oper.quietAt
        go_simp
        exact rfl
      simp only [Act.put, List.setIfInBounds_toArray, List.set_cons_succ, List.set_cons_zero]
      refine qw_want rfl ?_ (fun w' hw' => ?_) ?_
      rotate_left
      · unfold Oper.quietAt
        go_simp
        exact rfl
      simp only [Act.put, List.setIfInBounds_toArray, List.set_cons_succ, List.set_cons_zero]
      refine qw_want rfl ?_ (fun w' hw' => ?_) ?_
      rotate_left
      · unfold Oper.quietAt
        go_simp
        exact rfl
      simp only [Act.put, List.setIfInBounds_toArray, List.set_cons_succ, List.set_cons_zero]
      refine qw_want rfl ?_ (fun w' hw' => ?_) ?_
      rotate_left
      · obtain ⟨k0, k1, k2⟩ := HF.out w' hw'
        unfold Oper.quietAt
        go_simp
        exact rfl
      simp only [Act.put, List.setIfInBounds_toArray, List.set_cons_succ, List.set_cons_zero]
      refine qw_want rfl ?_ (fun w' hw' => ?_) ?_
      rotate_left
      · unfold Oper.quietAt
        go_simp
        exact rfl
      simp only [Act.put, List.setIfInBounds_toArray, List.set_cons_succ, List.set_cons_zero]
      refine qw_want rfl ?_ (fun w' hw' => ?_) ?_
      rotate_left
      · unfold Oper.quietAt
        go_simp
        exact rfl
      simp only [Act.put, List.setIfInBounds_toArray, List.set_cons_succ, List.set_cons_zero]
      refine qw_want rfl ?_ (fun w' hw' => ?_) ?_
      rotate_left
      · unfold Oper.quietAt
        go_simp
        exact rfl
      simp only [Act.put, List.setIfInBounds_toArray, List.set_cons_succ, List.set_cons_zero]
      refine qw_end (fun w5 hb5 => ?_)
      go_wp2
      go_ret
      exact ⟨rfl, HB.out.trans (hb5.mono (Nat.le_succ _))⟩
end Go.Proofs.Ytbgbhfmchpdkcaa

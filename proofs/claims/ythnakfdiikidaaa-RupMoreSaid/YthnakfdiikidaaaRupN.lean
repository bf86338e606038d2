/- Ints; what all the laws ask last. -/
import Derived.Test.YthnakfdiikidaaaRupM
namespace Go.Proofs.Ythnakfdiikidaaa
open Go.RowKit Go.Lib

theorem drop_beq {xs ys : List Int} (hl : xs.length = ys.length) {i : Nat} (h : i < xs.length) : (xs.drop i == ys.drop i) = ((xs[i] == ys[i]) && (xs.drop (i + 1) == ys.drop (i + 1))) := by
  rw [List.drop_eq_getElem_cons h, List.drop_eq_getElem_cons (by omega : i < ys.length)]
  rfl

theorem ints_ok {w : World} {A B : Option Addr} {xs ys : List Int} (c d : Nat) (h : Row .i64 w A xs) (k : Row .i64 w B ys) :
    Calls Try.prog 17 #[.slice A xs.length c, .slice B ys.length d] w fun e w' => e = .returned (.bool (xs == ys)) ∧ ∃ q, w' = w.drewN q := by
  have hlen := h.len
  have klen := k.len
  have H := Lib.hid h
  have K := Lib.hid k
  clear h k
  by_cases hl : xs.length = ys.length
  · have hb : ((xs.length : Int) != ys.length) = false := by simp [hl]
    have Hl := Lib.hid hl
    clear hl
    go_enter Try.func17, Try.ntmps17
    go_wp2
    go_loopw [5] (fun vi wx => ∃ (i : Nat) (q : Nat), i ≤ xs.length ∧ vi = .int .i64 i ∧ wx = w.drewN q ∧ (xs == ys) = (xs.drop i == ys.drop i)) (fun vi _ => (xs.length - intOf vi).toNat)
    case atStart => exact ⟨0, 0, Nat.zero_le _, rfl, rfl, rfl⟩
    case round =>
      obtain ⟨i, q, hi, rfl, rfl, hinv⟩ := hrel
      by_cases hlt : i < xs.length
      · have d1 : decide ((i : Int) < xs.length) = true := by simp; omega
        have hlt2 : i < ys.length := by rw [← Hl.out]; exact hlt
        rw [drop_beq Hl.out hlt] at hinv
        obtain ⟨b, off, hA, hb, hcell⟩ := H.out.at_.resolve_left (by omega)
        obtain ⟨b2, off2, hB, hb2, hcell2⟩ := K.out.at_.resolve_left (by omega)
        subst hA hB
        have y0 := hcell i hlt
        have y1 := hcell2 i hlt2
        have HI := Lib.hid hinv
        clear hcell hcell2 hinv
        generalize xs[i] = x at *
        generalize ys[i] = y at *
        have t1 : (0 : Int) ≤ (i : Int) := by omega
        have t2 : (i : Int) < (xs.length : Int) := by omega
        have t3 : (i : Int) < (ys.length : Int) := by omega
        by_cases e : x = y
        · subst e
          have hne : (x != x) = false := by simp
          go_wp2
          go_quiet (fail)
          go_wp2
          go_roundw
          case rel => exact ⟨i + 1, _, by omega, by go_num, rfl, by rw [HI.out]; simp⟩
          case measure => simp only [intOf]; omega
        · have hne : (x != y) = true := by simp [e]
          have hbe : (x == y) = false := by simp [e]
          rw [hbe, Bool.false_and] at HI
          clear e hbe
          go_wp2
          go_quiet (fail)
          go_wp2
          go_ret
          exact ⟨by rw [HI.out]; rfl, _, World.drewN_drewN _ _ _⟩
      · obtain rfl : i = xs.length := by omega
        have d1 : decide ((xs.length : Int) < xs.length) = false := by simp
        rw [List.drop_length, List.drop_of_length_le (by rw [Hl.out]; exact Nat.le_refl _)] at hinv
        have HI := Lib.hid hinv
        clear hinv
        go_wp2
        go_ret
        exact ⟨by rw [HI.out]; rfl, q, rfl⟩
  · have hb : ((xs.length : Int) != ys.length) = true := by simp; omega
    have hf : (xs == ys) = false := by
      simp only [beq_eq_false_iff_ne]
      exact fun e => hl (by rw [e])
    have HF := Lib.hid hf
    clear hl hf
    go_enter Try.func17, Try.ntmps17
    go_wp2
    go_ret
    exact ⟨by rw [HF.out]; rfl, 0, rfl⟩

def fourM : List (List Int) := [[2, 4], [2, 5], [3, 4], [3, 5]]
theorem four_plain : fourM.map plainM = fourM := by
  unfold fourM
  simp only [List.map_cons, List.map_nil]
  rw [plain_of_ord (ord_two (by decide)) (by decide), plain_of_ord (ord_two (by decide)) (by decide), plain_of_ord (ord_two (by decide)) (by decide), plain_of_ord (ord_two (by decide)) (by decide)]
theorem wf_a : followsM fourM [2] = true := by
  unfold followsM
  have e : runM fourM (negsM [2]) = ([3, 4], 1) := by
    unfold runM
    rw [four_plain, show givenM (negsM [2]) [] = ([3], true) by decide]
    simp only [if_true]
    rw [runL, show lookF (valL [3]) fourM 0 (-1) 0 = (-1, 0, 4) by decide]
    simp only [show ¬ (0 : Int) ≤ -1 by decide, if_false, show ¬ (0 : Int) = -1 by decide]
    rw [runL, show lookF (valL ([3] ++ [4])) fourM 0 (-1) 0 = (1, -1, 0) by decide]
    rfl
  rw [e]
  rfl
theorem wf_b : followsM (fourM ++ [[2]]) [] = true := by
  unfold followsM
  have ep : (fourM ++ [[2]]).map plainM = fourM ++ [[2]] := by
    rw [List.map_append, four_plain, List.map_cons, List.map_nil, plain_of_ord ord_one (by decide)]
  have e : runM (fourM ++ [[2]]) (negsM []) = ([2, 4], 3) := by
    unfold runM
    rw [ep, show givenM (negsM []) [] = ([], true) by decide]
    simp only [if_true]
    rw [runL, show lookF (valL []) (fourM ++ [[2]]) 0 (-1) 0 = (-1, 4, 2) by decide]
    simp only [show ¬ (0 : Int) ≤ -1 by decide, if_false, show ¬ (4 : Int) = -1 by decide]
    rw [runL, show lookF (valL ([] ++ [2])) (fourM ++ [[2]]) 0 (-1) 0 = (-1, 2, 4) by decide]
    simp only [show ¬ (0 : Int) ≤ -1 by decide, if_false, show ¬ (2 : Int) = -1 by decide]
    rw [runL, show lookF (valL ([] ++ [2] ++ [4])) (fourM ++ [[2]]) 0 (-1) 0 = (3, -1, 0) by decide]
    rfl
  rw [e]
  rfl
theorem wf_c : followsM fourM [] = false := by
  unfold followsM
  have e : runM fourM (negsM []) = ([], -1) := by
    unfold runM
    rw [four_plain, show givenM (negsM []) [] = ([], true) by decide]
    simp only [if_true]
    rw [runL, show lookF (valL []) fourM 0 (-1) 0 = (-1, -1, 0) by decide]
    rfl
  rw [e]
  rfl
theorem wf_d : followsM (fourM ++ [[2]]) [4, 5] = true := by
  unfold followsM runM
  rw [show givenM (negsM [4, 5]) [] = ([5], false) by decide]
  rfl
theorem wf_e : followsM (fourM ++ [[2]] ++ [[4, 5]]) [6] = true := by
  unfold followsM
  have ep : (fourM ++ [[2]] ++ [[4, 5]]).map plainM = fourM ++ [[2]] ++ [[4, 5]] := by
    rw [List.map_append, List.map_append, four_plain, List.map_cons, List.map_nil, List.map_cons, List.map_nil, plain_of_ord ord_one (by decide), plain_of_ord (ord_two (by decide)) (by decide)]
  have e : runM (fourM ++ [[2]] ++ [[4, 5]]) (negsM [6]) = ([7, 2, 4], 3) := by
    unfold runM
    rw [ep, show givenM (negsM [6]) [] = ([7], true) by decide]
    simp only [if_true]
    rw [runL, show lookF (valL [7]) (fourM ++ [[2]] ++ [[4, 5]]) 0 (-1) 0 = (-1, 4, 2) by decide]
    simp only [show ¬ (0 : Int) ≤ -1 by decide, if_false, show ¬ (4 : Int) = -1 by decide]
    rw [runL, show lookF (valL ([7] ++ [2])) (fourM ++ [[2]] ++ [[4, 5]]) 0 (-1) 0 = (-1, 2, 4) by decide]
    simp only [show ¬ (0 : Int) ≤ -1 by decide, if_false, show ¬ (2 : Int) = -1 by decide]
    rw [runL, show lookF (valL ([7] ++ [2] ++ [4])) (fourM ++ [[2]] ++ [[4, 5]]) 0 (-1) 0 = (3, -1, 0) by decide]
    rfl
  rw [e]
  rfl
theorem wr_a : refutesM fourM [[2], []] = true := by
  unfold refutesM
  rw [row_cons, if_pos wf_a, row_cons, if_pos wf_b]
  rfl
theorem wr_b : refutesM fourM [[]] = false := by
  unfold refutesM
  rw [row_cons, if_neg (by rw [wf_c]; simp)]
  rfl
theorem wr_c : rowM fourM [[2], [4, 5], [6]] 0 = -1 := by
  rw [row_cons, if_pos wf_a, row_cons, if_pos wf_d, row_cons, if_pos wf_e]
  rfl

/-- The four clauses, as they lie. -/
def FourAt (w : World) (A : Option Addr) (R : List (Option Addr × Nat × List Int)) : Prop := Grid w A R ∧ rowsOf R = fourM ∧ R.length = 4
theorem FourAt.below {w w' : World} {A : Option Addr} {R : List (Option Addr × Nat × List Int)} (h : FourAt w A R) (hb : Below w.heap.size w w') : FourAt w' A R := ⟨h.1.below hb, h.2⟩

theorem four_ok (w : World) : Calls Try.prog 22 #[] w fun e w' => ∃ A R, e = .returned (.slice A 4 4) ∧ FourAt w' A R ∧ Below w.heap.size w w' := by
  have hb : Below w.heap.size w (((((w.alloc (.cells #[.int .i64 2, .int .i64 4] 3)).alloc (.cells #[.int .i64 2, .int .i64 5] 3)).alloc (.cells #[.int .i64 3, .int .i64 4] 3)).alloc (.cells #[.int .i64 3, .int .i64 5] 3)).alloc (.cells #[.slice (some ⟨w.heap.size, 0, none⟩) 2 2, .slice (some ⟨w.heap.size + 1, 0, none⟩) 2 2, .slice (some ⟨w.heap.size + 1 + 1, 0, none⟩) 2 2, .slice (some ⟨w.heap.size + 1 + 1 + 1, 0, none⟩) 2 2] 28)) :=
    (((((Below.refl _ w).alloc (Nat.le_refl _) _).alloc (by simp) _).alloc (by simp; omega) _).alloc (by simp; omega) _).alloc (by simp; omega) _
  have hg : Grid (((((w.alloc (.cells #[.int .i64 2, .int .i64 4] 3)).alloc (.cells #[.int .i64 2, .int .i64 5] 3)).alloc (.cells #[.int .i64 3, .int .i64 4] 3)).alloc (.cells #[.int .i64 3, .int .i64 5] 3)).alloc (.cells #[.slice (some ⟨w.heap.size, 0, none⟩) 2 2, .slice (some ⟨w.heap.size + 1, 0, none⟩) 2 2, .slice (some ⟨w.heap.size + 1 + 1, 0, none⟩) 2 2, .slice (some ⟨w.heap.size + 1 + 1 + 1, 0, none⟩) 2 2] 28)) (some ⟨w.heap.size + 1 + 1 + 1 + 1, 0, none⟩)
      [(some ⟨w.heap.size, 0, none⟩, 2, [2, 4]), (some ⟨w.heap.size + 1, 0, none⟩, 2, [2, 5]), (some ⟨w.heap.size + 1 + 1, 0, none⟩, 2, [3, 4]), (some ⟨w.heap.size + 1 + 1 + 1, 0, none⟩, 2, [3, 5])] := by
    refine blk_grid (Blk.new_at (by simp) _ _) (by simp) ?_
    intro r hr
    rcases List.mem_cons.1 hr with rfl | hr
    · exact ⟨blk_row (((((Blk.new w 3 #[.int .i64 2, .int .i64 4]).alloc _).alloc _).alloc _).alloc _) (by simp), fun h => by cases h⟩
    rcases List.mem_cons.1 hr with rfl | hr
    · exact ⟨blk_row ((((Blk.new_at (by simp) 3 #[.int .i64 2, .int .i64 5]).alloc _).alloc _).alloc _) (by simp), fun h => by cases h⟩
    rcases List.mem_cons.1 hr with rfl | hr
    · exact ⟨blk_row (((Blk.new_at (by simp) 3 #[.int .i64 3, .int .i64 4]).alloc _).alloc _) (by simp), fun h => by cases h⟩
    rcases List.mem_cons.1 hr with rfl | hr
    · exact ⟨blk_row ((Blk.new_at (by simp) 3 #[.int .i64 3, .int .i64 5]).alloc _) (by simp), fun h => by cases h⟩
    cases hr
  have Hg := Lib.hid hg
  have Hb := Lib.hid hb
  clear hg hb
  go_enter Try.func22, Try.ntmps22
  go_wp2
  go_ret
  exact ⟨_, _, rfl, ⟨Hg.out, rfl, rfl⟩, Hb.out⟩
end Go.Proofs.Ythnakfdiikidaaa

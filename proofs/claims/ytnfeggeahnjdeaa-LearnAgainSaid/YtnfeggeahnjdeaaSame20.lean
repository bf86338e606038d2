/- same. -/
import Derived.Test.YtnfeggeahnjdeaaLrnO
namespace Go.Proofs.Ytnfeggeahnjdeaa
open Go.RowKit Go.Lib

theorem drop_beq {xs ys : List Int} (hl : xs.length = ys.length) {i : Nat} (h : i < xs.length) : (xs.drop i == ys.drop i) = ((xs[i] == ys[i]) && (xs.drop (i + 1) == ys.drop (i + 1))) := by
  rw [List.drop_eq_getElem_cons h, List.drop_eq_getElem_cons (by omega : i < ys.length)]
  rfl

theorem same20_ok {w : World} {A B : Option Addr} {xs ys : List Int} (c d : Nat) (h : Row .i64 w A xs) (k : Row .i64 w B ys) :
    Calls Try.prog 13 #[.slice A xs.length c, .slice B ys.length d] w fun e w' => e = .returned (.bool (xs == ys)) ∧ ∃ q, w' = w.drewN q := by
  have hlen := h.len
  have klen := k.len
  have H := Lib.hid h
  have K := Lib.hid k
  clear h k
  by_cases hl : xs.length = ys.length
  · have hb : ((xs.length : Int) != ys.length) = false := by simp [hl]
    have Hl := Lib.hid hl
    clear hl
    go_enter Try.func13, Try.ntmps13
    go_wp2
    go_loopw [5] (fun vi wx => ∃ (i : Nat) (q : Nat), i ≤ xs.length ∧ vi = .int .i64 i ∧ wx = w.drewN q ∧ (xs == ys) = (xs.drop i == ys.drop i)) (fun vi _ => (xs.length - intOf vi).toNat)
    case atStart => exact ⟨0, 0, Nat.zero_le _, rfl, rfl, rfl⟩
    case round =>
      obtain ⟨i, q, hi, rfl, rfl, hinv⟩ := hrel
      by_cases hlt : i < xs.length
      · have d1 : decide ((i : Int) < xs.length) = true := by simp; omega
        have hlt2 : i < ys.length := by rw [← Hl.out]; exact hlt
        rw [drop_beq Hl.out hlt] at hinv
        obtain ⟨b, off, hA, hb, hcell⟩ := H.out.at_.resolve_left (by omega)
        obtain ⟨b2, off2, hB, hb2, hcell2⟩ := K.out.at_.resolve_left (by omega)
        subst hA hB
        have y0 := hcell i hlt
        have y1 := hcell2 i hlt2
        have HI := Lib.hid hinv
        clear hcell hcell2 hinv
        generalize xs[i] = x at *
        generalize ys[i] = y at *
        have t1 : (0 : Int) ≤ (i : Int) := by omega
        have t2 : (i : Int) < (xs.length : Int) := by omega
        have t3 : (i : Int) < (ys.length : Int) := by omega
        by_cases e : x = y
        · subst e
          have hne : (x != x) = false := by simp
          go_wp2
          go_quiet (fail)
          go_wp2
          go_roundw
          case rel => exact ⟨i + 1, _, by omega, by go_num, rfl, by rw [HI.out]; simp⟩
          case measure => simp only [intOf]; omega
        · have hne : (x != y) = true := by simp [e]
          have hbe : (x == y) = false := by simp [e]
          rw [hbe, Bool.false_and] at HI
          clear e hbe
          go_wp2
          go_quiet (fail)
          go_wp2
          go_ret
          exact ⟨by rw [HI.out]; rfl, _, World.drewN_drewN _ _ _⟩
      · obtain rfl : i = xs.length := by omega
        have d1 : decide ((xs.length : Int) < xs.length) = false := by simp
        rw [List.drop_length, List.drop_of_length_le (by rw [Hl.out]; exact Nat.le_refl _)] at hinv
        have HI := Lib.hid hinv
        clear hinv
        go_wp2
        go_ret
        exact ⟨by rw [HI.out]; rfl, q, rfl⟩
  · have hb : ((xs.length : Int) != ys.length) = true := by simp; omega
    have hf : (xs == ys) = false := by
      simp only [beq_eq_false_iff_ne]
      exact fun e => hl (by rw [e])
    have HF := Lib.hid hf
    clear hl hf
    go_enter Try.func13, Try.ntmps13
    go_wp2
    go_ret
    exact ⟨by rw [HF.out]; rfl, 0, rfl⟩
end Go.Proofs.Ytnfeggeahnjdeaa

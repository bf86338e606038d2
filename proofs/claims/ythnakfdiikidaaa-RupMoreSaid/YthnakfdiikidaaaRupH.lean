/- Refutes. -/
import Derived.Test.YthnakfdiikidaaaRupG
namespace Go.Proofs.Ythnakfdiikidaaa
open Go.RowKit Go.Lib

def refutesM (l s : List (List Int)) : Bool := decide (0 < s.length) && (s.getD (s.length - 1) [0]).isEmpty && decide (rowM l s 0 < 0)

set_option maxHeartbeats 1000000 in
theorem refutes_ok {w : World} {LA SA : Option Addr} {L S : List (Option Addr × Nat × List Int)} (cl cs : Nat) (hg : Grid w LA L) (hs : Grid w SA S) (hL : L.length ≤ 1000) (hS : S.length ≤ 1000) (hm : ∀ r ∈ S, ∀ x ∈ r.2.2, x ≤ 9223372036854775807) :
    Calls Try.prog 12 #[.slice LA L.length cl, .slice SA S.length cs] w fun e w' => e = .returned (.bool (refutesM (rowsOf L) (rowsOf S))) ∧ Below w.heap.size w w' := by
  have K := row_ok cl cs hg hs hL hS hm
  have hl : (rowsOf S).length = S.length := List.length_map _
  by_cases h0 : S.length = 0
  · have hr : refutesM (rowsOf L) (rowsOf S) = false := by unfold refutesM; rw [hl, h0]; rfl
    rw [hr]
    have d1 : decide ((0 : Int) < S.length) = false := by rw [h0]; rfl
    clear hr hl
    go_enter Try.func12, Try.ntmps12
    go_wp2
    go_ret
    exact ⟨rfl, Below.refl _ _⟩
  have d1 : decide ((0 : Int) < S.length) = true := by simp; omega
  obtain ⟨b, off, rfl, hb, hc⟩ := hs.at_.resolve_left (by omega)
  have hj : S.length - 1 < S.length := by omega
  have y0 := (hc (S.length - 1) hj).1
  have hq : ((S.length : Int) - 1).toNat = S.length - 1 := by omega
  have t1 : (0 : Int) ≤ (S.length : Int) - 1 := by omega
  have t2 : (S.length : Int) - 1 < S.length := by omega
  have hd : (rowsOf S).getD (S.length - 1) [0] = S[S.length - 1].2.2 := by
    rw [List.getD_eq_getElem?_getD]
    unfold rowsOf
    rw [List.getElem?_map, List.getElem?_eq_getElem hj]
    rfl
  have hr : refutesM (rowsOf L) (rowsOf S) = (S[S.length - 1].2.2.isEmpty && decide (rowM (rowsOf L) (rowsOf S) 0 < 0)) := by
    unfold refutesM
    rw [hl, hd, show decide (0 < S.length) = true by simp; omega, Bool.true_and]
  rw [hr]
  have hll := (hc (S.length - 1) hj).2.1.len
  generalize S[S.length - 1] = sk at *
  generalize rowM (rowsOf L) (rowsOf S) 0 = q at *
  clear hr hd hl hc hg hs hm
  by_cases h1 : sk.2.2.length = 0
  · have d2 : ((sk.2.2.length : Int) == 0) = true := by rw [h1]; rfl
    have he : sk.2.2.isEmpty = true := by rw [List.isEmpty_iff]; exact List.eq_nil_of_length_eq_zero h1
    rw [he, Bool.true_and]
    clear he h1
    go_enter Try.func12, Try.ntmps12
    go_wp2_with (go_at_call 10; go_loud (with_reducible refine K.mono ?_); rintro e w1 ⟨rfl, hb1⟩; have HB1 := Lib.hid hb1; clear hb1)
    go_ret
    exact ⟨rfl, HB1.out⟩
  · have d2 : ((sk.2.2.length : Int) == 0) = false := by rw [beq_eq_false_iff_ne]; omega
    have he : sk.2.2.isEmpty = false := by rw [Bool.eq_false_iff]; intro h; rw [List.isEmpty_iff] at h; rw [h] at h1; exact h1 rfl
    rw [he, Bool.false_and]
    clear he h1
    go_enter Try.func12, Try.ntmps12
    go_wp2
    go_ret
    exact ⟨rfl, Below.refl _ _⟩
end Go.Proofs.Ythnakfdiikidaaa

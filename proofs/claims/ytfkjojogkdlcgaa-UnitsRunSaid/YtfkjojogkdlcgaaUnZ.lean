/- Values. -/
import Derived.Test.YtfkjojogkdlcgaaUnX
namespace Go.Proofs.Ytfkjojogkdlcgaa
open Go.RowKit Go.Lib

theorem rep_put_lt {A puts : List Int} (hr : Rep A puts) (ok : LitsOk puts) {x : Int} (hx : x ∈ puts) : (x / 2).toNat < A.length := by
  have hxr := ok.rng x hx
  have h := hr (x / 2).toNat
  rcases Nat.lt_or_ge (x / 2).toNat A.length with h1 | h1
  · exact h1
  · exfalso
    rw [List.getElem?_eq_none h1] at h
    have h : (0 : Int) = valL puts (2 * ((x / 2).toNat : Int)) := h
    by_cases hp : x % 2 = 0
    · have e : 2 * ((x / 2).toNat : Int) = x := by omega
      rw [e, valL_one.2 hx] at h
      cases h
    · have e : 2 * ((x / 2).toNat : Int) = negM x := by unfold negM; rw [if_neg hp]; omega
      rw [e, valL_two.2 ⟨ok.not_both hx, by rw [negM_negM]; exact hx⟩] at h
      cases h
theorem nodes_le {A puts : List Int} (hr : Rep A puts) (ok : LitsOk puts) : nodesLen puts ≤ A.length := nodes_max _ _ _ (Nat.zero_le _) fun y hy => by
  obtain ⟨x, hx, rfl⟩ := List.mem_map.1 hy
  exact rep_put_lt hr ok hx
theorem foldl_max_ge : ∀ (l : List Nat) (m : Nat), m ≤ l.foldl Nat.max m ∧ ∀ y ∈ l, y ≤ l.foldl Nat.max m
  | [], m => ⟨Nat.le_refl _, fun y hy => by cases hy⟩
  | x :: r, m => by
    obtain ⟨h1, h2⟩ := foldl_max_ge r (Nat.max m x)
    have e1 : m ≤ Nat.max m x := Nat.le_max_left _ _
    have e2 : x ≤ Nat.max m x := Nat.le_max_right _ _
    refine ⟨Nat.le_trans e1 h1, fun y hy => ?_⟩
    rcases List.mem_cons.1 hy with rfl | hy
    · exact Nat.le_trans e2 h1
    · exact h2 y hy
theorem nodes_gt {puts : List Int} {x : Int} (hx : x ∈ puts) : (x / 2).toNat < nodesLen puts :=
  (foldl_max_ge _ 0).2 _ (List.mem_map.2 ⟨x, hx, rfl⟩)
theorem rep_take {A puts : List Int} (hr : Rep A puts) (_ : LitsOk puts) : Rep (A.take (nodesLen puts)) puts := by
  intro n
  rcases Nat.lt_or_ge n (nodesLen puts) with h | h
  · rw [List.getElem?_take_of_lt h]; exact hr n
  · rw [List.getElem?_eq_none (by rw [List.length_take]; omega)]
    have : valL puts (2 * (n : Int)) = 0 := by
      rw [valL_zero]
      refine ⟨fun hx => ?_, fun hx => ?_⟩
      · have := nodes_gt hx; omega
      · have h2 := nodes_gt hx
        have : negM (2 * (n : Int)) / 2 = n := by rw [negM_half]; omega
        omega
    rw [this]; rfl
theorem rep_ext {A A' puts : List Int} (hr : Rep A puts) (hr' : Rep A' puts) (hl : A.length = A'.length) : A = A' := by
  refine List.ext_getElem hl fun n h1 h2 => ?_
  have a := hr n
  have b := hr' n
  rw [List.getElem?_eq_getElem h1] at a
  rw [List.getElem?_eq_getElem h2] at b
  exact a.trans b.symm

theorem tight_ok {w : World} {AA : Option Addr} {A : List Int} (cap m : Nat) (mt : Int) (hmt : mt + 1 = m) (hm : m ≤ A.length) (hc : A.length ≤ cap) (hl : A.length ≤ 1000000) (hn : AA = none → cap = 0) :
    Calls Try.prog 39 #[.slice AA A.length cap, .int .i64 mt] w fun e w' => e = .returned (.slice AA m m) ∧ w = w' := by
  have t1 : (m : Int) ≤ (A.length : Int) := by omega
  have t2 : (A.length : Int) ≤ (cap : Int) := by omega
  have t3 : (m : Int) ≤ (cap : Int) := by omega
  have t4 : (0 : Int) ≤ (m : Int) := by omega
  have t5 : mt ≤ 1000000 := by omega
  have t6 : -1 ≤ mt := by omega
  have d1 : min (m : Int) (A.length : Int) = m := by omega
  cases AA with
  | none =>
    have := hn rfl
    subst this
    have hA : A.length = 0 := by omega
    have hm0 : m = 0 := by omega
    rw [hA] at d1 t1 t2 ⊢
    subst hm0
    clear hA hn hc hm hl
    go_enter Try.func39, Try.ntmps39
    go_wp2
    go_ret
    exact ⟨rfl, rfl⟩
  | some a =>
    clear hn
    go_enter Try.func39, Try.ntmps39
    go_wp2
    go_ret
    exact ⟨rfl, rfl⟩
end Go.Proofs.Ytfkjojogkdlcgaa

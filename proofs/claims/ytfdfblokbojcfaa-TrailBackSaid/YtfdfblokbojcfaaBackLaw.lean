/- TrailBack's plain law. -/
import Derived.Test.YtfdfblokbojcfaaTrailVals
import Derived.Test.YtfdfblokbojcfaaBits
namespace Go.Proofs.Ytfdfblokbojcfaa
open Go.RowKit

def Rise (M : Tr) : Prop := M.L.Pairwise fun p q => p.level ≤ q.level
def Reas (M : Tr) : Prop := ∀ p ∈ M.L, -1 ≤ p.reason
/-- What TrailBack asks of the trail that it has built. -/
structure Built (M : Tr) : Prop where
  n : M.n = 60
  good : Good M
  rise : Rise M
  reas : Reas M

theorem Built.begin_ {M : Tr} (h : Built M) : Built (beginM M) := by
  refine ⟨by rw [beginM_n, h.n], h.good.begin_, ?_, ?_⟩
  · unfold beginM
    split
    · exact h.rise
    · exact h.rise
  · unfold beginM
    split
    · exact h.reas
    · exact h.reas
theorem Built.put {M : Tr} (h : Built M) (lit reason : Int) (hr : -1 ≤ reason) : Built (putM M lit reason) := by
  refine ⟨by rw [putM_n, h.n], h.good.put _ _, ?_, ?_⟩
  · unfold putM
    split
    · exact h.rise
    · split
      · exact h.rise
      · show (M.L ++ [_]).Pairwise _
        rw [List.pairwise_append]
        refine ⟨h.rise, by simp, fun a ha b hb => ?_⟩
        obtain rfl : b = _ := List.mem_singleton.1 hb
        exact h.good a ha
  · unfold putM
    split
    · exact h.reas
    · split
      · exact h.reas
      · intro p hp
        rcases List.mem_append.1 hp with hp | hp
        · exact h.reas p hp
        · obtain rfl : p = _ := List.mem_singleton.1 hp
          exact hr

theorem find_self {M : Tr} (h : M.Ok) {j : Nat} (hj : j < M.L.length) : find M.L (M.L[j].lit / 2) = some M.L[j] := by
  unfold find
  rw [List.find?_eq_some_iff_getElem]
  refine ⟨by simp [isAt], j, hj, rfl, fun i hi => ?_⟩
  have := List.pairwise_iff_getElem.1 h.nodup i j (by omega) hj hi
  simpa [isAt] using this
theorem val_self {M : Tr} (h : M.Ok) {j : Nat} (hj : j < M.L.length) : valOf M.L M.L[j].lit = 1 := by
  unfold valOf
  rw [find_self h hj]
  exact if_pos rfl
theorem val_turn {M : Tr} (h : M.Ok) {j : Nat} (hj : j < M.L.length) : valOf M.L (bits .xor .i64 M.L[j].lit 1) = 2 := by
  have hl := h.lit M.L[j] (List.getElem_mem hj)
  have hn := h.n
  rw [i64_xor_one _ hl.1 (by omega)]
  unfold valOf
  have e : (if M.L[j].lit % 2 = 0 then M.L[j].lit + 1 else M.L[j].lit - 1) / 2 = M.L[j].lit / 2 := by split <;> omega
  rw [e, find_self h hj]
  refine if_neg ?_
  split <;> omega
theorem level_self {M : Tr} (h : M.Ok) {j : Nat} (hj : j < M.L.length) : levelOf M.L (M.L[j].lit / 2) = M.L[j].level := by
  unfold levelOf
  rw [find_self h hj]
theorem reason_self {M : Tr} (h : M.Ok) {j : Nat} (hj : j < M.L.length) : reasonOf M.L (M.L[j].lit / 2) = M.L[j].reason := by
  unfold reasonOf
  rw [find_self h hj]
/-- The level of the element ahead. -/
def lastOf (L : List Pt) : Nat → Int
  | 0 => 0
  | j + 1 => (L[j]?.map Pt.level).getD 0
theorem last_le {M : Tr} (h : M.Ok) (hr : Rise M) {j : Nat} (hj : j < M.L.length) : lastOf M.L j ≤ M.L[j].level := by
  cases j with
  | zero => exact (h.level _ (List.getElem_mem hj)).1
  | succ i =>
    have hi : i < M.L.length := by omega
    simp only [lastOf, List.getElem?_eq_getElem hi, Option.map_some, Option.getD_some]
    exact List.pairwise_iff_getElem.1 hr i (i + 1) hi hj (by omega)
theorem last_succ {L : List Pt} {j : Nat} (hj : j < L.length) : lastOf L (j + 1) = L[j].level := by
  simp only [lastOf, List.getElem?_eq_getElem hj, Option.map_some, Option.getD_some]

/-- The level that is gone back to. -/
theorem mod_in (a : Int) (n : Nat) : ∃ k : Nat, k ≤ n ∧ ((a.tmod ((n : Int) + 1)) + ((n : Int) + 1)).tmod ((n : Int) + 1) = k ∧ -(n : Int) ≤ a.tmod ((n : Int) + 1) ∧ a.tmod ((n : Int) + 1) ≤ n := by
  have h1 : a.tmod ((n : Int) + 1) < (n : Int) + 1 := Int.tmod_lt_of_pos a (by omega)
  have h2 : -((n : Int) + 1) < a.tmod ((n : Int) + 1) := Int.lt_tmod_of_pos a (by omega)
  have h3 : 0 ≤ a.tmod ((n : Int) + 1) + ((n : Int) + 1) := by omega
  have h4 := Int.tmod_lt_of_pos (a.tmod ((n : Int) + 1) + ((n : Int) + 1)) (show (0 : Int) < (n : Int) + 1 by omega)
  have h5 := Int.tmod_nonneg ((n : Int) + 1) h3
  refine ⟨((a.tmod ((n : Int) + 1) + ((n : Int) + 1)).tmod ((n : Int) + 1)).toNat, by omega, by omega, by omega, by omega⟩

theorem gone_at {L : List Pt} {lev : Int} {i : Nat} (hi : i < L.length) (hg : L.length - above lev L ≤ i) :
    ((L.reverse.take (above lev L)).map Pt.lit)[L.length - 1 - i]? = some L[i].lit := by
  have := above_le lev L
  have h1 : L.length - 1 - i < above lev L := by omega
  rw [List.getElem?_map, List.getElem?_take, if_pos h1, List.getElem?_reverse (by omega), show L.length - 1 - (L.length - 1 - i) = i by omega, List.getElem?_eq_getElem hi]
  rfl
theorem above_of {L : List Pt} {lev : Int} {i : Nat} (hi : i < L.length) (hg : L.length - above lev L ≤ i) : lev < L[i].level := by
  have := above_le lev L
  have h := above_lt (lev := lev) (L := L) (k := L.length - 1 - i) (by omega) (by omega)
  rw [show L[L.length - 1 - (L.length - 1 - i)] = L[i] by congr 1; omega] at h
  exact h
theorem put_again {M : Tr} (h : M.Ok) (hr : Reas M) {i q : Nat} (hi : i < M.L.length) (hq : M.L[i].level = q) :
    putE ⟨M.n, M.L.take i, q⟩ M.L[i].lit M.L[i].reason = 0 ∧ putM ⟨M.n, M.L.take i, q⟩ M.L[i].lit M.L[i].reason = ⟨M.n, M.L.take (i + 1), q⟩ := by
  have hl := h.lit _ (List.getElem_mem hi)
  have hre := hr _ (List.getElem_mem hi)
  have hb : ¬ putBad ⟨M.n, M.L.take i, q⟩ M.L[i].lit M.L[i].reason = true := by
    simp [putBad]
    omega
  have hf : find (M.L.take i) (M.L[i].lit / 2) = none := find_take_none hi h.nodup
  refine ⟨?_, ?_⟩
  · unfold putE
    rw [if_neg hb, hf]
  · unfold putM
    rw [if_neg hb, hf]
    simp only []
    rw [List.take_succ_eq_append_getElem hi, ← hq]
theorem val_gone {M : Tr} (h : M.Ok) {i : Nat} (hi : i < M.L.length) : valOf (M.L.take i) M.L[i].lit = 0 := by
  unfold valOf
  rw [find_take_none hi h.nodup]

theorem IntsFrom.at_ {w : World} {H : Nat} {A : Option Addr} {n cap : Nat} {l : List Int} (h : IntsFrom w H (.slice A n cap) l) : n = l.length ∧ ∀ j (hj : j < l.length), ∃ a, A = some a ∧ a.block < w.heap.size ∧ w.cell? (a.add j) = some (.int .i64 l[j]) := by
  obtain ⟨A', cap', e, hat⟩ := h.form
  injection e with e1 e2 e3
  subst e1 e2
  refine ⟨rfl, fun j hj => ?_⟩
  obtain ⟨a, ha, hlt, hc⟩ := hat.2 (by omega)
  exact ⟨a, ha, hlt, hc j hj⟩
theorem IntsFrom.shape {w : World} {H : Nat} {v : Value} {l : List Int} (h : IntsFrom w H v l) : ∃ A cap, v = .slice A l.length cap := by
  obtain ⟨A, cap, e, _⟩ := h.form
  exact ⟨A, cap, e⟩
theorem levels_Tq {w : World} {B bt ba : Nat} {M : Tr} (h : TT w B bt ba M) : Calls Try.prog 14 #[.pointer (some ⟨bt, 0, none⟩)] w fun e w' => e = .returned (.int .i64 M.lv) ∧ w' = w :=
  (levels_T h).mono fun _ _ ⟨he, hw⟩ => ⟨he, hw.symm⟩
end Go.Proofs.Ytfdfblokbojcfaa

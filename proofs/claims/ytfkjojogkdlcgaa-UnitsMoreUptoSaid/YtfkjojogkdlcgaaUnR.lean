/- In whatever order clauses stand; again with what was put; same. -/
import Derived.Test.YtfkjojogkdlcgaaUnO
namespace Go.Proofs.Ytfkjojogkdlcgaa
open Go.RowKit Go.Lib

theorem LitsOk.nodup {l : List Int} (h : LitsOk l) : l.Nodup := h.dis.imp fun h e => h (by rw [e])
theorem len_le_of_sub : ∀ (l m : List Int), l.Nodup → (∀ x ∈ l, x ∈ m) → l.length ≤ m.length
  | [], _, _, _ => Nat.zero_le _
  | x :: r, m, hn, hs => by
    obtain ⟨h1, h2⟩ := List.nodup_cons.1 hn
    have hx := hs x List.mem_cons_self
    have := len_le_of_sub r (m.erase x) h2 fun y hy => by
      have hne : y ≠ x := fun e => h1 (by rw [← e]; exact hy)
      exact (List.mem_erase_of_ne hne).2 (hs y (List.mem_cons_of_mem _ hy))
    rw [List.length_erase_of_mem hx] at this
    have := List.length_pos_of_mem hx
    rw [List.length_cons]
    omega
theorem run_sub {cs cs' : List (List Int)} {given given' : List Int} (h : ∀ c ∈ cs', c ∈ cs) (hg : ∀ x ∈ given', x ∈ given) (hk : (runM cs given).2 = -1) : (runM cs' given').2 = -1 ∧ ∀ x ∈ (runM cs' given').1, x ∈ (runM cs given).1 := by
  obtain ⟨h1, h2⟩ := run_none hk
  refine run_least (run_lits cs given) (fun x hx hw => h1 x (hg x hx) hw) (plains_nodup cs') fun c hc => ?_
  obtain ⟨d, hd, rfl⟩ := List.mem_map.1 hc
  exact h2 _ (List.mem_map.2 ⟨d, h d hd, rfl⟩)
theorem givens_all : ∀ (l acc : List Int), LitsOk (acc ++ l) → givenM l acc = (acc ++ l, true)
  | [], acc, _ => by unfold givenM; rw [List.append_nil]
  | x :: r, acc, h => by
    unfold givenM
    have hx := h.rng x (by simp)
    have hv : valL acc x = 0 := by
      rw [valL_zero]
      have hd := (List.pairwise_append.1 h.dis).2.2
      exact ⟨fun hm => hd x hm x (by simp) rfl, fun hm => hd (negM x) hm x (by simp) negM_half⟩
    rw [if_neg (by rw [(wide_iff x).2 hx]; decide), if_neg (by rw [hv]; decide), if_neg (by rw [hv]; decide), givens_all r (acc ++ [x]) (by simpa using h)]
    simp
theorem run_again {cs : List (List Int)} {given : List Int} (hk : (runM cs given).2 = -1) : runM cs (runM cs given).1 = ((runM cs given).1, -1) := by
  have hok := run_lits cs given
  obtain ⟨_, h2⟩ := run_none hk
  generalize (runM cs given).1 = lits at hok h2
  have hg := givens_all lits [] (by simpa using hok)
  rw [List.nil_append] at hg
  unfold runM
  rw [hg]
  simp only [if_true]
  rw [runL]
  rcases look_cases (valL lits) (cs.map plainM) with ⟨_, c, hc, hf⟩ | ⟨e1, e2, _⟩ | ⟨_, _, _, c, hc, hx, hv, ho⟩
  · exact absurd hf (h2 c hc).1
  · rw [if_neg (by omega), if_pos e2]
  · exact absurd (by rw [st_two_of (plains_nodup cs c hc) hx hv ho]) (h2 c hc).2
/-- Clauses turned about. -/
def turned {α : Type} (R : List α) (s : Nat) (d : α) : List α := (List.range R.length).map fun i => R.getD ((i + s) % R.length) d
theorem turned_len {α : Type} (R : List α) (s : Nat) (d : α) : (turned R s d).length = R.length := by unfold turned; rw [List.length_map, List.length_range]
theorem turned_get {α : Type} (R : List α) (s : Nat) (d : α) {i : Nat} (h : i < R.length) (h2 : i < (turned R s d).length) : (turned R s d)[i] = R[(i + s) % R.length]'(Nat.mod_lt _ (by omega)) := by
  simp only [turned, List.getElem_map, List.getElem_range]
  rw [List.getD_eq_getElem?_getD, List.getElem?_eq_getElem (Nat.mod_lt _ (by omega))]
  rfl
theorem turned_mem {α : Type} (R : List α) (s : Nat) (d : α) (hs : s < R.length) (x : α) : x ∈ turned R s d ↔ x ∈ R := by
  constructor
  · intro h
    obtain ⟨i, hi, rfl⟩ := List.mem_iff_getElem.1 h
    rw [turned_get R s d (by rw [turned_len] at hi; exact hi)]
    exact List.getElem_mem _
  · intro h
    obtain ⟨j, hj, rfl⟩ := List.mem_iff_getElem.1 h
    have hi : (j + R.length - s) % R.length < R.length := Nat.mod_lt _ (by omega)
    have e : ((j + R.length - s) % R.length + s) % R.length = j := by
      rw [Nat.mod_add_mod]
      have : j + R.length - s + s = j + R.length := by omega
      rw [this, Nat.add_mod_right, Nat.mod_eq_of_lt hj]
    have hi2 : (j + R.length - s) % R.length < (turned R s d).length := by rw [turned_len]; exact hi
    have h2 := turned_get R s d hi hi2
    simp only [e] at h2
    rw [← h2]
    exact List.getElem_mem hi2
end Go.Proofs.Ytfkjojogkdlcgaa

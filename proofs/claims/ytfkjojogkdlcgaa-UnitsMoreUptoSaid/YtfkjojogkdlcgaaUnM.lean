/- The reference's Is; what is put holds. -/
import Derived.Test.YtfkjojogkdlcgaaUnL
namespace Go.Proofs.Ytfkjojogkdlcgaa
open Go.RowKit Go.Lib

theorem is15_ok {w : World} {A : Option Addr} {zs : List Int} (cap : Nat) (h : Row .i64 w A zs) (hz : zs.length ≤ 100000) :
    Calls Try.prog 13 #[.slice A zs.length cap] w fun e w' => e = .returned (.bool (zs == makeM zs)) ∧ Below w.heap.size w w' := by
  generalize hq : (zs == makeM zs) = q
  have Hq := Lib.hid hq
  have H := Lib.hid h
  have K1 := make15_ok cap h hz
  clear h hq
  go_enter Try.func13, Try.ntmps13
  go_wp2_with (first
    | (go_at_call 32; (with_reducible refine K1.mono ?_); rintro e w1 ⟨B, d, rfl, hr1, _, hb1⟩; have Hr1 := Lib.hid hr1; have Hb1 := Lib.hid hb1; clear hr1 hb1)
    | (go_at_call 31; refine (sameRef_ok cap d (H.out.below Hb1.out) Hr1.out).mono ?_; rintro e w2 ⟨rfl, n2, rfl⟩; rw [Hq.out]))
  go_ret
  exact ⟨rfl, below_drewN Hb1.out n2⟩

/-- No literal holds with its negation. -/
theorem val_not_both {vals : List Int} {x : Int} (h0 : 0 ≤ x) (h : valM vals x = 1) : valM vals (negM x) ≠ 1 := by
  have hn : 0 ≤ negM x := by unfold negM; split <;> omega
  unfold valM at h ⊢
  rw [if_neg (by omega)] at h
  rw [if_neg (by omega), negM_half]
  have hx : negM x % 2 = if x % 2 = 0 then 1 else 0 := by unfold negM; split <;> omega
  cases hv : vals[(x / 2).toNat]? with
  | none => rw [hv] at h; cases h
  | some v =>
    rw [hv] at h
    simp only at h ⊢
    by_cases h1 : v = 1
    · rw [if_pos h1] at h ⊢
      by_cases hp : x % 2 = 0 <;> simp [hp, hx] at h ⊢
    · rw [if_neg h1] at h ⊢
      by_cases h2 : v = 2
      · rw [if_pos h2] at h ⊢
        by_cases hp : x % 2 = 0 <;> simp [hp, hx] at h ⊢
      · rw [if_neg h2] at h; cases h
theorem val_small {vals : List Int} {x : Int} (hl : vals.length ≤ 3000) (h : valM vals x = 1) : 0 ≤ x ∧ x ≤ 1048576 := by
  unfold valM at h
  by_cases h0 : x < 0
  · rw [if_pos h0] at h; cases h
  · rw [if_neg h0] at h
    refine ⟨by omega, ?_⟩
    rcases Nat.lt_or_ge (x / 2).toNat vals.length with h1 | h1
    · omega
    · rw [List.getElem?_eq_none h1] at h; cases h
theorem val_neg (vals : List Int) {x : Int} (h : x < 0) : valM vals x = 0 := by unfold valM; rw [if_pos h]
theorem st_true (vals : List Int) : ∀ (c : List Int) (o : Nat) (l : Int), (stM vals c o l).1 = 0 ↔ ∃ x ∈ c, valM vals x = 1
  | [], o, l => by
    unfold stM
    constructor
    · intro h
      split at h
      · cases h
      · split at h <;> cases h
    · rintro ⟨x, hx, _⟩
      cases hx
  | x :: r, o, l => by
    unfold stM
    by_cases h1 : valM vals x = 1
    · rw [if_pos h1]
      exact ⟨fun _ => ⟨x, List.mem_cons_self, h1⟩, fun _ => rfl⟩
    · rw [if_neg h1]
      have key : (∃ y ∈ x :: r, valM vals y = 1) ↔ ∃ y ∈ r, valM vals y = 1 := by
        constructor
        · rintro ⟨y, hy, hv⟩
          rcases List.mem_cons.1 hy with rfl | hy
          · exact absurd hv h1
          · exact ⟨y, hy, hv⟩
        · rintro ⟨y, hy, hv⟩
          exact ⟨y, List.mem_cons_of_mem _ hy, hv⟩
      rw [key]
      split
      · exact st_true vals r _ _
      · exact st_true vals r _ _
theorem mem_plain {c : List Int} {x : Int} (hx : x ∈ c) (hr : 0 ≤ x ∧ x ≤ 1048576) : x ∈ plainM c := by
  unfold plainM
  exact List.mem_filter.2 ⟨(mem_make _ _).2 ⟨hx, hr.1⟩, by rw [(wide_iff x).2 hr]; rfl⟩
theorem run_sound {cs : List (List Int)} {given vals : List Int} (hl : vals.length ≤ 3000) (hg : ∀ x ∈ given, 0 ≤ x → valM vals x = 1) (hc : holdsM vals cs = true) : (∀ x ∈ (runM cs given).1, valM vals x = 1) ∧ (runM cs given).2 = -1 := by
  have hcs : ∀ c ∈ cs, ∃ x ∈ c, valM vals x = 1 := fun c hc' => by
    have := List.all_eq_true.1 hc c hc'
    exact (st_true vals c 0 (-1)).1 (by simpa using this)
  have hgm : ∀ x ∈ (givenM given []).1, valM vals x = 1 := given_ind (P := fun l => ∀ x ∈ l, valM vals x = 1) given [] (fun x hx => by cases hx) fun lits x hp hx hw _ y hy => by
    rcases List.mem_append.1 hy with hy | hy
    · exact hp y hy
    · rw [List.mem_singleton.1 hy]; exact hg x hx ((wide_iff x).1 hw).1
  have fals : ∀ {lits : List Int}, (∀ x ∈ lits, valM vals x = 1) → ∀ y, 0 ≤ y → valL lits y ≠ 1 → valL lits y ≠ 0 → valM vals y ≠ 1 := by
    intro lits hp y h0 h1 h2 hv
    rcases valL_cases lits y with e | e | e
    · exact h2 e
    · exact h1 e
    · exact val_not_both h0 hv (hp _ (valL_two.1 e).2)
  unfold runM
  by_cases hgb : (givenM given []).2 = true
  · rw [if_pos hgb]
    refine runL_ind (cs := cs.map plainM) (P := fun l => ∀ x ∈ l, valM vals x = 1) (Q := fun r => (∀ x ∈ r.1, valM vals x = 1) ∧ r.2 = -1) (fun lits x c hp hcm hx hv ho _ => ?_) (fun lits k c hp h0 hcm hf => ?_) (fun lits hp _ _ => ⟨hp, rfl⟩) _ _ (Nat.le_refl _) hgm
    · intro y hy
      rcases List.mem_append.1 hy with hy | hy
      · exact hp y hy
      · rw [List.mem_singleton.1 hy]
        obtain ⟨d, hd, rfl⟩ := List.mem_map.1 hcm
        obtain ⟨z, hz, hzv⟩ := hcs d hd
        have hzr := val_small hl hzv
        rcases ho z (mem_plain hz hzr) with e | ⟨e1, e2⟩
        · rw [← e]; exact hzv
        · exact absurd hzv (fals hp z hzr.1 e1 e2)
    · exfalso
      obtain ⟨d, hd, rfl⟩ := List.mem_map.1 hcm
      obtain ⟨z, hz, hzv⟩ := hcs d hd
      have hzr := val_small hl hzv
      have := hf z (mem_plain hz hzr)
      exact fals hp z hzr.1 this.1 this.2 hzv
  · exfalso
    obtain ⟨x, hx, hw, hv⟩ := given_no given [] (by simpa using hgb)
    have h0 := ((wide_iff x).1 hw).1
    exact val_not_both h0 (hg x hx h0) (hgm _ (valL_two.1 hv).2)
end Go.Proofs.Ytfkjojogkdlcgaa

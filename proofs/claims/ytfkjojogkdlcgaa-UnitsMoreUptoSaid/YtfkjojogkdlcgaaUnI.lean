/- What the laws' walks share. -/
import Derived.Test.YtfkjojogkdlcgaaUnH
namespace Go.Proofs.Ytfkjojogkdlcgaa
open Go.RowKit Go.Lib

theorem plain_sub {c : List Int} {x : Int} (h : x ∈ plainM c) : x ∈ c := by
  unfold plainM makeM at h
  have h1 := (made_mem _ _).1 (List.mem_filter.1 h).1
  exact (List.mem_filter.1 h1).1
theorem run_from (cs : List (List Int)) (given : List Int) : ∀ x ∈ (runM cs given).1, x ∈ given ∨ ∃ c ∈ cs, x ∈ c := by
  have hg : ∀ x ∈ (givenM given []).1, x ∈ given ∨ ∃ c ∈ cs, x ∈ c := given_ind (P := fun l => ∀ x ∈ l, x ∈ given ∨ ∃ c ∈ cs, x ∈ c) given [] (fun x hx => by cases hx) fun lits x hp hx _ _ y hy => by
    rcases List.mem_append.1 hy with hy | hy
    · exact hp y hy
    · rw [List.mem_singleton.1 hy]; exact .inl hx
  unfold runM
  split
  · refine runL_ind (P := fun l => ∀ x ∈ l, x ∈ given ∨ ∃ c ∈ cs, x ∈ c) (Q := fun r => ∀ x ∈ r.1, x ∈ given ∨ ∃ c ∈ cs, x ∈ c) (fun lits x c hp hc hx _ _ _ y hy => ?_) (fun _ _ _ hp _ _ _ => hp) (fun _ hp _ _ => hp) _ _ (Nat.le_refl _) hg
    rcases List.mem_append.1 hy with hy | hy
    · exact hp y hy
    · rw [List.mem_singleton.1 hy]
      obtain ⟨d, hd, rfl⟩ := List.mem_map.1 hc
      exact .inr ⟨d, hd, plain_sub hx⟩
  · exact hg

theorem one_row (w : World) (x : Int) : Row .i64 (w.alloc (.cells #[.int .i64 x] 3)) (some ⟨w.heap.size, 0, none⟩) [x] := blk_row (Blk.new w 3 #[.int .i64 x]) (by simp)

/-- What is known of clauses and literals that are not great. -/
structure Tame (w : World) (A0 : Option Addr) (R : List (Option Addr × Nat × List Int)) (A1 : Option Addr) (c1 : Nat) (zs : List Int) : Prop where
  grid : Grid w A0 R
  row : Row .i64 w A1 zs
  nil : A1 = none → c1 = 0
  r80 : R.length ≤ 80
  z200 : zs.length ≤ 200
  each : ∀ r ∈ R, r.2.2.length ≤ 20 ∧ ∀ x ∈ r.2.2, x ≤ 4000
  zmax : ∀ x ∈ zs, x ≤ 4000
theorem tame_of {w : World} {A0 : Option Addr} {l0 c0 : Nat} {A : Nat → Option Addr} {L C : Nat → Nat} {Z : Nat → List Int} {A1 : Option Addr} {l1 c1 : Nat} {z1 : List Int} (h0 : IsGrid w A0 l0 c0 A L C Z) (h1 : IsRow .i64 w A1 l1 c1 z1) (hs : Small l0 L Z l1 z1) :
    ∃ R zs, R.length = l0 ∧ zs.length = l1 ∧ Tame w A0 R A1 c1 zs := by
  obtain ⟨s1, s2, s3, s4⟩ := hs
  obtain ⟨g1, g2⟩ := h0.grid (by omega) fun r hr => by have := (s3 r hr).1; omega
  obtain ⟨r1, r2, r3, _⟩ := h1.row (by omega)
  refine ⟨_, _, g1, r1, g2, r2, r3, by omega, by omega, fun r hr => ?_, take_le s4⟩
  obtain ⟨k, hk, rfl⟩ := grid_mem hr
  obtain ⟨a1, a2⟩ := s3 k hk
  exact ⟨by show ((Z k).take (L k)).length ≤ 20; rw [List.length_take]; omega, take_le a2⟩
theorem Tame.max {w : World} {A0 : Option Addr} {R : List (Option Addr × Nat × List Int)} {A1 : Option Addr} {c1 : Nat} {zs : List Int} (h : Tame w A0 R A1 c1 zs) : ∀ x ∈ zs, x ≤ 9223372036854775807 := fun x hx => by have := h.zmax x hx; omega
end Go.Proofs.Ytfkjojogkdlcgaa

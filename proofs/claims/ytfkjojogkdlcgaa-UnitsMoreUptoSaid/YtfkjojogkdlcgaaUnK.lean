/- The reference's Make, Is. -/
import Derived.Test.YtfkjojogkdlcgaaSameRef
namespace Go.Proofs.Ytfkjojogkdlcgaa
open Go.RowKit Go.Lib

theorem mem_make (l : List Int) (x : Int) : x ∈ makeM l ↔ x ∈ l ∧ 0 ≤ x := by
  unfold makeM
  rw [made_mem, List.mem_filter]
  simp
theorem make_ord (l : List Int) : Ord (makeM l) := made_ord _
theorem make_eq {l m : List Int} (h : ∀ x, 0 ≤ x → (x ∈ l ↔ x ∈ m)) : makeM l = makeM m := by
  refine ord_ext (make_ord l) (make_ord m) fun x => ?_
  rw [mem_make, mem_make]
  constructor
  · rintro ⟨h1, h2⟩
    exact ⟨(h x h2).1 h1, h2⟩
  · rintro ⟨h1, h2⟩
    exact ⟨(h x h2).2 h1, h2⟩
/-- A literal more that is below 0, or is there. -/
theorem make_skip {l : List Int} {x : Int} (h : x < 0 ∨ x ∈ makeM l) : makeM (l ++ [x]) = makeM l := by
  refine make_eq fun y hy => ?_
  rw [List.mem_append, List.mem_singleton]
  refine ⟨fun h1 => h1.elim id fun e => ?_, .inl⟩
  subst e
  rcases h with h | h
  · omega
  · exact ((mem_make _ _).1 h).1
/-- A literal more, put in its place. -/
theorem make_ins {l : List Int} {x : Int} {k : Nat} (h0 : 0 ≤ x) (hn : x ∉ makeM l) (hlt : ∀ y ∈ (makeM l).take k, y < x) (hge : k < (makeM l).length → ∀ h : k < (makeM l).length, ¬ (makeM l)[k] < x) : (makeM l).take k ++ [x] ++ (makeM l).drop k = makeM (l ++ [x]) := by
  have ho := make_ord l
  have hgt : ∀ y ∈ (makeM l).drop k, x < y := by
    intro y hy
    have hk : k < (makeM l).length := by
      rcases Nat.lt_or_ge k (makeM l).length with h | h
      · exact h
      · rw [List.drop_eq_nil_of_le h] at hy; cases hy
    have h1 := hge hk hk
    rw [List.drop_eq_getElem_cons hk] at hy
    have hne : (makeM l)[k] ≠ x := fun e => hn (by rw [← e]; exact List.getElem_mem hk)
    rcases List.mem_cons.1 hy with rfl | hy
    · omega
    · have hp : ((makeM l).drop k).Pairwise (· < ·) := ho.drop
      rw [List.drop_eq_getElem_cons hk] at hp
      have := (List.pairwise_cons.1 hp).1 y hy
      omega
  refine ord_ext ?_ (make_ord _) fun y => ?_
  · refine List.pairwise_append.2 ⟨List.pairwise_append.2 ⟨ho.take, by simp, fun a ha b hb => ?_⟩, ho.drop, fun a ha b hb => ?_⟩
    · rw [List.mem_singleton.1 hb]; exact hlt a ha
    · have := hgt b hb
      rcases List.mem_append.1 ha with ha | ha
      · have := hlt a ha; omega
      · rw [List.mem_singleton.1 ha]; exact this
  · rw [mem_make, List.mem_append, List.mem_append, List.mem_append, List.mem_singleton]
    constructor
    · rintro ((h | h) | h)
      · have := (mem_make _ _).1 (List.mem_of_mem_take h)
        exact ⟨.inl this.1, this.2⟩
      · subst h; exact ⟨.inr rfl, h0⟩
      · have := (mem_make _ _).1 (List.mem_of_mem_drop h)
        exact ⟨.inl this.1, this.2⟩
    · rintro ⟨h | h, hy⟩
      · have hm : y ∈ makeM l := (mem_make _ _).2 ⟨h, hy⟩
        rw [← List.take_append_drop k (makeM l)] at hm
        rcases List.mem_append.1 hm with hm | hm
        · exact .inl (.inl hm)
        · exact .inr hm
      · exact .inl (.inr h)
theorem row_drop {w : World} {b off : Nat} {zs : List Int} (h : Row .i64 w (some ⟨b, off, none⟩) zs) (k : Nat) (hk : k < zs.length) : Row .i64 w (some ⟨b, off + k, none⟩) (zs.drop k) := by
  obtain ⟨b', off', hA, hb, hc⟩ := h.at_.resolve_left (by omega)
  injection hA with hA
  injection hA with h1 h2
  subst h1 h2
  refine ⟨by rw [List.length_drop]; have := h.len; omega, .inr ⟨b, off + k, rfl, hb, fun i hi => ?_⟩⟩
  rw [List.length_drop] at hi
  rw [Nat.add_assoc, hc (k + i) (by omega), List.getElem_drop]
theorem row_none {k : IntKind} {w : World} (A : Option Addr) : Row k w A [] := ⟨by simp, .inl rfl⟩
theorem own_row3 {w : World} {base n : Nat} {v : Value} {zs : List Int} (h : w.ownsRow base 3 1 v n (zs.map (Value.int .i64))) (hn : n = zs.length) (hl : zs.length ≤ 1000000) :
    ∃ B d, v = .slice B zs.length d ∧ Row .i64 w B zs ∧ (B = none → d = 0) ∧ zs.length ≤ d ∧ d ≤ 9223372036854775807 ∧ ∀ a, B = some a → ∃ cs, Blk w a.block 3 cs := by
  rcases own_cases h hn with ⟨rfl, h0⟩ | ⟨g, c, rfl, hown, _, hc⟩
  · refine ⟨none, 0, by rw [h0]; rfl, ?_, fun _ => rfl, by rw [h0]; simp, by decide, fun a ha => by cases ha⟩
    rw [h0]
    exact row_none none
  · obtain ⟨cur, hb, hh, hc2, hM, _⟩ := hown.block
    unfold maxLen at hM
    exact ⟨_, c, rfl, hown.row hl, (fun h => by cases h), hc, hM, fun a ha => by injection ha with ha; subst ha; exact ⟨cur, hh⟩⟩
end Go.Proofs.Ytfkjojogkdlcgaa

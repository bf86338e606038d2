/- A slice of acts (structs of three integers) that came in. -/
import Derived.Test.YtnfeggeahnjdeaaOpen
import Derived.Deep.Fields
namespace Go.Proofs.Ytnfeggeahnjdeaa
open Go.ChangeShapes Go.WideShapes Go.ChangeAt Go.RowKit

def IsActs (w : World) (a : Option Addr) (len cap : Nat) (f : Nat → Int × Int × Int) : Prop :=
  (a = none ∧ len = 0) ∨ ∃ x, a = some x ∧ len ≤ cap ∧ cap ≤ maxLen ∧ ∀ i, i < cap → w.cell? (x.add (i * 3)) = some (.int .i64 (f i).1) ∧ w.cell? ((x.add (i * 3)).add 1) = some (.int .i64 (f i).2.1) ∧ w.cell? ((x.add (i * 3)).add 2) = some (.int .i64 (f i).2.2)

theorem choose_below {α : Type} [Inhabited α] {m : Nat} {p : Nat → α → Prop} (h : ∀ i, i < m → ∃ x, p i x) : ∃ f : Nat → α, ∀ i, i < m → p i (f i) := by
  refine ⟨fun i => if hi : i < m then (h i hi).choose else default, fun i hi => ?_⟩
  simp only [hi, dif_pos]
  exact (h i hi).choose_spec

theorem isActs_of {H : Type} {enc : TypeId × Value → H} {P : Program} {W : World} {b : Nat} {hd : Bool} {t e : TypeId} {f0 f1 f2 : Field} {a : Option Addr} {len cap : Nat} {d : DataW H} {p : List MemPlace}
    (ht : P.underlying t = some (.slice e)) (he : P.underlying e = some (.struct #[f0, f1, f2])) (hone : Go.Deep.oneCellFields P #[f0, f1, f2] = true) (hc : P.cellsOf e = 3)
    (g0 : P.underlying f0.type = some (.int .i64)) (g1 : P.underlying f1.type = some (.int .i64)) (g2 : P.underlying f2.type = some (.int .i64))
    (h : DataW.Trod enc P W b (fun _ => true) hd t (.slice a len cap) d p) : ∃ f, IsActs W a len cap f := by
  obtain ⟨fuel, hf⟩ := h
  rcases Go.Deep.open_slice ht hf with ⟨hcs, _⟩ | ⟨x, l, c, m, n, D, Pl, hcs, _, hl, hm, hmm, _, hx⟩
  · simp [Value.cells] at hcs
    obtain ⟨rfl, rfl, rfl⟩ := hcs
    exact ⟨fun _ => (0, 0, 0), .inl ⟨rfl, rfl⟩⟩
  · simp [Value.cells] at hcs
    obtain ⟨rfl, rfl, rfl⟩ := hcs
    obtain rfl : m = cap := by simpa using hmm
    have each : ∀ i, i < m → ∃ q : Int × Int × Int, W.cell? (x.add (i * 3)) = some (.int .i64 q.1) ∧ W.cell? ((x.add (i * 3)).add 1) = some (.int .i64 q.2.1) ∧ W.cell? ((x.add (i * 3)).add 2) = some (.int .i64 q.2.2) := by
      intro i hi
      obtain ⟨cs', h1, h2⟩ := hx i hi
      rw [hc] at h1
      obtain ⟨_, hlen, hcell⟩ := World.cells?_some h1
      obtain ⟨xs, k, _, _, _, hxl, hfd⟩ := DataW.trod_struct he h2
      match xs, hxl, cs', hlen with
      | [y0, y1, y2], _, [v0, v1, v2], _ =>
        obtain ⟨o0, c0⟩ := Go.Deep.hone_of hone 0 f0 rfl
        obtain ⟨o1, c1⟩ := Go.Deep.hone_of hone 1 f1 rfl
        obtain ⟨o2, c2⟩ := Go.Deep.hone_of hone 2 f2 rfl
        have k0 := hfd 0 f0 rfl
        have k1 := hfd 1 f1 rfl
        have k2 := hfd 2 f2 rfl
        simp [o0, o1, o2, c0, c1, c2] at k0 k1 k2
        obtain ⟨n0, e0, _⟩ := DataW.trod_int g0 k0
        obtain ⟨n1, e1, _⟩ := DataW.trod_int g1 k1
        obtain ⟨n2, e2, _⟩ := DataW.trod_int g2 k2
        injection e0 with e0
        injection e1 with e1
        injection e2 with e2
        subst e0 e1 e2
        have j0 := hcell 0 (by omega)
        have j1 := hcell 1 (by omega)
        have j2 := hcell 2 (by omega)
        exact ⟨(n0, n1, n2), by simpa [Go.Deep.add_add] using j0, by simpa using j1, by simpa using j2⟩
    obtain ⟨f, hf⟩ := choose_below each
    exact ⟨f, .inr ⟨x, rfl, hl, hm, hf⟩⟩
end Go.Proofs.Ytnfeggeahnjdeaa

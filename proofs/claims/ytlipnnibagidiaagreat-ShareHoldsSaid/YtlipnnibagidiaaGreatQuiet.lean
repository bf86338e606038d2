/- A quiet walk, operation by operation: an operation that is wanted has one value in every world of the class; one that is passed over has none. -/
import Derived.Test.YtlipnnibagidiaaGreatEuD
import Derived.Test.YtlipnnibagidiaaGreatRows
import Derived.WalkKit
import Derived.ProofKit
import Derived.OpenShut
import Derived.ShutString
import Derived.ChangeOld
import Derived.Below
import Derived.ChangeSlices
import Derived.Deep.Grids
import Derived.Deep.Fields
import Derived.Laws.IdiomArrays
namespace Go.Proofs.YtlipnnibagidiaaGreat
open Go.ChangeShapes Go.WideShapes Go.ChangeAt Go.RowKit
def IsRow (k : IntKind) (w : World) (a : Option Addr) (len cap : Nat) (zs : List Int) : Prop :=
  (a = none ∧ len = 0 ∧ cap = 0 ∧ zs = []) ∨
  ∃ x, a = some x ∧ len ≤ cap ∧ cap ≤ maxLen ∧ zs.length = cap ∧ (∀ i, i < zs.length → w.cell? (x.add i) = some (.int k (zs.getD i 0))) ∧ ∀ n ∈ zs, (Lit.int k n).wf = true
theorem isRow_of {H : Type} {enc : TypeId × Value → H} {P : Program} {W : World} {b : Nat} {hd : Bool} {t e : TypeId} {k : IntKind} {a : Option Addr} {len cap : Nat} {d : DataW H} {p : List MemPlace}
    (ht : P.underlying t = some (.slice e)) (he : P.underlying e = some (.int k)) (hc : P.cellsOf e = 1) (h : DataW.Trod enc P W b (fun _ => true) hd t (.slice a len cap) d p) : ∃ zs, IsRow k W a len cap zs := by
  obtain ⟨fuel, hf⟩ := h
  rcases open_ints ht he hc hf with ⟨hcs, _⟩ | ⟨x, l, c, zs, hcs, _, hl, hm, hz, _, hcell, hwz⟩
  · simp [Value.cells] at hcs
    obtain ⟨rfl, rfl, rfl⟩ := hcs
    exact ⟨[], .inl ⟨rfl, rfl, rfl, rfl⟩⟩
  · simp [Value.cells] at hcs
    obtain ⟨rfl, rfl, rfl⟩ := hcs
    exact ⟨zs, .inr ⟨_, rfl, hl, hm, by simpa using hz, hcell, hwz⟩⟩
end Go.Proofs.YtlipnnibagidiaaGreat
namespace Go.Proofs.YtlipnnibagidiaaGreat
open Go.RowKit Go.ChangeShapes Go.WideShapes Go.ChangeAt
theorem isRow_row {w : World} {a : Option Addr} {len cap : Nat} {z : List Int} (h : IsRow .i64 w a len cap z) (hl : len ≤ 100000) : ∃ L, L.length = len ∧ Row w a L ∧ (a = none → cap = 0) ∧ len ≤ cap ∧ L = z.take len := by
  rcases h with ⟨rfl, rfl, rfl, rfl⟩ | ⟨x, rfl, hc, _, hz, hcell, _⟩
  · exact ⟨[], rfl, ⟨by simp, .inl rfl⟩, fun _ => rfl, Nat.le_refl _, rfl⟩
  · have hlen : (z.take len).length = len := by rw [List.length_take]; omega
    refine ⟨z.take len, hlen, ⟨by omega, ?_⟩, fun e => (by cases e), hc, rfl⟩
    rcases Nat.eq_zero_or_pos len with h0 | h0
    · exact .inl (by rw [hlen]; exact h0)
    · have c0 := hcell 0 (by omega)
      rw [show x.add 0 = x by obtain ⟨b, off, sp⟩ := x; unfold Addr.add; split <;> simp_all] at c0
      have hs : x.spot = none := World.cell?_spot c0
      have hb : x.block < w.heap.size := by
        unfold World.cell? at c0
        cases hh : w.heap[x.block]? with
        | none => simp [hh] at c0
        | some o => exact (Array.getElem?_eq_some_iff.1 hh).1
      obtain ⟨b, off, sp⟩ := x
      obtain rfl : sp = none := hs
      refine .inr ⟨b, off, rfl, hb, fun i hi => ?_⟩
      rw [hlen] at hi
      have h1 := hcell i (by omega)
      rw [show (⟨b, off, none⟩ : Addr).add i = ⟨b, off + i, none⟩ by unfold Addr.add; split <;> simp_all] at h1
      rw [h1, List.getElem_take, List.getD_eq_getElem?_getD, List.getElem?_eq_getElem (by omega)]
      rfl
end Go.Proofs.YtlipnnibagidiaaGreat
namespace Go.Proofs.YtlipnnibagidiaaGreat
open Go.RowKit Go.ChangeShapes Go.WideShapes Go.ChangeAt
theorem choose_nd {m : Nat} {p : Nat → Nd → Prop} (h : ∀ i, i < m → ∃ x, p i x) : ∃ f : Nat → Nd, ∀ i, i < m → p i (f i) := by
  refine ⟨fun i => if hi : i < m then (h i hi).choose else default, fun i hi => ?_⟩
  simp only [hi, dif_pos]
  exact (h i hi).choose_spec
def IsNodes (w : World) (a : Option Addr) (len cap : Nat) (f : Nat → Nd) : Prop :=
  (a = none ∧ len = 0) ∨ ∃ x, a = some x ∧ len ≤ cap ∧ cap ≤ maxLen ∧ ∀ i, i < cap → (∀ j, j < 8 → w.cell? ((x.add (i * 8)).add j) = (nodeCells (f i))[j]?) ∧ NdWf (f i)
theorem isNodes_of {H : Type} {enc : TypeId × Value → H} {P : Program} {W : World} {b : Nat} {hd : Bool} {t e ea : TypeId} {f0 f1 f2 f3 f4 f5 : Field} {a : Option Addr} {len cap : Nat} {d : DataW H} {p : List MemPlace}
    (ht : P.underlying t = some (.slice e)) (he : P.underlying e = some (.struct #[f0, f1, f2, f3, f4, f5])) (hc : P.cellsOf e = 8)
    (ho : f0.offset = 0 ∧ f1.offset = 1 ∧ f2.offset = 2 ∧ f3.offset = 5 ∧ f4.offset = 6 ∧ f5.offset = 7)
    (hn : P.cellsOf f0.type = 1 ∧ P.cellsOf f1.type = 1 ∧ P.cellsOf f2.type = 3 ∧ P.cellsOf f3.type = 1 ∧ P.cellsOf f4.type = 1 ∧ P.cellsOf f5.type = 1)
    (g0 : P.underlying f0.type = some (.int .i8)) (g1 : P.underlying f1.type = some (.int .i8)) (g2 : P.underlying f2.type = some (.array 3 ea)) (ga : P.underlying ea = some (.int .i64)) (ca : P.cellsOf ea = 1)
    (g3 : P.underlying f3.type = some (.int .i64)) (g4 : P.underlying f4.type = some (.int .i64)) (g5 : P.underlying f5.type = some (.int .i64))
    (h : DataW.Trod enc P W b (fun _ => true) hd t (.slice a len cap) d p) : ∃ f, IsNodes W a len cap f := by
  obtain ⟨fuel, hf⟩ := h
  rcases Go.Deep.open_slice ht hf with ⟨hcs, _⟩ | ⟨x, l, c, m, n, D, Pl, hcs, _, hl, hm, hmm, _, hx⟩
  · simp [Value.cells] at hcs
    obtain ⟨rfl, rfl, rfl⟩ := hcs
    exact ⟨fun _ => default, .inl ⟨rfl, rfl⟩⟩
  · simp [Value.cells] at hcs
    obtain ⟨rfl, rfl, rfl⟩ := hcs
    obtain rfl : m = cap := by simpa using hmm
    have each : ∀ i, i < m → ∃ q : Nd, (∀ j, j < 8 → W.cell? ((x.add (i * 8)).add j) = (nodeCells q)[j]?) ∧ NdWf q := by
      intro i hi
      obtain ⟨cs', h1, h2⟩ := hx i hi
      rw [hc] at h1
      obtain ⟨_, hlen, hcell⟩ := World.cells?_some h1
      obtain ⟨xs, k, _, _, _, hxl, hfd⟩ := DataW.trod_struct he h2
      match xs, hxl, cs', hlen with
      | [y0, y1, y2, y3, y4, y5], _, [v0, v1, v2, v3, v4, v5, v6, v7], _ =>
        have k0 := hfd 0 f0 rfl
        have k1 := hfd 1 f1 rfl
        have k2 := hfd 2 f2 rfl
        have k3 := hfd 3 f3 rfl
        have k4 := hfd 4 f4 rfl
        have k5 := hfd 5 f5 rfl
        simp [ho.1, ho.2.1, ho.2.2.1, ho.2.2.2.1, ho.2.2.2.2.1, ho.2.2.2.2.2, hn.1, hn.2.1, hn.2.2.1, hn.2.2.2.1, hn.2.2.2.2.1, hn.2.2.2.2.2] at k0 k1 k2 k3 k4 k5
        obtain ⟨n0, e0, _, r0⟩ := DataW.trod_int g0 k0
        obtain ⟨n1, e1, _, r1⟩ := DataW.trod_int g1 k1
        obtain ⟨z0, z1, z2, _, _, l0, l1, l2⟩ := trod_array3 g2 ca k2
        obtain ⟨m0, d0, _, s0⟩ := DataW.trod_int ga l0
        obtain ⟨m1, d1, _, s1⟩ := DataW.trod_int ga l1
        obtain ⟨m2, d2, _, s2⟩ := DataW.trod_int ga l2
        obtain ⟨n3, e3, _, r3⟩ := DataW.trod_int g3 k3
        obtain ⟨n4, e4, _, r4⟩ := DataW.trod_int g4 k4
        obtain ⟨n5, e5, _, r5⟩ := DataW.trod_int g5 k5
        injection e0 with e0
        injection e1 with e1
        injection d0 with d0
        injection d1 with d1
        injection d2 with d2
        injection e3 with e3
        injection e4 with e4
        injection e5 with e5
        subst e0 e1 d0 d1 d2 e3 e4 e5
        have q8 : IntKind.i8.min = -128 := by decide
        have p8 : IntKind.i8.max = 127 := by decide
        have q64 : IntKind.i64.min = -9223372036854775808 := by decide
        simp [Lit.wf, q8, p8, q64] at r0 r1 s0 s1 s2 r3 r4 r5
        refine ⟨⟨n0, n1, m0, m1, m2, n3, n4, n5⟩, fun j hj => ?_, ⟨?_, ?_, fun j => ?_, ?_, ?_, ?_⟩⟩
        · exact hcell j hj
        · exact r0
        · exact r1
        · unfold Nd.arg
          repeat' split
          all_goals first
            | exact s0
            | exact s1
            | exact s2
            | (constructor <;> decide)
        · exact r3
        · exact r4
        · exact r5
    obtain ⟨f, hf⟩ := choose_nd each
    exact ⟨f, .inr ⟨x, rfl, hl, hm, hf⟩⟩
theorem IsNodes.tab {w : World} {a : Option Addr} {len cap : Nat} {f : Nat → Nd} (h : IsNodes w a len cap f) (hl : len ≤ 100000) : Tab w a ((List.range len).map f) := by
  refine ⟨by simpa using hl, ?_⟩
  rcases h with ⟨rfl, rfl⟩ | ⟨x, rfl, hc, _, hx⟩
  · exact .inl rfl
  · rcases Nat.eq_zero_or_pos len with rfl | hp
    · exact .inl rfl
    have c0 := (hx 0 (by omega)).1 0 (by omega)
    have c1 : w.cell? x = some (.int .i8 (f 0).op) := by simpa [Addr.add, nodeCells] using c0
    have hs : x.spot = none := World.cell?_spot c1
    have hb : x.block < w.heap.size := by
      unfold World.cell? at c1
      cases hh : w.heap[x.block]? with
      | none => simp [hh] at c1
      | some o => exact (Array.getElem?_eq_some_iff.1 hh).1
    obtain ⟨b, off, sp⟩ := x
    obtain rfl : sp = none := hs
    refine .inr ⟨b, off, rfl, hb, fun i hi => ?_⟩
    have hi' : i < len := by simpa using hi
    obtain ⟨h1, h2⟩ := hx i (by omega)
    simp only [List.getElem_map, List.getElem_range]
    refine ⟨hb, fun j hj => ?_, h2⟩
    rw [← h1 j hj]
    congr 1
    unfold Addr.add
    split <;> split <;> simp_all [Nat.add_assoc]
theorem IsNodes.cap {w : World} {a : Option Addr} {len cap : Nat} {f : Nat → Nd} (h : IsNodes w a len cap f) : len ≤ cap := by
  rcases h with ⟨rfl, rfl⟩ | ⟨x, rfl, hc, _, hx⟩
  · exact Nat.zero_le _
  · exact hc
structure TabIn where
  A : Option Addr
  len : Nat
  cap : Nat
  f : Nat → Nd
def TabIn.val (x : TabIn) : Value := .agg #[.slice x.A x.len x.cap]
def TabIn.Ok (x : TabIn) (W : World) : Prop := IsNodes W x.A x.len x.cap x.f
set_option maxRecDepth 100000 in
theorem table_in {H : Type} {enc : TypeId × Value → H} {W : World} {base : Nat} {v : Value} {d : DataW H} {p : List MemPlace} (hv : Value.okWide Tryz.prog W .any base 33 v)
    (h : DataW.Trod enc Tryz.prog W 0 (fun _ => true) true 33 v d p) (_hl : ∀ x ∈ p, x.block < W.heap.size) : ∃ x : TabIn, v = x.val ∧ x.Ok W := by
  obtain ⟨cs, rfl, hcs⟩ := okWide_struct Tryz.underlying33 hv
  obtain ⟨fuel, hf⟩ := h
  obtain ⟨xs, n, _, _, _, hxl, hfd⟩ := DataW.trod_struct Tryz.underlying33 hf
  have c1 : Tryz.prog.cellsOf 33 = 1 := by kernel_rfl
  have c2 : Tryz.prog.cellsOf 31 = 1 := by kernel_rfl
  rw [c1] at hcs
  obtain ⟨l⟩ := cs
  match l, hcs, xs, hxl with
  | [v0], _, [y0], _ =>
    have k0 := hfd 0 _ rfl
    simp [c2, Value.cells] at k0
    obtain ⟨A, len, cap, rfl⟩ : ∃ A len cap, v0 = .slice A len cap := by
      rcases DataW.trod_slice Tryz.underlying31 k0 with ⟨e2, _⟩ | ⟨a, len, cap, _, _, _, _, e2, _⟩
      · injection e2 with e2
        exact ⟨none, 0, 0, e2⟩
      · injection e2 with e2
        exact ⟨_, _, _, e2⟩
    obtain ⟨f, hf⟩ := isNodes_of (d := y0.1) (p := y0.2) Tryz.underlying31 Tryz.underlying51 (by kernel_rfl) (by decide) (by decide +kernel) Tryz.underlying44 Tryz.underlying44 Tryz.underlying49 Tryz.underlying3 (by kernel_rfl) Tryz.underlying3 Tryz.underlying3 Tryz.underlying3 (show DataW.Trod enc Tryz.prog W 0 (fun _ => true) true 31 (.slice A len cap) y0.1 y0.2 from ⟨n, k0⟩)
    exact ⟨⟨A, len, cap, f⟩, rfl, hf⟩
end Go.Proofs.YtlipnnibagidiaaGreat
namespace Go.Proofs.YtlipnnibagidiaaGreat
open Go.RowKit Go.Lib
theorem wpQuiet_want {P : Program} {ops : Array Oper} {C : World → Prop} {Q : Act → Prop} {a : Act} {o : Oper} {rest : List Oper} (hw : Region.wanted o (yielded ops a.tmps) = true) (v : Value) (h1 : ∀ w, C w → o.quietAt P a C w v) (h2 : wpQuiet P ops C Q rest (a.put o.dst v)) : wpQuiet P ops C Q (o :: rest) a := by
  unfold wpQuiet
  rw [if_pos hw]
  exact ⟨v, h1, h2⟩
theorem wpQuiet_skip {P : Program} {ops : Array Oper} {C : World → Prop} {Q : Act → Prop} {a : Act} {o : Oper} {rest : List Oper} (hw : Region.wanted o (yielded ops a.tmps) = false) (h2 : wpQuiet P ops C Q rest (a.put o.dst undef)) : wpQuiet P ops C Q (o :: rest) a := by
  unfold wpQuiet
  rw [if_neg (by rw [hw]; decide)]
  exact h2
structure QW (P : Program) (ops : Array Oper) (C : World → Prop) (Q : Act → Prop) (rest : List Oper) (a : Act) : Prop where
  out : wpQuiet P ops C Q rest a
theorem qw_want {P : Program} {ops : Array Oper} {C : World → Prop} {Q : Act → Prop} {a : Act} {o : Oper} {rest : List Oper} (hw : Region.wanted o (yielded ops a.tmps) = true) (v : Value) (h1 : ∀ w, C w → o.quietAt P a C w v) (h2 : QW P ops C Q rest (a.put o.dst v)) : QW P ops C Q (o :: rest) a := ⟨wpQuiet_want hw v h1 h2.out⟩
theorem qw_skip {P : Program} {ops : Array Oper} {C : World → Prop} {Q : Act → Prop} {a : Act} {o : Oper} {rest : List Oper} (hw : Region.wanted o (yielded ops a.tmps) = false) (h2 : QW P ops C Q rest (a.put o.dst undef)) : QW P ops C Q (o :: rest) a := ⟨wpQuiet_skip hw h2.out⟩
theorem qw_end {P : Program} {ops : Array Oper} {C : World → Prop} {Q : Act → Prop} {a : Act} (h : Q a) : QW P ops C Q [] a := ⟨h⟩
theorem QW.lit {P : Program} {C : World → Prop} {Q : Act → Prop} {l : List Oper} {a : Act} (h : QW P l.toArray C Q l a) : wpQuiet P l.toArray C Q l.toArray.toList a := h.out
end Go.Proofs.YtlipnnibagidiaaGreat

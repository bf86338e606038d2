/- Readings of arguments, opened. -/
import Derived.Test.YtlipnnibagidiaaRows
import Derived.WalkKit
import Derived.ProofKit
import Derived.OpenShut
import Derived.ShutString
import Derived.ChangeOld
import Derived.Below
import Derived.ChangeSlices
import Derived.Deep.Grids
import Derived.Test.YtlipnnibagidiaaEuP
import Derived.Test.YtlipnnibagidiaaEuC
import Derived.Deep.Fields
import Derived.Laws.IdiomArrays
import Derived.Test.YtlipnnibagidiaaRdF
import Derived.Test.YtlipnnibagidiaaRfJ
namespace Go.Proofs.Ytlipnnibagidiaa
open Go.ChangeShapes Go.WideShapes Go.ChangeAt Go.RowKit

/-- What a walk is told of a slice of integers that came in: it is nil; or it leads to a row of 'cap' cells, the numbers 'zs' (the first 'len' are its elements, the rest its spare room), each fitting its kind. -/
def IsRow (k : IntKind) (w : World) (a : Option Addr) (len cap : Nat) (zs : List Int) : Prop :=
  (a = none ∧ len = 0 ∧ cap = 0 ∧ zs = []) ∨
  ∃ x, a = some x ∧ len ≤ cap ∧ cap ≤ maxLen ∧ zs.length = cap ∧ (∀ i, i < zs.length → w.cell? (x.add i) = some (.int k (zs.getD i 0))) ∧ ∀ n ∈ zs, (Lit.int k n).wf = true

theorem isRow_of {H : Type} {enc : TypeId × Value → H} {P : Program} {W : World} {b : Nat} {hd : Bool} {t e : TypeId} {k : IntKind} {a : Option Addr} {len cap : Nat} {d : DataW H} {p : List MemPlace}
    (ht : P.underlying t = some (.slice e)) (he : P.underlying e = some (.int k)) (hc : P.cellsOf e = 1) (h : DataW.Trod enc P W b (fun _ => true) hd t (.slice a len cap) d p) : ∃ zs, IsRow k W a len cap zs := by
  obtain ⟨fuel, hf⟩ := h
  rcases open_ints ht he hc hf with ⟨hcs, _⟩ | ⟨x, l, c, zs, hcs, _, hl, hm, hz, _, hcell, hwz⟩
  · simp [Value.cells] at hcs
    obtain ⟨rfl, rfl, rfl⟩ := hcs
    exact ⟨[], .inl ⟨rfl, rfl, rfl, rfl⟩⟩
  · simp [Value.cells] at hcs
    obtain ⟨rfl, rfl, rfl⟩ := hcs
    exact ⟨zs, .inr ⟨_, rfl, hl, hm, by simpa using hz, hcell, hwz⟩⟩
/-- A slice of bools that came in. -/
def IsBools (w : World) (a : Option Addr) (len cap : Nat) (B : Nat → Bool) : Prop :=
  (a = none ∧ len = 0 ∧ cap = 0) ∨ ∃ x, a = some x ∧ len ≤ cap ∧ cap ≤ maxLen ∧ ∀ i, i < cap → w.cell? (x.add i) = some (.bool (B i))

theorem isBools_of {H : Type} {enc : TypeId × Value → H} {P : Program} {W : World} {b : Nat} {hd : Bool} {t e : TypeId} {a : Option Addr} {len cap : Nat} {d : DataW H} {p : List MemPlace}
    (ht : P.underlying t = some (.slice e)) (he : P.underlying e = some .bool) (hc : P.cellsOf e = 1) (h : DataW.Trod enc P W b (fun _ => true) hd t (.slice a len cap) d p) : ∃ B, IsBools W a len cap B := by
  obtain ⟨fuel, hf⟩ := h
  rcases Go.Deep.open_bools ht he hc hf with ⟨hcs, _⟩ | ⟨x, l, c, B, hcs, _, hl, hm, _, hcell⟩
  · simp [Value.cells] at hcs
    obtain ⟨rfl, rfl, rfl⟩ := hcs
    exact ⟨fun _ => false, .inl ⟨rfl, rfl, rfl⟩⟩
  · simp [Value.cells] at hcs
    obtain ⟨rfl, rfl, rfl⟩ := hcs
    exact ⟨B, .inr ⟨_, rfl, hl, hm, hcell⟩⟩
end Go.Proofs.Ytlipnnibagidiaa

/- A table that came in. -/
namespace Go.Proofs.Ytlipnnibagidiaa
open Go.RowKit Go.ChangeShapes Go.WideShapes Go.ChangeAt

theorem choose_nd {m : Nat} {p : Nat → Nd → Prop} (h : ∀ i, i < m → ∃ x, p i x) : ∃ f : Nat → Nd, ∀ i, i < m → p i (f i) := by
  refine ⟨fun i => if hi : i < m then (h i hi).choose else default, fun i hi => ?_⟩
  simp only [hi, dif_pos]
  exact (h i hi).choose_spec
/-- The nodes of a slice that came in. -/
def IsNodes (w : World) (a : Option Addr) (len cap : Nat) (f : Nat → Nd) : Prop :=
  (a = none ∧ len = 0) ∨ ∃ x, a = some x ∧ len ≤ cap ∧ cap ≤ maxLen ∧ ∀ i, i < cap → (∀ j, j < 8 → w.cell? ((x.add (i * 8)).add j) = (nodeCells (f i))[j]?) ∧ NdWf (f i)
theorem isNodes_of {H : Type} {enc : TypeId × Value → H} {P : Program} {W : World} {b : Nat} {hd : Bool} {t e ea : TypeId} {f0 f1 f2 f3 f4 f5 : Field} {a : Option Addr} {len cap : Nat} {d : DataW H} {p : List MemPlace}
    (ht : P.underlying t = some (.slice e)) (he : P.underlying e = some (.struct #[f0, f1, f2, f3, f4, f5])) (hc : P.cellsOf e = 8)
    (ho : f0.offset = 0 ∧ f1.offset = 1 ∧ f2.offset = 2 ∧ f3.offset = 5 ∧ f4.offset = 6 ∧ f5.offset = 7)
    (hn : P.cellsOf f0.type = 1 ∧ P.cellsOf f1.type = 1 ∧ P.cellsOf f2.type = 3 ∧ P.cellsOf f3.type = 1 ∧ P.cellsOf f4.type = 1 ∧ P.cellsOf f5.type = 1)
    (g0 : P.underlying f0.type = some (.int .i8)) (g1 : P.underlying f1.type = some (.int .i8)) (g2 : P.underlying f2.type = some (.array 3 ea)) (ga : P.underlying ea = some (.int .i64)) (ca : P.cellsOf ea = 1)
    (g3 : P.underlying f3.type = some (.int .i64)) (g4 : P.underlying f4.type = some (.int .i64)) (g5 : P.underlying f5.type = some (.int .i64))
    (h : DataW.Trod enc P W b (fun _ => true) hd t (.slice a len cap) d p) : ∃ f, IsNodes W a len cap f := by
  obtain ⟨fuel, hf⟩ := h
  rcases Go.Deep.open_slice ht hf with ⟨hcs, _⟩ | ⟨x, l, c, m, n, D, Pl, hcs, _, hl, hm, hmm, _, hx⟩
  · simp [Value.cells] at hcs
    obtain ⟨rfl, rfl, rfl⟩ := hcs
    exact ⟨fun _ => default, .inl ⟨rfl, rfl⟩⟩
  · simp [Value.cells] at hcs
    obtain ⟨rfl, rfl, rfl⟩ := hcs
    obtain rfl : m = cap := by simpa using hmm
    have each : ∀ i, i < m → ∃ q : Nd, (∀ j, j < 8 → W.cell? ((x.add (i * 8)).add j) = (nodeCells q)[j]?) ∧ NdWf q := by
      intro i hi
      obtain ⟨cs', h1, h2⟩ := hx i hi
      rw [hc] at h1
      obtain ⟨_, hlen, hcell⟩ := World.cells?_some h1
      obtain ⟨xs, k, _, _, _, hxl, hfd⟩ := DataW.trod_struct he h2
      match xs, hxl, cs', hlen with
      | [y0, y1, y2, y3, y4, y5], _, [v0, v1, v2, v3, v4, v5, v6, v7], _ =>
        have k0 := hfd 0 f0 rfl
        have k1 := hfd 1 f1 rfl
        have k2 := hfd 2 f2 rfl
        have k3 := hfd 3 f3 rfl
        have k4 := hfd 4 f4 rfl
        have k5 := hfd 5 f5 rfl
        simp [ho.1, ho.2.1, ho.2.2.1, ho.2.2.2.1, ho.2.2.2.2.1, ho.2.2.2.2.2, hn.1, hn.2.1, hn.2.2.1, hn.2.2.2.1, hn.2.2.2.2.1, hn.2.2.2.2.2] at k0 k1 k2 k3 k4 k5
        obtain ⟨n0, e0, _, r0⟩ := DataW.trod_int g0 k0
        obtain ⟨n1, e1, _, r1⟩ := DataW.trod_int g1 k1
        obtain ⟨z0, z1, z2, _, _, l0, l1, l2⟩ := trod_array3 g2 ca k2
        obtain ⟨m0, d0, _, s0⟩ := DataW.trod_int ga l0
        obtain ⟨m1, d1, _, s1⟩ := DataW.trod_int ga l1
        obtain ⟨m2, d2, _, s2⟩ := DataW.trod_int ga l2
        obtain ⟨n3, e3, _, r3⟩ := DataW.trod_int g3 k3
        obtain ⟨n4, e4, _, r4⟩ := DataW.trod_int g4 k4
        obtain ⟨n5, e5, _, r5⟩ := DataW.trod_int g5 k5
        injection e0 with e0
        injection e1 with e1
        injection d0 with d0
        injection d1 with d1
        injection d2 with d2
        injection e3 with e3
        injection e4 with e4
        injection e5 with e5
        subst e0 e1 d0 d1 d2 e3 e4 e5
        have q8 : IntKind.i8.min = -128 := by decide
        have p8 : IntKind.i8.max = 127 := by decide
        have q64 : IntKind.i64.min = -9223372036854775808 := by decide
        simp [Lit.wf, q8, p8, q64] at r0 r1 s0 s1 s2 r3 r4 r5
        refine ⟨⟨n0, n1, m0, m1, m2, n3, n4, n5⟩, fun j hj => ?_, ⟨?_, ?_, fun j => ?_, ?_, ?_, ?_⟩⟩
        · exact hcell j hj
        · exact r0
        · exact r1
        · unfold Nd.arg
          repeat' split
          all_goals first
            | exact s0
            | exact s1
            | exact s2
            | (constructor <;> decide)
        · exact r3
        · exact r4
        · exact r5
    obtain ⟨f, hf⟩ := choose_nd each
    exact ⟨f, .inr ⟨x, rfl, hl, hm, hf⟩⟩
/-- .. as a table. -/
theorem IsNodes.tab {w : World} {a : Option Addr} {len cap : Nat} {f : Nat → Nd} (h : IsNodes w a len cap f) (hl : len ≤ 100000) : Tab w a ((List.range len).map f) := by
  refine ⟨by simpa using hl, ?_⟩
  rcases h with ⟨rfl, rfl⟩ | ⟨x, rfl, hc, _, hx⟩
  · exact .inl rfl
  · rcases Nat.eq_zero_or_pos len with rfl | hp
    · exact .inl rfl
    have c0 := (hx 0 (by omega)).1 0 (by omega)
    have c1 : w.cell? x = some (.int .i8 (f 0).op) := by simpa [Addr.add, nodeCells] using c0
    have hs : x.spot = none := World.cell?_spot c1
    have hb : x.block < w.heap.size := by
      unfold World.cell? at c1
      cases hh : w.heap[x.block]? with
      | none => simp [hh] at c1
      | some o => exact (Array.getElem?_eq_some_iff.1 hh).1
    obtain ⟨b, off, sp⟩ := x
    obtain rfl : sp = none := hs
    refine .inr ⟨b, off, rfl, hb, fun i hi => ?_⟩
    have hi' : i < len := by simpa using hi
    obtain ⟨h1, h2⟩ := hx i (by omega)
    simp only [List.getElem_map, List.getElem_range]
    refine ⟨hb, fun j hj => ?_, h2⟩
    rw [← h1 j hj]
    congr 1
    unfold Addr.add
    split <;> split <;> simp_all [Nat.add_assoc]
theorem IsNodes.cap {w : World} {a : Option Addr} {len cap : Nat} {f : Nat → Nd} (h : IsNodes w a len cap f) : len ≤ cap := by
  rcases h with ⟨rfl, rfl⟩ | ⟨x, rfl, hc, _, hx⟩
  · exact Nat.zero_le _
  · exact hc
/-- A table that came in, whole. -/
structure TabIn where
  A : Option Addr
  len : Nat
  cap : Nat
  f : Nat → Nd
def TabIn.val (x : TabIn) : Value := .agg #[.slice x.A x.len x.cap]
def TabIn.Ok (x : TabIn) (W : World) : Prop := IsNodes W x.A x.len x.cap x.f
set_option maxRecDepth 100000 in
theorem table_in {H : Type} {enc : TypeId × Value → H} {W : World} {base : Nat} {v : Value} {d : DataW H} {p : List MemPlace} (hv : Value.okWide Try.prog W .any base 24 v)
    (h : DataW.Trod enc Try.prog W 0 (fun _ => true) true 24 v d p) (_hl : ∀ x ∈ p, x.block < W.heap.size) : ∃ x : TabIn, v = x.val ∧ x.Ok W := by
  obtain ⟨cs, rfl, hcs⟩ := okWide_struct Try.underlying24 hv
  obtain ⟨fuel, hf⟩ := h
  obtain ⟨xs, n, _, _, _, hxl, hfd⟩ := DataW.trod_struct Try.underlying24 hf
  have c1 : Try.prog.cellsOf 24 = 1 := by kernel_rfl
  have c2 : Try.prog.cellsOf 22 = 1 := by kernel_rfl
  rw [c1] at hcs
  obtain ⟨l⟩ := cs
  match l, hcs, xs, hxl with
  | [v0], _, [y0], _ =>
    have k0 := hfd 0 _ rfl
    simp [c2, Value.cells] at k0
    obtain ⟨A, len, cap, rfl⟩ : ∃ A len cap, v0 = .slice A len cap := by
      rcases DataW.trod_slice Try.underlying22 k0 with ⟨e2, _⟩ | ⟨a, len, cap, _, _, _, _, e2, _⟩
      · injection e2 with e2
        exact ⟨none, 0, 0, e2⟩
      · injection e2 with e2
        exact ⟨_, _, _, e2⟩
    obtain ⟨f, hf⟩ := isNodes_of (d := y0.1) (p := y0.2) Try.underlying22 Try.underlying36 (by kernel_rfl) (by decide) (by decide +kernel) Try.underlying33 Try.underlying33 Try.underlying34 Try.underlying3 (by kernel_rfl) Try.underlying3 Try.underlying3 Try.underlying3 (show DataW.Trod enc Try.prog W 0 (fun _ => true) true 22 (.slice A len cap) y0.1 y0.2 from ⟨n, k0⟩)
    exact ⟨⟨A, len, cap, f⟩, rfl, hf⟩
end Go.Proofs.Ytlipnnibagidiaa

/- ShareLays' walk. -/
namespace Go.Proofs.Ytlipnnibagidiaa
open Go.RowKit Go.Lib

set_option maxRecDepth 100000 in
set_option maxHeartbeats 2000000 in
theorem shareLays_walk (x : TabIn) (most : Int) (w : World) (h : x.Ok w) (_hm : (Lit.int .i64 most).wf = true) :
    Calls Try.prog 3 #[x.val, .int .i64 most] w (fun e w' => e = .returned (.bool true) ∧ Below w.heap.size w w') := by
  obtain ⟨A, n, c, f⟩ := x
  unfold TabIn.val TabIn.Ok at *
  simp only at h ⊢
  have HB0 : Hid (Below w.heap.size w (w.alloc (.cells #[.slice A n c] 24))) := Lib.hid ((Below.refl _ w).alloc (Nat.le_refl _) _)
  have HT0 := Lib.hid (Blk.new w 24 #[.slice A n c])
  have KG := Lib.hid (rgreat_ok (w := w.alloc (.cells #[.slice A n c] 24)) A n c)
  by_cases hn : 300 < n
  · have d := decide_eq_true hn
    rw [d] at KG
    clear h hn d
    go_enter Try.func3, Try.ntmps3
    go_wp2_with fail
    refine KG.out.mono ?_
    rintro e w1 ⟨rfl, hb1⟩
    have HB1 := Lib.hid (HB0.out.trans (hb1.mono HB0.out.size))
    clear hb1
    go_wp2_with fail
    refine (wakes_ok _).mono ?_
    rintro e w2 ⟨rfl, hb2⟩
    have HB2 := Lib.hid (HB1.out.trans (hb2.mono HB1.out.size))
    clear hb2
    go_wp2
    go_ret
    exact ⟨rfl, HB2.out⟩
  · have d := decide_eq_false hn
    rw [d] at KG
    obtain ⟨T, hT, htab, hcap⟩ : ∃ T : List Nd, T.length = n ∧ Tab w A T ∧ n ≤ c := ⟨_, by simp, h.tab (by omega), h.cap⟩
    subst hT
    have H := Lib.hid htab
    have HC := Lib.hid hcap
    have HL : Hid (T.length ≤ 10000) := Lib.hid (by omega)
    clear h hn d htab hcap
    go_enter Try.func3, Try.ntmps3
    go_wp2_with fail
    refine KG.out.mono ?_
    rintro e w1 ⟨rfl, hb1⟩
    have HB1 := Lib.hid (HB0.out.trans (hb1.mono HB0.out.size))
    have HT1 := Lib.hid (HT0.out.below hb1 HT0.out.lt)
    have x1 := HT1.out.cell 0
    simp only [List.getElem?_toArray, List.getElem?_cons_zero] at x1
    clear hb1
    go_wp2_with fail
    refine (sput_ok c most HC.out (H.out.below HB1.out) HL.out).mono ?_
    rintro e w2 ⟨A2, c2, rfl, ht2, hc2, hb2⟩
    obtain ⟨⟨U, er⟩, hr⟩ : ∃ r, putS T most = r := ⟨_, rfl⟩
    have HR := Lib.hid hr
    rw [hr] at ht2 hc2 ⊢
    simp only at ht2 hc2 ⊢
    clear hr
    have hbA : Below w2.heap.size w2 (w2.alloc (.cells #[.slice A2 U.length c2] 24)) := (Below.refl _ w2).alloc (Nat.le_refl _) _
    have HB2 := Lib.hid ((HB1.out.trans (hb2.mono HB1.out.size)).trans (hbA.mono (Nat.le_trans HB1.out.size hb2.size)))
    have HT2 := Lib.hid ((HT1.out.below hb2 HT1.out.lt).below hbA (HT1.out.below hb2 HT1.out.lt).lt)
    have HU2 := Lib.hid (ht2.below hbA)
    have HP2 := Lib.hid (Blk.new w2 24 #[.slice A2 U.length c2])
    have x2 := HT2.out.cell 0
    simp only [List.getElem?_toArray, List.getElem?_cons_zero] at x2
    clear hbA hb2 ht2 hc2 x1
    go_wp2_with fail
    refine (rsput_ok c most HC.out (H.out.below HB2.out) HL.out).mono ?_
    rintro e w3 ⟨A3, c3, rfl, ht3, hc3, hb3⟩
    rw [HR.out] at ht3 hc3 ⊢
    simp only at ht3 hc3 ⊢
    have hbA : Below w3.heap.size w3 (w3.alloc (.cells #[.slice A3 U.length c3] 24)) := (Below.refl _ w3).alloc (Nat.le_refl _) _
    have HB3 := Lib.hid ((HB2.out.trans (hb3.mono HB2.out.size)).trans (hbA.mono (Nat.le_trans HB2.out.size hb3.size)))
    have HP3 := Lib.hid ((HP2.out.below hb3 HP2.out.lt).below hbA (HP2.out.below hb3 HP2.out.lt).lt)
    have HU3 := Lib.hid ((HU2.out.below hb3).below hbA)
    have HV3 := Lib.hid (ht3.below hbA)
    have HQ3 := Lib.hid (Blk.new w3 24 #[.slice A3 U.length c3])
    have x3 := HP3.out.cell 0
    have y3 := HQ3.out.cell 0
    simp only [List.getElem?_toArray, List.getElem?_cons_zero] at x3 y3
    clear hbA hb3 ht3 hc3 x2
    go_wp2_with fail
    refine (rsame_ok c2 c3 HU3.out HV3.out).mono ?_
    rintro e w4 ⟨r, rfl, hr, hb4⟩
    obtain rfl : r = true := hr.2 rfl
    have HB4 := Lib.hid (HB3.out.trans (hb4.mono HB3.out.size))
    clear hr hb4 x3 y3
    go_wp2_with fail
    refine (wakes_ok _).mono ?_
    rintro e w5 ⟨rfl, hb5⟩
    have HB5 := Lib.hid (HB4.out.trans (hb5.mono HB4.out.size))
    clear hb5
    go_wp2
    go_ret
    exact ⟨rfl, HB5.out⟩
end Go.Proofs.Ytlipnnibagidiaa

/- ShareLays: the statement, from its walk: for every input the law returns true and what was there is as it was. -/
namespace Go.Proofs.Ytlipnnibagidiaa.shareLaysRow
open Go.ChangeShapes Go.WideShapes Go.ChangeAt Go.RowKit
open Go.ChangeMaps (open_string shut_string)

theorem own : ownKnob Try.prog.godebug = none := by kernel_rfl
theorem laidOut : laidOutB Try.prog = true := by kernel_rfl

set_option maxRecDepth 100000 in
theorem lifted (os : Os) (started : os.Started) (H : Type) (enc : TypeId × Value → H) :
    ReturnsInHanded {} Try.checked os 3 .any (Rows.shareLaysSpec.pre6 enc Try.prog Try.f3 Rows.shareLaysRow.domain false) (Rows.shareLaysSpec.post enc Try.prog Try.f3 false true false false) := by
  refine returnsInHanded_of_change (C := Try.checked) own started (by kernel_rfl) Try.func3
    (ChangeSpec.witness6 (enc := enc) (C := Try.checked) false ⟨#[], #[.agg #[.slice none 0 0], .int .i64 0], []⟩ 8 (by kernel_rfl) (by kernel_rfl) (by kernel_rfl) (by kernel_rfl)) ?_
  intro W base args ds gs before hval0 hW _ _
  have hval : ∀ (j : Nat) t v, Try.f3.params[j]? = some t → args[j]? = some v → Value.okWide Try.prog W .any base t v := hval0
  have hW' := hW
  obtain ⟨p, q, hA0, hV, rfl, _, _⟩ := hW
  have hA : DataW.TrodAll enc Try.prog W 0 (fun _ => true) true Try.f3.params.toList args.toList ds p := hA0
  rw [Try.params3] at hA hval
  obtain ⟨v0, vs0, d0, ds0, p0, q0, hargs, rfl, rfl, h0, r0⟩ := trodAll_cons hA
  obtain ⟨v1, vs1, d1, ds1, p1, q1, rfl, rfl, rfl, h1, r1⟩ := trodAll_cons r0
  obtain ⟨rfl, rfl, rfl⟩ := trodAll_nil r1
  obtain rfl : args = #[v0, v1] := by cases args; simp_all
  obtain ⟨rfl, rfl⟩ := trodVars_none hV
  have k0 := h0
  have lt0 : ∀ x ∈ p0, x.block < W.heap.size := by obtain ⟨m, hm⟩ := k0; exact DataW.trod_lt m _ _ _ hm
  have k1 := h1
  have lt1 : ∀ x ∈ p1, x.block < W.heap.size := by obtain ⟨m, hm⟩ := k1; exact DataW.trod_lt m _ _ _ hm
  obtain ⟨x0, rfl, w0⟩ := table_in (hval 0 24 v0 rfl rfl) k0 lt0
  obtain ⟨a1, rfl, rfl, _, w1⟩ := open_int Try.underlying3 (hval 1 3 v1 rfl rfl) h1
  clear hA0 hval0
  refine (shareLays_walk x0 a1 W w0 w1).mono fun e W' ⟨he, bel⟩ => ?_
  subst he
  exact ⟨_, rfl, _, _, _, [], _, [], hW', trodAll_mk1 (shut_bool Try.underlying4 _), (trodAll_cons_mk (Below.trod laidOut (by kernel_rfl) (of_decide_eq_true (by kernel_rfl)) k0 bel lt0) (trodAll_cons_mk (Below.trod laidOut (by kernel_rfl) (of_decide_eq_true (by kernel_rfl)) k1 bel lt1) trodAll_mk0)), rfl, bel.frame _, fun h => by cases h⟩

theorem over : Rows.shareLaysRow.holds Try.pinned (OpenSpec.ofChange Rows.shareLaysSpec) :=
  OpenClaim.holds_of_wide 3 Try.f3 rfl rfl rfl rfl rfl rfl rfl ⟨rfl, rfl, rfl, rfl, rfl⟩ rfl rfl rfl rfl rfl (by kernel_rfl) Try.func3 (by kernel_rfl)
    (of_decide_eq_true (by kernel_rfl)) (by unfold Func.isWrapper; first | (rw [if_pos (by decide +kernel)]; kernel_rfl) | (rw [if_neg (by decide +kernel)]; exact ⟨rfl, rfl⟩))
    (fun os started H enc _ => lifted os started H enc)

/-- The statement. -/
theorem proved : Rows.ShareLaysSaid := over
end Go.Proofs.Ytlipnnibagidiaa.shareLaysRow

/- A row of ints that came in. -/
import Derived.Test.YtkapbdjobfbhhaaGreatVxR
import Derived.Deep.Fields
import Derived.Laws.IdiomArrays
import Derived.Laws.AppendOwn
namespace Go.Proofs.YtkapbdjobfbhhaaGreat
open Go.RowKit Go.ChangeShapes Go.WideShapes Go.ChangeAt
theorem choose_nd {m : Nat} {p : Nat → Nd → Prop} (h : ∀ i, i < m → ∃ x, p i x) : ∃ f : Nat → Nd, ∀ i, i < m → p i (f i) := by
  refine ⟨fun i => if hi : i < m then (h i hi).choose else default, fun i hi => ?_⟩
  simp only [hi, dif_pos]
  exact (h i hi).choose_spec
def IsNodes (w : World) (a : Option Addr) (len cap : Nat) (f : Nat → Nd) : Prop :=
  (a = none ∧ len = 0) ∨ ∃ x, a = some x ∧ len ≤ cap ∧ cap ≤ maxLen ∧ ∀ i, i < cap → (∀ j, j < 8 → w.cell? ((x.add (i * 8)).add j) = (nodeCells (f i))[j]?) ∧ NdWf (f i)
theorem isNodes_of {H : Type} {enc : TypeId × Value → H} {P : Program} {W : World} {b : Nat} {hd : Bool} {t e ea : TypeId} {f0 f1 f2 f3 f4 f5 : Field} {a : Option Addr} {len cap : Nat} {d : DataW H} {p : List MemPlace}
    (ht : P.underlying t = some (.slice e)) (he : P.underlying e = some (.struct #[f0, f1, f2, f3, f4, f5])) (hc : P.cellsOf e = 8)
    (ho : f0.offset = 0 ∧ f1.offset = 1 ∧ f2.offset = 2 ∧ f3.offset = 5 ∧ f4.offset = 6 ∧ f5.offset = 7)
    (hn : P.cellsOf f0.type = 1 ∧ P.cellsOf f1.type = 1 ∧ P.cellsOf f2.type = 3 ∧ P.cellsOf f3.type = 1 ∧ P.cellsOf f4.type = 1 ∧ P.cellsOf f5.type = 1)
    (g0 : P.underlying f0.type = some (.int .i8)) (g1 : P.underlying f1.type = some (.int .i8)) (g2 : P.underlying f2.type = some (.array 3 ea)) (ga : P.underlying ea = some (.int .i64)) (ca : P.cellsOf ea = 1)
    (g3 : P.underlying f3.type = some (.int .i64)) (g4 : P.underlying f4.type = some (.int .i64)) (g5 : P.underlying f5.type = some (.int .i64))
    (h : DataW.Trod enc P W b (fun _ => true) hd t (.slice a len cap) d p) : ∃ f, IsNodes W a len cap f := by
  obtain ⟨fuel, hf⟩ := h
  rcases Go.Deep.open_slice ht hf with ⟨hcs, _⟩ | ⟨x, l, c, m, n, D, Pl, hcs, _, hl, hm, hmm, _, hx⟩
  · simp [Value.cells] at hcs
    obtain ⟨rfl, rfl, rfl⟩ := hcs
    exact ⟨fun _ => default, .inl ⟨rfl, rfl⟩⟩
  · simp [Value.cells] at hcs
    obtain ⟨rfl, rfl, rfl⟩ := hcs
    obtain rfl : m = cap := by simpa using hmm
    have each : ∀ i, i < m → ∃ q : Nd, (∀ j, j < 8 → W.cell? ((x.add (i * 8)).add j) = (nodeCells q)[j]?) ∧ NdWf q := by
      intro i hi
      obtain ⟨cs', h1, h2⟩ := hx i hi
      rw [hc] at h1
      obtain ⟨_, hlen, hcell⟩ := World.cells?_some h1
      obtain ⟨xs, k, _, _, _, hxl, hfd⟩ := DataW.trod_struct he h2
      match xs, hxl, cs', hlen with
      | [y0, y1, y2, y3, y4, y5], _, [v0, v1, v2, v3, v4, v5, v6, v7], _ =>
        have k0 := hfd 0 f0 rfl
        have k1 := hfd 1 f1 rfl
        have k2 := hfd 2 f2 rfl
        have k3 := hfd 3 f3 rfl
        have k4 := hfd 4 f4 rfl
        have k5 := hfd 5 f5 rfl
        simp [ho.1, ho.2.1, ho.2.2.1, ho.2.2.2.1, ho.2.2.2.2.1, ho.2.2.2.2.2, hn.1, hn.2.1, hn.2.2.1, hn.2.2.2.1, hn.2.2.2.2.1, hn.2.2.2.2.2] at k0 k1 k2 k3 k4 k5
        obtain ⟨n0, e0, _, r0⟩ := DataW.trod_int g0 k0
        obtain ⟨n1, e1, _, r1⟩ := DataW.trod_int g1 k1
        obtain ⟨z0, z1, z2, _, _, l0, l1, l2⟩ := trod_array3 g2 ca k2
        obtain ⟨m0, d0, _, s0⟩ := DataW.trod_int ga l0
        obtain ⟨m1, d1, _, s1⟩ := DataW.trod_int ga l1
        obtain ⟨m2, d2, _, s2⟩ := DataW.trod_int ga l2
        obtain ⟨n3, e3, _, r3⟩ := DataW.trod_int g3 k3
        obtain ⟨n4, e4, _, r4⟩ := DataW.trod_int g4 k4
        obtain ⟨n5, e5, _, r5⟩ := DataW.trod_int g5 k5
        injection e0 with e0
        injection e1 with e1
        injection d0 with d0
        injection d1 with d1
        injection d2 with d2
        injection e3 with e3
        injection e4 with e4
        injection e5 with e5
        subst e0 e1 d0 d1 d2 e3 e4 e5
        have q8 : IntKind.i8.min = -128 := by decide
        have p8 : IntKind.i8.max = 127 := by decide
        have q64 : IntKind.i64.min = -9223372036854775808 := by decide
        simp [Lit.wf, q8, p8, q64] at r0 r1 s0 s1 s2 r3 r4 r5
        refine ⟨⟨n0, n1, m0, m1, m2, n3, n4, n5⟩, fun j hj => ?_, ⟨?_, ?_, fun j => ?_, ?_, ?_, ?_⟩⟩
        · exact hcell j hj
        · exact r0
        · exact r1
        · unfold Nd.arg
          repeat' split
          all_goals first
            | exact s0
            | exact s1
            | exact s2
            | (constructor <;> decide)
        · exact r3
        · exact r4
        · exact r5
    obtain ⟨f, hf⟩ := choose_nd each
    exact ⟨f, .inr ⟨x, rfl, hl, hm, hf⟩⟩
theorem IsNodes.tab {w : World} {a : Option Addr} {len cap : Nat} {f : Nat → Nd} (h : IsNodes w a len cap f) (hl : len ≤ 100000) : Tab w a ((List.range len).map f) := by
  refine ⟨by simpa using hl, ?_⟩
  rcases h with ⟨rfl, rfl⟩ | ⟨x, rfl, hc, _, hx⟩
  · exact .inl rfl
  · rcases Nat.eq_zero_or_pos len with rfl | hp
    · exact .inl rfl
    have c0 := (hx 0 (by omega)).1 0 (by omega)
    have c1 : w.cell? x = some (.int .i8 (f 0).op) := by simpa [Addr.add, nodeCells] using c0
    have hs : x.spot = none := World.cell?_spot c1
    have hb : x.block < w.heap.size := by
      unfold World.cell? at c1
      cases hh : w.heap[x.block]? with
      | none => simp [hh] at c1
      | some o => exact (Array.getElem?_eq_some_iff.1 hh).1
    obtain ⟨b, off, sp⟩ := x
    obtain rfl : sp = none := hs
    refine .inr ⟨b, off, rfl, hb, fun i hi => ?_⟩
    have hi' : i < len := by simpa using hi
    obtain ⟨h1, h2⟩ := hx i (by omega)
    simp only [List.getElem_map, List.getElem_range]
    refine ⟨hb, fun j hj => ?_, h2⟩
    rw [← h1 j hj]
    congr 1
    unfold Addr.add
    split <;> split <;> simp_all [Nat.add_assoc]
theorem IsNodes.cap {w : World} {a : Option Addr} {len cap : Nat} {f : Nat → Nd} (h : IsNodes w a len cap f) : len ≤ cap := by
  rcases h with ⟨rfl, rfl⟩ | ⟨x, rfl, hc, _, hx⟩
  · exact Nat.zero_le _
  · exact hc
structure TabIn where
  A : Option Addr
  len : Nat
  cap : Nat
  f : Nat → Nd
def TabIn.val (x : TabIn) : Value := .agg #[.slice x.A x.len x.cap]
def TabIn.Ok (x : TabIn) (W : World) : Prop := IsNodes W x.A x.len x.cap x.f
set_option maxRecDepth 100000 in
theorem table_in {H : Type} {enc : TypeId × Value → H} {W : World} {base : Nat} {v : Value} {d : DataW H} {p : List MemPlace} (hv : Value.okWide Tryz.prog W .any base 33 v)
    (h : DataW.Trod enc Tryz.prog W 0 (fun _ => true) true 33 v d p) (_hl : ∀ x ∈ p, x.block < W.heap.size) : ∃ x : TabIn, v = x.val ∧ x.Ok W := by
  obtain ⟨cs, rfl, hcs⟩ := okWide_struct Tryz.underlying33 hv
  obtain ⟨fuel, hf⟩ := h
  obtain ⟨xs, n, _, _, _, hxl, hfd⟩ := DataW.trod_struct Tryz.underlying33 hf
  have c1 : Tryz.prog.cellsOf 33 = 1 := by kernel_rfl
  have c2 : Tryz.prog.cellsOf 31 = 1 := by kernel_rfl
  rw [c1] at hcs
  obtain ⟨l⟩ := cs
  match l, hcs, xs, hxl with
  | [v0], _, [y0], _ =>
    have k0 := hfd 0 _ rfl
    simp [c2, Value.cells] at k0
    obtain ⟨A, len, cap, rfl⟩ : ∃ A len cap, v0 = .slice A len cap := by
      rcases DataW.trod_slice Tryz.underlying31 k0 with ⟨e2, _⟩ | ⟨a, len, cap, _, _, _, _, e2, _⟩
      · injection e2 with e2
        exact ⟨none, 0, 0, e2⟩
      · injection e2 with e2
        exact ⟨_, _, _, e2⟩
    obtain ⟨f, hf⟩ := isNodes_of (d := y0.1) (p := y0.2) Tryz.underlying31 Tryz.underlying48 (by kernel_rfl) (by decide) (by decide +kernel) Tryz.underlying45 Tryz.underlying45 Tryz.underlying46 Tryz.underlying3 (by kernel_rfl) Tryz.underlying3 Tryz.underlying3 Tryz.underlying3 (show DataW.Trod enc Tryz.prog W 0 (fun _ => true) true 31 (.slice A len cap) y0.1 y0.2 from ⟨n, k0⟩)
    exact ⟨⟨A, len, cap, f⟩, rfl, hf⟩
end Go.Proofs.YtkapbdjobfbhhaaGreat
namespace Go.Proofs.YtkapbdjobfbhhaaGreat
open Go.RowKit Go.Lib Go.ChangeShapes Go.WideShapes Go.ChangeAt
theorem vchoose_list {α : Type} : ∀ {n : Nat} {p : Nat → α → Prop}, (∀ i, i < n → ∃ x, p i x) → ∃ l : List α, ∃ h : l.length = n, ∀ i (hi : i < n), p i (l[i]'(h ▸ hi))
  | 0, _, _ => ⟨[], rfl, fun i hi => absurd hi (Nat.not_lt_zero _)⟩
  | n + 1, p, h => by
    obtain ⟨l, hl, hp⟩ := vchoose_list (n := n) (p := fun i x => p (i + 1) x) (fun i hi => h (i + 1) (Nat.succ_lt_succ hi))
    obtain ⟨x, hx⟩ := h 0 (Nat.succ_pos n)
    refine ⟨x :: l, by simp [hl], fun i hi => ?_⟩
    cases i with
    | zero => exact hx
    | succ i => exact hp i (Nat.lt_of_succ_lt_succ hi)
theorem vcell_spot {w : World} {a : Addr} {v : Value} (h : w.cell? a = some v) : a.spot = none := by
  unfold World.cell? at h
  split at h
  · split at h
    · cases h
    · rename_i hs
      cases hsp : a.spot with
      | none => rfl
      | some _ => rw [hsp] at hs; exact absurd rfl hs
  · cases h
theorem vadd_nought (a : Addr) : a.add 0 = a := by
  obtain ⟨b, o, s⟩ := a
  unfold Addr.add
  split <;> simp_all
def ElAt (W : World) (A : Option Addr) (sz i : Nat) (cs : List Value) : Prop := ∃ b off, A = some ⟨b, off, none⟩ ∧ b < W.heap.size ∧ ∀ j, j < sz → W.cell? ⟨b, off + i * sz + j, none⟩ = cs[j]?
theorem list_open {H : Type} {enc : TypeId × Value → H} {W : World} {b : Nat} {hd : Bool} {α : Type} {t e : TypeId} {sz fuel : Nat} (Q : α → List Value → Prop) (hsz : 0 < sz) (ht : Tryz.prog.underlying t = some (.slice e)) (hc : Tryz.prog.cellsOf e = sz)
    (hop : ∀ m, m < fuel → ∀ cs r, DataW.trod enc Tryz.prog W b (fun _ => true) hd m e cs = some r → ∃ x, Q x cs) {v : Value} {r : DataW H × List MemPlace} (h : DataW.trod enc Tryz.prog W b (fun _ => true) hd fuel t [v] = some r) :
    ∃ (A : Option Addr) (c : Nat) (l : List α), v = .slice A l.length c ∧ l.length ≤ 9223372036854775807 ∧ ∀ i (hi : i < l.length), ∃ cs, cs.length = sz ∧ Q l[i] cs ∧ ElAt W A sz i cs := by
  rcases DataW.trod_slice ht h with ⟨e2, _⟩ | ⟨a, len, cap, elems, rest, m, hm, e2, _, _, hlc, hcm, hel, hget, _⟩
  · injection e2 with e2
    exact ⟨none, 0, [], e2, by simp, fun i hi => absurd hi (by simp)⟩
  · injection e2 with e2
    rw [hc] at hget
    have each : ∀ i, i < len → ∃ z : α, ∃ cs, cs.length = sz ∧ Q z cs ∧ ∀ j, j < sz → W.cell? ((a.add (i * sz)).add j) = cs[j]? := fun i hi => by
      have h1 := hget i hi
      rw [List.getElem?_eq_getElem (by rw [hel]; exact hi)] at h1
      obtain ⟨cs', h2, h3⟩ := Option.bind_eq_some_iff.1 h1
      obtain ⟨_, hl, hcell⟩ := World.cells?_some h2
      obtain ⟨x, hx⟩ := hop m (by omega) cs' _ h3
      exact ⟨x, cs', hl, hx, hcell⟩
    obtain ⟨l, hl, hp⟩ := vchoose_list each
    refine ⟨some a, cap, l, by rw [hl]; exact e2, by rw [hl]; unfold maxLen at hcm; omega, fun i hi => ?_⟩
    obtain ⟨cs, h1, h2, h3⟩ := hp i (by omega)
    refine ⟨cs, h1, h2, ?_⟩
    obtain ⟨cs0, g1, _, g3⟩ := hp 0 (by omega)
    have h00 := g3 0 hsz
    rw [List.getElem?_eq_getElem (by omega), Nat.zero_mul, vadd_nought, vadd_nought] at h00
    have hsp2 : a.spot = none := vcell_spot h00
    have h0 := h3 0 hsz
    rw [List.getElem?_eq_getElem (by omega)] at h0
    obtain ⟨b', off, sp⟩ := a
    dsimp only at hsp2
    subst hsp2
    have hadd : ∀ o j, (⟨b', o, none⟩ : Addr).add j = ⟨b', o + j, none⟩ := fun o j => by unfold Addr.add; split <;> simp_all
    have hlt := World.block_lt_of_cell? _ _ h0
    rw [hadd, hadd] at hlt
    refine ⟨b', off, rfl, hlt, fun j hj => ?_⟩
    have := h3 j hj
    rwa [hadd, hadd] at this
theorem i64_of {n : Int} (h : (Lit.int .i64 n).wf = true) : I64 n := by
  have q64 : IntKind.i64.min = -9223372036854775808 := by decide
  have p64 : IntKind.i64.max = 9223372036854775807 := by decide
  simp [Lit.wf, q64, p64] at h
  exact ⟨h.1, h.2⟩
section
variable {H : Type} {enc : TypeId × Value → H} {W : World} {b : Nat} {hd : Bool}
theorem int_open {fuel : Nat} {cs : List Value} {r : DataW H × List MemPlace} (h : DataW.trod enc Tryz.prog W b (fun _ => true) hd fuel 3 cs = some r) : ∃ n : Int, cs = [.int .i64 n] ∧ I64 n := by
  obtain ⟨n, e, _, hw⟩ := DataW.trod_int Tryz.underlying3 h
  exact ⟨n, e, i64_of hw⟩
theorem str_open {fuel : Nat} {cs : List Value} {r : DataW H × List MemPlace} (h : DataW.trod enc Tryz.prog W b (fun _ => true) hd fuel 9 cs = some r) : ∃ s : ByteArray, cs = [.string s] ∧ s.size ≤ 9223372036854775807 := by
  obtain ⟨s, e, _, hw⟩ := DataW.trod_string Tryz.underlying9 h
  exact ⟨s, e, by unfold maxLen at hw; omega⟩
theorem tri_open {fuel : Nat} {c0 c1 c2 : Value} {r : DataW H × List MemPlace} (h : DataW.trod enc Tryz.prog W b (fun _ => true) hd fuel 46 [c0, c1, c2] = some r) : ∃ n0 n1 n2 : Int, c0 = .int .i64 n0 ∧ c1 = .int .i64 n1 ∧ c2 = .int .i64 n2 ∧ I64 n0 ∧ I64 n1 ∧ I64 n2 := by
  obtain ⟨z0, z1, z2, _, _, l0, l1, l2⟩ := trod_array3 Tryz.underlying46 (by kernel_rfl) h
  obtain ⟨m0, d0, s0⟩ := int_open l0
  obtain ⟨m1, d1, s1⟩ := int_open l1
  obtain ⟨m2, d2, s2⟩ := int_open l2
  injection d0 with d0
  injection d1 with d1
  injection d2 with d2
  exact ⟨m0, m1, m2, d0, d1, d2, s0, s1, s2⟩
set_option maxRecDepth 100000 in
theorem fun_open {fuel : Nat} {cs : List Value} {r : DataW H × List MemPlace} (h : DataW.trod enc Tryz.prog W b (fun _ => true) hd fuel 83 cs = some r) : ∃ f : FnM, cs = f.cells ∧ f.Wf := by
  obtain ⟨xs, n, rfl, hr, hlen, hxl, hfd⟩ := DataW.trod_struct Tryz.underlying83 h
  have cA : Tryz.prog.cellsOf 83 = 6 := by kernel_rfl
  have cS : Tryz.prog.cellsOf 9 = 1 := by kernel_rfl
  have cI : Tryz.prog.cellsOf 3 = 1 := by kernel_rfl
  have cT : Tryz.prog.cellsOf 46 = 3 := by kernel_rfl
  rw [cA] at hlen
  match cs, hlen, xs, hxl with
  | [v0, v1, v2, v3, v4, v5], _, [y0, y1, y2, y3], _ =>
    have k0 := hfd 0 _ rfl
    have k1 := hfd 1 _ rfl
    have k2 := hfd 2 _ rfl
    have k3 := hfd 3 _ rfl
    simp [cS] at k0
    simp [cI] at k1
    simp [cT] at k2
    simp [cI] at k3
    obtain ⟨s, e0, _⟩ := str_open k0
    obtain ⟨n1, e1, w1⟩ := int_open k1
    obtain ⟨m0, m1, m2, rfl, rfl, rfl, s0, s1, s2⟩ := tri_open k2
    obtain ⟨n3, e3, w3⟩ := int_open k3
    injection e0 with e0
    injection e1 with e1
    injection e3 with e3
    subst e0 e1 e3
    exact ⟨⟨s, n1, m0, m1, m2, n3⟩, rfl, ⟨w1, s0, s1, s2, w3⟩⟩
set_option maxRecDepth 100000 in
theorem rw_open {fuel : Nat} {cs : List Value} {r : DataW H × List MemPlace} (h : DataW.trod enc Tryz.prog W b (fun _ => true) hd fuel 87 cs = some r) : ∃ f : RwM, cs = [.int .i64 f.a0, .int .i64 f.a1, .int .i64 f.a2, .int .i64 f.val] ∧ I64 f.a0 ∧ I64 f.a1 ∧ I64 f.a2 ∧ I64 f.val := by
  obtain ⟨xs, n, rfl, hr, hlen, hxl, hfd⟩ := DataW.trod_struct Tryz.underlying87 h
  have cA : Tryz.prog.cellsOf 87 = 4 := by kernel_rfl
  have cI : Tryz.prog.cellsOf 3 = 1 := by kernel_rfl
  have cT : Tryz.prog.cellsOf 46 = 3 := by kernel_rfl
  rw [cA] at hlen
  match cs, hlen, xs, hxl with
  | [v0, v1, v2, v3], _, [y0, y1], _ =>
    have k0 := hfd 0 _ rfl
    have k1 := hfd 1 _ rfl
    simp [cT] at k0
    simp [cI] at k1
    obtain ⟨m0, m1, m2, rfl, rfl, rfl, s0, s1, s2⟩ := tri_open k0
    obtain ⟨n3, e3, w3⟩ := int_open k1
    injection e3 with e3
    subst e3
    exact ⟨⟨m0, m1, m2, n3⟩, rfl, s0, s1, s2, w3⟩
def FvIn (W : World) (f : FvM) : Prop := I64 f.els ∧ f.rows.length ≤ 9223372036854775807 ∧ (∀ r ∈ f.rows, I64 r.val) ∧ ∀ k (hk : k < f.rows.length), ∃ b off, f.R = some ⟨b, off, none⟩ ∧ b < W.heap.size ∧ RwAt W b (off + k * 4) f.rows[k]
set_option maxRecDepth 100000 in
theorem fv_open {fuel : Nat} {cs : List Value} {r : DataW H × List MemPlace} (h : DataW.trod enc Tryz.prog W b (fun _ => true) hd fuel 59 cs = some r) : ∃ f : FvM, cs = [.slice f.R f.rows.length f.rc, .int .i64 f.els] ∧ FvIn W f := by
  obtain ⟨xs, n, rfl, hr, hlen, hxl, hfd⟩ := DataW.trod_struct Tryz.underlying59 h
  have cA : Tryz.prog.cellsOf 59 = 2 := by kernel_rfl
  have cI : Tryz.prog.cellsOf 3 = 1 := by kernel_rfl
  have cL : Tryz.prog.cellsOf 57 = 1 := by kernel_rfl
  rw [cA] at hlen
  match cs, hlen, xs, hxl with
  | [v0, v1], _, [y0, y1], _ =>
    have k0 := hfd 0 _ rfl
    have k1 := hfd 1 _ rfl
    simp [cL] at k0
    simp [cI] at k1
    obtain ⟨n1, e1, w1⟩ := int_open k1
    injection e1 with e1
    subst e1
    obtain ⟨A, c, l, rfl, hll, hat⟩ := list_open (fun (f : RwM) cs => cs = [.int .i64 f.a0, .int .i64 f.a1, .int .i64 f.a2, .int .i64 f.val] ∧ I64 f.a0 ∧ I64 f.a1 ∧ I64 f.a2 ∧ I64 f.val) (sz := 4) (by decide) Tryz.underlying57 (by kernel_rfl) (fun m _ cs r h => rw_open h) k0
    refine ⟨⟨A, c, l, n1⟩, rfl, w1, hll, fun q hq => ?_, fun k hk => ?_⟩
    · obtain ⟨i, hi, rfl⟩ := List.getElem_of_mem hq
      obtain ⟨_, _, ⟨_, _, _, _, h5⟩, _⟩ := hat i hi
      exact h5
    · obtain ⟨cs, _, ⟨rfl, q0, q1, q2, _⟩, b', off, e, hlt, hc⟩ := hat k hk
      exact ⟨b', off, e, hlt, hc 0 (by decide), hc 1 (by decide), hc 2 (by decide), hc 3 (by decide), q0, q1, q2⟩
end
def WldV.val (v : WldV) : Value := .agg v.cells
def WldV.Ok (v : WldV) (W : World) : Prop := WldAt W v ∧ WldWf v
set_option maxRecDepth 100000 in
theorem world_in {H : Type} {enc : TypeId × Value → H} {W : World} {base : Nat} {v : Value} {d : DataW H} {p : List MemPlace} (hv : Value.okWide Tryz.prog W .any base 30 v)
    (h : DataW.Trod enc Tryz.prog W 0 (fun _ => true) true 30 v d p) (_hl : ∀ x ∈ p, x.block < W.heap.size) : ∃ x : WldV, v = x.val ∧ x.Ok W := by
  obtain ⟨cs, rfl, hcs⟩ := okWide_struct Tryz.underlying30 hv
  obtain ⟨fuel, hf⟩ := h
  obtain ⟨xs, n, _, _, _, hxl, hfd⟩ := DataW.trod_struct Tryz.underlying30 hf
  have cA : Tryz.prog.cellsOf 30 = 2 := by kernel_rfl
  have c0 : Tryz.prog.cellsOf 27 = 1 := by kernel_rfl
  have c1 : Tryz.prog.cellsOf 28 = 1 := by kernel_rfl
  rw [cA] at hcs
  obtain ⟨l⟩ := cs
  match l, hcs, xs, hxl with
  | [v0, v1], _, [y0, y1], _ =>
    have k0 := hfd 0 _ rfl
    have k1 := hfd 1 _ rfl
    simp [c0, Value.cells] at k0
    simp [c1, Value.cells] at k1
    obtain ⟨A0, d0, l0, rfl, hl0, hat0⟩ := list_open (fun (x : Int) cs => cs = [.int .i64 x] ∧ I64 x) (sz := 1) (by decide) Tryz.underlying27 (by kernel_rfl) (fun m _ cs r h => int_open h) k0
    obtain ⟨A1, d1, l1, rfl, hl1, hat1⟩ := list_open (fun (f : FvM) cs => cs = [.slice f.R f.rows.length f.rc, .int .i64 f.els] ∧ FvIn W f) (sz := 2) (by decide) Tryz.underlying28 (by kernel_rfl) (fun m _ cs r h => fv_open h) k1
    have hin : ∀ f ∈ l1, FvIn W f := fun f hf => by
      obtain ⟨i, hi, rfl⟩ := List.getElem_of_mem hf
      obtain ⟨_, _, ⟨_, h5⟩, _⟩ := hat1 i hi
      exact h5
    refine ⟨⟨A0, d0, l0, A1, d1, l1⟩, rfl, ⟨hl0, hl1, fun i hi => ?_, fun i hi => ?_, fun f hf => ⟨(hin f hf).2.1, (hin f hf).2.2.2⟩⟩, ⟨fun f hf => (hin f hf).1, fun f hf => (hin f hf).2.2.1⟩⟩
    · obtain ⟨cs, _, ⟨rfl, _⟩, b', off, e, hlt, hc⟩ := hat0 i hi
      have := hc 0 (by decide)
      rw [Nat.mul_one] at this
      exact ⟨b', off, e, hlt, this⟩
    · obtain ⟨cs, _, ⟨rfl, _⟩, b', off, e, hlt, hc⟩ := hat1 i hi
      exact ⟨b', off, e, hlt, hc 0 (by decide), hc 1 (by decide)⟩
section
variable {H : Type} {enc : TypeId × Value → H} {W : World} {b : Nat} {hd : Bool}
set_option maxRecDepth 100000 in
theorem sxl_open : ∀ (fuel : Nat) (cs : List Value) (r : DataW H × List MemPlace), DataW.trod enc Tryz.prog W b (fun _ => true) hd fuel 54 cs = some r → ∃ y : X3, cs = [.int .i8 y.k, .string y.t, .slice y.A y.n y.c] ∧ SxL W y := by
  intro fuel
  induction fuel using Nat.strongRecOn with
  | ind fuel ih =>
  intro cs r h
  obtain ⟨xs, n, rfl, hr, hlen, hxl, hfd⟩ := DataW.trod_struct Tryz.underlying54 h
  have cA : Tryz.prog.cellsOf 54 = 3 := by kernel_rfl
  have c8 : Tryz.prog.cellsOf 45 = 1 := by kernel_rfl
  have cS : Tryz.prog.cellsOf 9 = 1 := by kernel_rfl
  have cL : Tryz.prog.cellsOf 52 = 1 := by kernel_rfl
  rw [cA] at hlen
  match cs, hlen, xs, hxl with
  | [v0, v1, v2], _, [y0, y1, y2], _ =>
    have k0 := hfd 0 _ rfl
    have k1 := hfd 1 _ rfl
    have k2 := hfd 2 _ rfl
    simp [c8] at k0
    simp [cS] at k1
    simp [cL] at k2
    obtain ⟨k, e0, _, _⟩ := DataW.trod_int Tryz.underlying45 k0
    obtain ⟨s, e1, hs⟩ := str_open k1
    injection e0 with e0
    injection e1 with e1
    subst e0 e1
    obtain ⟨A, c, l, rfl, hll, hat⟩ := list_open (fun (y : X3) cs => cs = [.int .i8 y.k, .string y.t, .slice y.A y.n y.c] ∧ SxL W y) (sz := 3) (by decide) Tryz.underlying52 cA (fun m hm cs r h => ih m (by omega) cs r h) k2
    refine ⟨⟨k, s, A, l.length, c⟩, rfl, ?_⟩
    rcases Nat.eq_zero_or_pos l.length with h0 | h0
    · exact .mk _ 0 0 (fun _ => ⟨k, s, A, l.length, c⟩) hs hll (fun h => absurd h (by show ¬ 0 < l.length; omega)) (fun i hi => absurd hi (by show ¬ i < l.length; omega)) (fun i hi => absurd hi (by show ¬ i < l.length; omega))
    · obtain ⟨_, _, _, b0, o0, hA, hlt, _⟩ := hat 0 h0
      have hel : ∀ i (hi : i < l.length), (W.cell? ⟨b0, o0 + i * 3, none⟩ = some (.int .i8 l[i].k) ∧ W.cell? ⟨b0, o0 + i * 3 + 1, none⟩ = some (.string l[i].t) ∧ W.cell? ⟨b0, o0 + i * 3 + 2, none⟩ = some (.slice l[i].A l[i].n l[i].c)) ∧ SxL W l[i] := fun i hi => by
        obtain ⟨cs, _, ⟨rfl, hx⟩, b1, o1, hA1, _, hc⟩ := hat i hi
        rw [hA] at hA1
        injection hA1 with hA1
        injection hA1 with e1 e2 _
        subst e1 e2
        exact ⟨⟨hc 0 (by decide), hc 1 (by decide), hc 2 (by decide)⟩, hx⟩
      refine .mk _ b0 o0 (fun i => if h : i < l.length then l[i] else ⟨k, s, A, l.length, c⟩) hs hll (fun _ => ⟨hA, hlt⟩) (fun i hi => ?_) (fun i hi => ?_)
      · have hi' : i < l.length := hi
        simp only [hi', dif_pos]
        exact (hel i hi').1
      · have hi' : i < l.length := hi
        simp only [hi', dif_pos]
        exact (hel i hi').2
set_option maxRecDepth 100000 in
theorem par_open {fuel : Nat} {cs : List Value} {r : DataW H × List MemPlace} (h : DataW.trod enc Tryz.prog W b (fun _ => true) hd fuel 142 cs = some r) : ∃ f : ByteArray × Int, cs = [.string f.1, .int .i64 f.2] ∧ I64 f.2 := by
  obtain ⟨xs, n, rfl, hr, hlen, hxl, hfd⟩ := DataW.trod_struct Tryz.underlying142 h
  have cA : Tryz.prog.cellsOf 142 = 2 := by kernel_rfl
  have cS : Tryz.prog.cellsOf 9 = 1 := by kernel_rfl
  have cI : Tryz.prog.cellsOf 3 = 1 := by kernel_rfl
  rw [cA] at hlen
  match cs, hlen, xs, hxl with
  | [v0, v1], _, [y0, y1], _ =>
    have k0 := hfd 0 _ rfl
    have k1 := hfd 1 _ rfl
    simp [cS] at k0
    simp [cI] at k1
    obtain ⟨s, e0, _⟩ := str_open k0
    obtain ⟨n1, e1, w1⟩ := int_open k1
    injection e0 with e0
    injection e1 with e1
    subst e0 e1
    exact ⟨⟨s, n1⟩, rfl, w1⟩
set_option maxRecDepth 100000 in
theorem mac_open {fuel : Nat} {cs : List Value} {r : DataW H × List MemPlace} (h : DataW.trod enc Tryz.prog W b (fun _ => true) hd fuel 56 cs = some r) : ∃ m : MacM, cs = m.cells ∧ I64 m.res ∧ MacIn W m := by
  obtain ⟨xs, n, rfl, hr, hlen, hxl, hfd⟩ := DataW.trod_struct Tryz.underlying56 h
  have cA : Tryz.prog.cellsOf 56 = 6 := by kernel_rfl
  have cS : Tryz.prog.cellsOf 9 = 1 := by kernel_rfl
  have cI : Tryz.prog.cellsOf 3 = 1 := by kernel_rfl
  have cL : Tryz.prog.cellsOf 51 = 1 := by kernel_rfl
  have cX : Tryz.prog.cellsOf 54 = 3 := by kernel_rfl
  rw [cA] at hlen
  match cs, hlen, xs, hxl with
  | [v0, v1, v2, v3, v4, v5], _, [y0, y1, y2, y3], _ =>
    have k0 := hfd 0 _ rfl
    have k1 := hfd 1 _ rfl
    have k2 := hfd 2 _ rfl
    have k3 := hfd 3 _ rfl
    simp [cS] at k0
    simp [cL] at k1
    simp [cI] at k2
    simp [cX] at k3
    obtain ⟨s, e0, _⟩ := str_open k0
    obtain ⟨n2, e2, w2⟩ := int_open k2
    obtain ⟨y, e3, hy⟩ := sxl_open _ _ _ k3
    injection e0 with e0
    injection e2 with e2
    injection e3 with e3 e4
    injection e4 with e4 e5
    injection e5 with e5
    subst e0 e2 e3 e4 e5
    obtain ⟨A, c, l, rfl, hll, hat⟩ := list_open (fun (f : ByteArray × Int) cs => cs = [.string f.1, .int .i64 f.2] ∧ I64 f.2) (sz := 2) (by decide) Tryz.underlying51 (by kernel_rfl) (fun m _ cs r h => par_open h) k1
    refine ⟨⟨s, A, l.length, c, n2, y⟩, rfl, w2, hll, fun i hi => ?_, hy⟩
    obtain ⟨cs, _, ⟨rfl, q⟩, b', off, e, hlt, hc⟩ := hat i hi
    exact ⟨b', off, l[i].1, l[i].2, e, hlt, hc 0 (by decide), hc 1 (by decide), q⟩
end
def SigV.val (g : SigV) : Value := .agg g.cells
def SigV.Ok (g : SigV) (W : World) : Prop := SigAt W g ∧ SigDeep W g
set_option maxRecDepth 100000 in
theorem sig_in {H : Type} {enc : TypeId × Value → H} {W : World} {base : Nat} {v : Value} {d : DataW H} {p : List MemPlace} (hv : Value.okWide Tryz.prog W .any base 26 v)
    (h : DataW.Trod enc Tryz.prog W 0 (fun _ => true) true 26 v d p) (_hl : ∀ x ∈ p, x.block < W.heap.size) : ∃ x : SigV, v = x.val ∧ x.Ok W := by
  obtain ⟨cs, rfl, hcs⟩ := okWide_struct Tryz.underlying26 hv
  obtain ⟨fuel, hf⟩ := h
  obtain ⟨xs, n, _, _, _, hxl, hfd⟩ := DataW.trod_struct Tryz.underlying26 hf
  have cA : Tryz.prog.cellsOf 26 = 3 := by kernel_rfl
  have c0 : Tryz.prog.cellsOf 22 = 1 := by kernel_rfl
  have c1 : Tryz.prog.cellsOf 23 = 1 := by kernel_rfl
  have c2 : Tryz.prog.cellsOf 24 = 1 := by kernel_rfl
  rw [cA] at hcs
  obtain ⟨l⟩ := cs
  match l, hcs, xs, hxl with
  | [v0, v1, v2], _, [y0, y1, y2], _ =>
    have k0 := hfd 0 _ rfl
    have k1 := hfd 1 _ rfl
    have k2 := hfd 2 _ rfl
    simp [c0, Value.cells] at k0
    simp [c1, Value.cells] at k1
    simp [c2, Value.cells] at k2
    obtain ⟨A0, d0, l0, rfl, hl0, hat0⟩ := list_open (fun (x : ByteArray) cs => cs = [.string x] ∧ x.size ≤ 9223372036854775807) (sz := 1) (by decide) Tryz.underlying22 (by kernel_rfl) (fun m _ cs r h => str_open h) k0
    obtain ⟨A1, d1, l1, rfl, hl1, hat1⟩ := list_open (fun (f : FnM) cs => cs = f.cells ∧ f.Wf) (sz := 6) (by decide) Tryz.underlying23 (by kernel_rfl) (fun m _ cs r h => fun_open h) k1
    obtain ⟨A2, d2, l2, rfl, hl2, hat2⟩ := list_open (fun (f : MacM) cs => cs = f.cells ∧ I64 f.res ∧ MacIn W f) (sz := 6) (by decide) Tryz.underlying24 (by kernel_rfl) (fun m _ cs r h => mac_open h) k2
    refine ⟨⟨A0, d0, l0, A1, d1, l1, A2, d2, l2⟩, rfl, ⟨hl0, hl1, hl2, fun i hi => ?_, fun i hi => ?_, fun i hi => ?_⟩, fun m hm => ?_⟩
    · obtain ⟨cs, _, ⟨rfl, _⟩, b', off, e, hlt, hc⟩ := hat0 i hi
      have := hc 0 (by decide)
      rw [Nat.mul_one] at this
      exact ⟨b', off, e, hlt, this⟩
    · obtain ⟨cs, _, ⟨rfl, hw⟩, b', off, e, hlt, hc⟩ := hat1 i hi
      exact ⟨b', off, e, hlt, hc 0 (by decide), hc 1 (by decide), hc 2 (by decide), hc 3 (by decide), hc 4 (by decide), hc 5 (by decide), hw⟩
    · obtain ⟨cs, _, ⟨rfl, hw, _⟩, b', off, e, hlt, hc⟩ := hat2 i hi
      exact ⟨b', off, e, hlt, hc 0 (by decide), hc 1 (by decide), hc 2 (by decide), hc 3 (by decide), hc 4 (by decide), hc 5 (by decide), hw⟩
    · obtain ⟨i, hi, rfl⟩ := List.getElem_of_mem hm
      obtain ⟨_, _, ⟨_, _, h5⟩, _⟩ := hat2 i hi
      exact h5
end Go.Proofs.YtkapbdjobfbhhaaGreat
namespace Go.Proofs.YtkapbdjobfbhhaaGreat
open Go.RowKit Go.ChangeShapes Go.WideShapes Go.ChangeAt
theorem isRow_row {w : World} {a : Option Addr} {len cap : Nat} {z : List Int} (h : IsRow .i64 w a len cap z) (hl : len ≤ 100000) : ∃ L, L.length = len ∧ Row w a L ∧ (a = none → cap = 0) ∧ len ≤ cap ∧ L = z.take len := by
  rcases h with ⟨rfl, rfl, rfl, rfl⟩ | ⟨x, rfl, hc, _, hz, hcell, _⟩
  · exact ⟨[], rfl, ⟨by simp, .inl rfl⟩, fun _ => rfl, Nat.le_refl _, rfl⟩
  · have hlen : (z.take len).length = len := by rw [List.length_take]; omega
    refine ⟨z.take len, hlen, ⟨by omega, ?_⟩, fun e => (by cases e), hc, rfl⟩
    rcases Nat.eq_zero_or_pos len with h0 | h0
    · exact .inl (by rw [hlen]; exact h0)
    · have c0 := hcell 0 (by omega)
      rw [show x.add 0 = x by obtain ⟨b, off, sp⟩ := x; unfold Addr.add; split <;> simp_all] at c0
      have hs : x.spot = none := World.cell?_spot c0
      have hb : x.block < w.heap.size := by
        unfold World.cell? at c0
        cases hh : w.heap[x.block]? with
        | none => simp [hh] at c0
        | some o => exact (Array.getElem?_eq_some_iff.1 hh).1
      obtain ⟨b, off, sp⟩ := x
      obtain rfl : sp = none := hs
      refine .inr ⟨b, off, rfl, hb, fun i hi => ?_⟩
      rw [hlen] at hi
      have h1 := hcell i (by omega)
      rw [show (⟨b, off, none⟩ : Addr).add i = ⟨b, off + i, none⟩ by unfold Addr.add; split <;> simp_all] at h1
      rw [h1, List.getElem_take, List.getD_eq_getElem?_getD, List.getElem?_eq_getElem (by omega)]
      rfl
end Go.Proofs.YtkapbdjobfbhhaaGreat

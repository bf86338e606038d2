/- Numerals, exactly. -/
import Derived.Test.YtkapbdjobfbhhaaGreatEuN
import Derived.Laws.AppendOwn
import Derived.Lib.Bytealg
import Derived.Lib.Strings
import Derived.Lib.IndexBytes
import Derived.Deep.LoopGhost
import Derived.WalkSpells
namespace Go.Proofs.YtkapbdjobfbhhaaGreat
open Go.RowKit Go.Lib
def I64 (x : Int) : Prop := -9223372036854775808 ≤ x ∧ x ≤ 9223372036854775807
structure FnM where
  nm : ByteArray
  len : Int
  a0 : Int
  a1 : Int
  a2 : Int
  res : Int
instance : Inhabited FnM := ⟨⟨ByteArray.empty, 0, 0, 0, 0, 0⟩⟩
def FnM.cells (f : FnM) : List Value := [.string f.nm, .int .i64 f.len, .int .i64 f.a0, .int .i64 f.a1, .int .i64 f.a2, .int .i64 f.res]
structure FnM.Wf (f : FnM) : Prop where
  len : I64 f.len
  a0 : I64 f.a0
  a1 : I64 f.a1
  a2 : I64 f.a2
  res : I64 f.res
structure FnAt (w : World) (b o : Nat) (f : FnM) : Prop where
  c0 : w.cell? ⟨b, o, none⟩ = some (.string f.nm)
  c1 : w.cell? ⟨b, o + 1, none⟩ = some (.int .i64 f.len)
  c2 : w.cell? ⟨b, o + 2, none⟩ = some (.int .i64 f.a0)
  c3 : w.cell? ⟨b, o + 3, none⟩ = some (.int .i64 f.a1)
  c4 : w.cell? ⟨b, o + 4, none⟩ = some (.int .i64 f.a2)
  c5 : w.cell? ⟨b, o + 5, none⟩ = some (.int .i64 f.res)
  wf : f.Wf
structure X3 where
  k : Int
  t : ByteArray
  A : Option Addr
  n : Nat
  c : Nat
inductive SxL (w : World) : X3 → Prop
  | mk (y : X3) (b off : Nat) (f : Nat → X3) (ht : y.t.size ≤ 9223372036854775807) (hn : y.n ≤ 9223372036854775807) (hA : 0 < y.n → y.A = some ⟨b, off, none⟩ ∧ b < w.heap.size)
      (hc : ∀ i, i < y.n → w.cell? ⟨b, off + i * 3, none⟩ = some (.int .i8 (f i).k) ∧ w.cell? ⟨b, off + i * 3 + 1, none⟩ = some (.string (f i).t) ∧ w.cell? ⟨b, off + i * 3 + 2, none⟩ = some (.slice (f i).A (f i).n (f i).c))
      (hs : ∀ i, i < y.n → SxL w (f i)) : SxL w y
theorem SxL.kept {w w' : World} (hb : Below w.heap.size w w') {y : X3} (h : SxL w y) : SxL w' y := by
  induction h with
  | mk y b off f ht hn hA hc _ ih =>
    refine .mk y b off f ht hn (fun h => ⟨(hA h).1, Nat.lt_of_lt_of_le (hA h).2 hb.size⟩) (fun i hi => ?_) ih
    have hlt := (hA (by omega)).2
    obtain ⟨h0, h1, h2⟩ := hc i hi
    exact ⟨(hb.cell (p := ⟨b, off + i * 3, none⟩) hlt).trans h0, (hb.cell (p := ⟨b, off + i * 3 + 1, none⟩) hlt).trans h1, (hb.cell (p := ⟨b, off + i * 3 + 2, none⟩) hlt).trans h2⟩
def X3.val (y : X3) : Value := .agg #[.int .i8 y.k, .string y.t, .slice y.A y.n y.c]
structure MacM where
  nm : ByteArray
  P : Option Addr
  np : Nat
  cp : Nat
  res : Int
  y : X3
structure MacAt (w : World) (b o : Nat) (m : MacM) : Prop where
  c0 : w.cell? ⟨b, o, none⟩ = some (.string m.nm)
  c1 : w.cell? ⟨b, o + 1, none⟩ = some (.slice m.P m.np m.cp)
  c2 : w.cell? ⟨b, o + 2, none⟩ = some (.int .i64 m.res)
  c3 : w.cell? ⟨b, o + 3, none⟩ = some (.int .i8 m.y.k)
  c4 : w.cell? ⟨b, o + 4, none⟩ = some (.string m.y.t)
  c5 : w.cell? ⟨b, o + 5, none⟩ = some (.slice m.y.A m.y.n m.y.c)
  wf : I64 m.res
def MacM.cells (m : MacM) : List Value := [.string m.nm, .slice m.P m.np m.cp, .int .i64 m.res, .int .i8 m.y.k, .string m.y.t, .slice m.y.A m.y.n m.y.c]
structure MacIn (w : World) (m : MacM) : Prop where
  np : m.np ≤ 9223372036854775807
  pars : ∀ i, i < m.np → ∃ b off s z, m.P = some ⟨b, off, none⟩ ∧ b < w.heap.size ∧ w.cell? ⟨b, off + i * 2, none⟩ = some (.string s) ∧ w.cell? ⟨b, off + i * 2 + 1, none⟩ = some (.int .i64 z) ∧ I64 z
  body : SxL w m.y
structure SigV where
  A0 : Option Addr
  c0 : Nat
  sorts : List ByteArray
  A1 : Option Addr
  c1 : Nat
  funs : List FnM
  A2 : Option Addr
  c2 : Nat
  macs : List MacM
def SigV.cells (g : SigV) : Array Value := #[.slice g.A0 g.sorts.length g.c0, .slice g.A1 g.funs.length g.c1, .slice g.A2 g.macs.length g.c2]
structure SigAt (w : World) (g : SigV) : Prop where
  n0 : g.sorts.length ≤ 9223372036854775807
  n1 : g.funs.length ≤ 9223372036854775807
  n2 : g.macs.length ≤ 9223372036854775807
  s : ∀ i (hi : i < g.sorts.length), ∃ b off, g.A0 = some ⟨b, off, none⟩ ∧ b < w.heap.size ∧ w.cell? ⟨b, off + i, none⟩ = some (.string g.sorts[i])
  f : ∀ i (hi : i < g.funs.length), ∃ b off, g.A1 = some ⟨b, off, none⟩ ∧ b < w.heap.size ∧ FnAt w b (off + i * 6) g.funs[i]
  m : ∀ i (hi : i < g.macs.length), ∃ b off, g.A2 = some ⟨b, off, none⟩ ∧ b < w.heap.size ∧ MacAt w b (off + i * 6) g.macs[i]
def SigDeep (w : World) (g : SigV) : Prop := ∀ m ∈ g.macs, MacIn w m
theorem FnAt.below {w w' : World} {b o : Nat} {f : FnM} (h : FnAt w b o f) (hb : Below w.heap.size w w') (hlt : b < w.heap.size) : FnAt w' b o f :=
  ⟨(hb.cell (p := ⟨b, o, none⟩) hlt).trans h.c0, (hb.cell (p := ⟨b, o + 1, none⟩) hlt).trans h.c1, (hb.cell (p := ⟨b, o + 2, none⟩) hlt).trans h.c2, (hb.cell (p := ⟨b, o + 3, none⟩) hlt).trans h.c3, (hb.cell (p := ⟨b, o + 4, none⟩) hlt).trans h.c4, (hb.cell (p := ⟨b, o + 5, none⟩) hlt).trans h.c5, h.wf⟩
theorem MacAt.below {w w' : World} {b o : Nat} {f : MacM} (h : MacAt w b o f) (hb : Below w.heap.size w w') (hlt : b < w.heap.size) : MacAt w' b o f :=
  ⟨(hb.cell (p := ⟨b, o, none⟩) hlt).trans h.c0, (hb.cell (p := ⟨b, o + 1, none⟩) hlt).trans h.c1, (hb.cell (p := ⟨b, o + 2, none⟩) hlt).trans h.c2, (hb.cell (p := ⟨b, o + 3, none⟩) hlt).trans h.c3, (hb.cell (p := ⟨b, o + 4, none⟩) hlt).trans h.c4, (hb.cell (p := ⟨b, o + 5, none⟩) hlt).trans h.c5, h.wf⟩
theorem MacIn.below {w w' : World} {m : MacM} (h : MacIn w m) (hb : Below w.heap.size w w') : MacIn w' m :=
  ⟨h.np, fun i hi => by
    obtain ⟨b, off, s, z, e, hlt, h0, h1, h2⟩ := h.pars i hi
    exact ⟨b, off, s, z, e, Nat.lt_of_lt_of_le hlt hb.size, (hb.cell (p := ⟨b, off + i * 2, none⟩) hlt).trans h0, (hb.cell (p := ⟨b, off + i * 2 + 1, none⟩) hlt).trans h1, h2⟩, h.body.kept hb⟩
theorem SigAt.below {w w' : World} {g : SigV} (h : SigAt w g) (hb : Below w.heap.size w w') : SigAt w' g := by
  refine ⟨h.n0, h.n1, h.n2, fun i hi => ?_, fun i hi => ?_, fun i hi => ?_⟩
  · obtain ⟨b, off, e, hlt, h0⟩ := h.s i hi
    exact ⟨b, off, e, Nat.lt_of_lt_of_le hlt hb.size, (hb.cell (p := ⟨b, off + i, none⟩) hlt).trans h0⟩
  · obtain ⟨b, off, e, hlt, h0⟩ := h.f i hi
    exact ⟨b, off, e, Nat.lt_of_lt_of_le hlt hb.size, h0.below hb hlt⟩
  · obtain ⟨b, off, e, hlt, h0⟩ := h.m i hi
    exact ⟨b, off, e, Nat.lt_of_lt_of_le hlt hb.size, h0.below hb hlt⟩
theorem SigDeep.below {w w' : World} {g : SigV} (h : SigDeep w g) (hb : Below w.heap.size w w') : SigDeep w' g := fun m hm => (h m hm).below hb
theorem sig_box (w : World) (g : SigV) : Below w.heap.size w (w.alloc (.cells g.cells 26)) := (Below.refl _ w).alloc (Nat.le_refl _) _
def SomeSB (b : Bool) (w : World) (e : Ending) (w' : World) : Prop := (∃ n, e = .returned (.tuple #[.string n, .bool b])) ∧ Below w.heap.size w w'
theorem SomeSB.mk_ {w w' : World} (n : ByteArray) {b c : Bool} (hb : b = c) (h : Below w.heap.size w w') : SomeSB c w (.returned (.tuple #[.string n, .bool b])) w' := ⟨⟨n, by rw [hb]⟩, h⟩
def thereM (n : Nat) (z : Int) : Bool := decide (0 ≤ z ∧ z < (n : Int) + 2)
set_option maxRecDepth 100000 in
theorem lsortName_ok {w : World} {g : SigV} (h : SigAt w g) (z : Int) (hz : I64 z) : Calls Tryz.prog 92 #[.agg g.cells, .int .i64 z] w (SomeSB (thereM g.sorts.length z) w) := by
  have H := Lib.hid h
  have HB0 := Lib.hid (sig_box w g)
  have HG0 := Lib.hid (Blk.new w 26 g.cells)
  have hn := h.n0
  obtain ⟨hz0, hz1⟩ := hz
  clear h
  obtain ⟨A0, c0, S, A1, c1, F, A2, c2, M⟩ := g
  unfold SigV.cells at *
  simp only at *
  have x0 := HG0.out.cell 0
  simp only [List.getElem?_toArray, List.getElem?_cons_zero, List.getElem?_cons_succ] at x0
  by_cases h2 : 2 ≤ z ∧ z - 2 < S.length
  · obtain ⟨k, rfl⟩ : ∃ k : Nat, z = (k : Int) + 2 := ⟨(z - 2).toNat, by omega⟩
    have hk : k < S.length := by omega
    have e0 : (((k : Int) + 2) == 0) = false := beq_eq_false_iff_ne.2 (by omega)
    have e1 : (((k : Int) + 2) == 1) = false := beq_eq_false_iff_ne.2 (by omega)
    have e2 : decide (((k : Int) + 2) ≥ 2) = true := decide_eq_true (by omega)
    have e2' : decide ((2 : Int) ≤ (k : Int) + 2) = true := decide_eq_true (by omega)
    have e3 : IntKind.i64.wrap ((k : Int) + 2 - 2) = (k : Int) := by rw [IntKind.wrap_i64]; omega
    have e4 : decide ((k : Int) < S.length) = true := decide_eq_true (by omega)
    have t1 : (0 : Int) ≤ (k : Int) := by omega
    have t2 : (k : Int) < (S.length : Int) := by omega
    obtain ⟨b, off, hA, hb, y0⟩ := (H.out.below HB0.out).s k hk
    dsimp only at hA y0
    subst hA
    generalize S[k] = s at *
    have HT : Hid (true = thereM S.length ((k : Int) + 2)) := Lib.hid (decide_eq_true (by omega)).symm
    clear h2 hz0 hz1
    go_enter Tryz.func92, Tryz.ntmps92
    go_wp2
    refine bodyPost_ret (v := .tuple #[.string s, .bool true]) (by simp [results, Tryz.results92, go_sem]) rfl (SomeSB.mk_ _ HT.out HB0.out)
  · by_cases h0 : z = 0
    · subst h0
      have HT : Hid (true = thereM S.length 0) := Lib.hid (decide_eq_true (by omega)).symm
      go_enter Tryz.func92, Tryz.ntmps92
      go_wp2
      refine bodyPost_ret (v := .tuple #[.string { data := #[66, 111, 111, 108] }, .bool true]) (by simp [results, Tryz.results92, go_sem]) rfl (SomeSB.mk_ _ HT.out HB0.out)
    by_cases h1 : z = 1
    · subst h1
      have HT : Hid (true = thereM S.length 1) := Lib.hid (decide_eq_true (by omega)).symm
      go_enter Tryz.func92, Tryz.ntmps92
      go_wp2
      refine bodyPost_ret (v := .tuple #[.string { data := #[73, 110, 116] }, .bool true]) (by simp [results, Tryz.results92, go_sem]) rfl (SomeSB.mk_ _ HT.out HB0.out)
    have HT : Hid (false = thereM S.length z) := Lib.hid (decide_eq_false (by omega)).symm
    have e0 : (z == 0) = false := beq_eq_false_iff_ne.2 h0
    have e1 : (z == 1) = false := beq_eq_false_iff_ne.2 h1
    by_cases h3 : 2 ≤ z
    · have e2 : decide (z ≥ 2) = true := decide_eq_true h3
      have e2' : decide (2 ≤ z) = true := decide_eq_true h3
      obtain ⟨u, hu⟩ : ∃ u, IntKind.i64.wrap (z - 2) = u := ⟨_, rfl⟩
      have e4 : decide (u < (S.length : Int)) = false := decide_eq_false (by rw [← hu, IntKind.wrap_i64]; omega)
      clear h0 h1 h2 h3 hz0 hz1
      go_enter Tryz.func92, Tryz.ntmps92
      go_wp2
      refine bodyPost_ret (v := .tuple #[.string { data := #[] }, .bool false]) (by simp [results, Tryz.results92, go_sem]) rfl (SomeSB.mk_ _ HT.out HB0.out)
    · have e2 : decide (z ≥ 2) = false := decide_eq_false h3
      have e2' : decide (2 ≤ z) = false := decide_eq_false h3
      clear h0 h1 h2 h3 hz0 hz1
      go_enter Tryz.func92, Tryz.ntmps92
      go_wp2
      refine bodyPost_ret (v := .tuple #[.string { data := #[] }, .bool false]) (by simp [results, Tryz.results92, go_sem]) rfl (SomeSB.mk_ _ HT.out HB0.out)
theorem blk3 {w : World} {b : Nat} {t : TypeId} {c0 c1 c2 : Value} (h : Blk w b t #[c0, c1, c2]) :
    w.cell? ⟨b, 0, none⟩ = some c0 ∧ w.cell? ⟨b, 1, none⟩ = some c1 ∧ w.cell? ⟨b, 2, none⟩ = some c2 := ⟨h.cell 0, h.cell 1, h.cell 2⟩
theorem there_ok {w : World} {g : SigV} (h : SigAt w g) (z : Int) (hz : I64 z) : Calls Tryz.prog 81 #[.agg g.cells, .int .i64 z] w fun e w' => e = .returned (.bool (thereM g.sorts.length z)) ∧ Below w.heap.size w w' := by
  have HB0 := Lib.hid (sig_box w g)
  have HG0 := Lib.hid (Blk.new w 26 g.cells)
  have KS := Lib.hid (lsortName_ok (h.below HB0.out) z hz)
  clear h hz
  obtain ⟨A0, c0, S, A1, c1, F, A2, c2, M⟩ := g
  unfold SigV.cells at *
  simp only at *
  generalize thereM S.length z = q at *
  obtain ⟨x0, x1, x2⟩ := blk3 HG0.out
  go_enter Tryz.func81, Tryz.ntmps81
  go_wp2_with (go_at_call 92; refine KS.out.mono ?_; rintro e w1 ⟨⟨n, rfl⟩, hb1⟩)
  go_ret
  exact ⟨rfl, HB0.out.trans (hb1.mono HB0.out.size)⟩
def SomeI (w : World) (e : Ending) (w' : World) : Prop := (∃ n, e = .returned (.int .i64 n)) ∧ Below w.heap.size w w'
theorem SomeI.mk_ {w w' : World} (n : Int) (h : Below w.heap.size w w') : SomeI w (.returned (.int .i64 n)) w' := ⟨⟨n, rfl⟩, h⟩
theorem sig_blk {w : World} {g : SigV} {b : Nat} (h : Blk w b 26 g.cells) : w.cell? ⟨b, 0, none⟩ = some (.slice g.A0 g.sorts.length g.c0) ∧ w.cell? ⟨b, 1, none⟩ = some (.slice g.A1 g.funs.length g.c1) ∧ w.cell? ⟨b, 2, none⟩ = some (.slice g.A2 g.macs.length g.c2) := ⟨h.cell 0, h.cell 1, h.cell 2⟩
def whiteN (n : Nat) : Bool := n == 32 || n == 9 || n == 10 || n == 13
def digitN (n : Nat) : Bool := decide (48 ≤ n ∧ n < 58)
def insideN (n : Nat) : Bool := n != 124 && n != 92 && (decide (32 ≤ n ∧ n ≤ 126) || whiteN n)
def signN (n : Nat) : Bool :=
  if n < 64 then 17582031444648132608 / 2 ^ n % 2 == 1 else if n < 128 then 5188146765496319999 / 2 ^ (n - 64) % 2 == 1 else false
abbrev byts (s : ByteArray) : List UInt8 := s.data.toList
theorem byts_len (s : ByteArray) : (byts s).length = s.size := (Lib.size_eq s).symm
theorem byts_at {s : ByteArray} {i : Nat} (h : i < s.size) : (byts s)[i]? = some s[i] := Lib.data_getElem? s i h
theorem byts_drop {s : ByteArray} {i : Nat} (h : i < s.size) : (byts s).drop i = s[i] :: (byts s).drop (i + 1) := by
  have h1 : i < (byts s).length := by rw [byts_len]; exact h
  rw [List.drop_eq_getElem_cons h1]
  have h2 := byts_at h
  rw [List.getElem?_eq_getElem h1] at h2
  injection h2 with h2
  rw [h2]
theorem byts_end {s : ByteArray} {i : Nat} (h : s.size ≤ i) : (byts s).drop i = [] := List.drop_eq_nil_of_le (by rw [byts_len]; exact h)
def reservedL (l : List UInt8) : Bool :=
  l == [95] || l == [33] || l == [97, 115] || l == [108, 101, 116] || l == [101, 120, 105, 115, 116, 115] || l == [102, 111, 114, 97, 108, 108] || l == [109, 97, 116, 99, 104] || l == [112, 97, 114]
theorem rreserved_ok (s : ByteArray) (w : World) :
    Calls Tryz.prog 76 #[.string s] w fun e w' => e = .returned (.bool (reservedL (byts s))) ∧ w = w' := by
  rw [show byts s = s.toList from (Lib.toList_data s).symm]
  go_enter Tryz.func76, Tryz.ntmps76
  go_wp2
  all_goals (go_ret; refine ⟨?_, rfl⟩; simp_all [reservedL])
def hdB (l : List UInt8) : Nat := match l with | [] => 0 | c :: _ => c.toNat
theorem rwhite_ok {w : World} (n : Nat) :
    Calls Tryz.prog 106 #[.int .u8 n] w fun e w' => e = .returned (.bool (whiteN n)) ∧ w = w' := by
  by_cases h1 : n = 32
  · subst h1
    go_enter Tryz.func106, Tryz.ntmps106
    go_wp2
    go_ret
    exact ⟨rfl, rfl⟩
  by_cases h2 : n = 9
  · subst h2
    go_enter Tryz.func106, Tryz.ntmps106
    go_wp2
    go_ret
    exact ⟨rfl, rfl⟩
  by_cases h3 : n = 10
  · subst h3
    go_enter Tryz.func106, Tryz.ntmps106
    go_wp2
    go_ret
    exact ⟨rfl, rfl⟩
  have b1 : ((n : Int) == 32) = false := beq_eq_false_iff_ne.2 (by omega)
  have b2 : ((n : Int) == 9) = false := beq_eq_false_iff_ne.2 (by omega)
  have b3 : ((n : Int) == 10) = false := beq_eq_false_iff_ne.2 (by omega)
  have e : whiteN n = ((n : Int) == 13) := by
    unfold whiteN
    rw [beq_eq_false_iff_ne.2 h1, beq_eq_false_iff_ne.2 h2, beq_eq_false_iff_ne.2 h3]
    by_cases h : n = 13
    · subst h; rfl
    · rw [beq_eq_false_iff_ne.2 h]
      exact (beq_eq_false_iff_ne.2 (by omega)).symm
  clear h1 h2 h3
  rw [e]
  clear e
  go_enter Tryz.func106, Tryz.ntmps106
  go_wp2
  go_ret
  exact ⟨rfl, rfl⟩
theorem rwithin_ok {w : World} (n : Nat) (hn : n < 256) :
    Calls Tryz.prog 91 #[.int .u8 n] w fun e w' => e = .returned (.bool (insideN n)) ∧ w = w' := by
  by_cases h1 : n = 124
  · subst h1
    go_enter Tryz.func91, Tryz.ntmps91
    go_wp2
    go_ret
    exact ⟨rfl, rfl⟩
  by_cases h2 : n = 92
  · subst h2
    go_enter Tryz.func91, Tryz.ntmps91
    go_wp2
    go_ret
    exact ⟨rfl, rfl⟩
  have b1 : ((n : Int) != 124) = true := bne_iff_ne.2 (by omega)
  have b2 : ((n : Int) != 92) = true := bne_iff_ne.2 (by omega)
  have e : insideN n = (decide (32 ≤ n ∧ n ≤ 126) || whiteN n) := by
    unfold insideN
    rw [bne_iff_ne.2 h1, bne_iff_ne.2 h2]
    rfl
  rw [e]
  clear e h1 h2
  by_cases h3 : 32 ≤ n
  · have d3 : decide ((32 : Int) ≤ n) = true := by simp; omega
    by_cases h4 : n ≤ 126
    · have d4 : decide ((n : Int) ≤ 126) = true := by simp; omega
      have e : decide (32 ≤ n ∧ n ≤ 126) = true := decide_eq_true ⟨h3, h4⟩
      rw [e]
      clear e hn
      go_enter Tryz.func91, Tryz.ntmps91
      go_wp2
      go_ret
      exact ⟨rfl, rfl⟩
    · have d4 : decide ((n : Int) ≤ 126) = false := by simp; omega
      have e : decide (32 ≤ n ∧ n ≤ 126) = false := decide_eq_false (by omega)
      rw [e]
      clear e hn
      go_enter Tryz.func91, Tryz.ntmps91
      go_wp2_with (go_at_call 106; refine (rwhite_ok n).mono ?_; rintro e w1 ⟨rfl, rfl⟩)
      go_ret
      exact ⟨rfl, rfl⟩
  · have d3 : decide ((32 : Int) ≤ n) = false := by simp; omega
    have e : decide (32 ≤ n ∧ n ≤ 126) = false := decide_eq_false (by omega)
    rw [e]
    clear e hn
    go_enter Tryz.func91, Tryz.ntmps91
    go_wp2_with (go_at_call 106; refine (rwhite_ok n).mono ?_; rintro e w1 ⟨rfl, rfl⟩)
    go_ret
    exact ⟨rfl, rfl⟩
def mayL (t : List UInt8) : Bool := decide (t.length ≤ 100) && t.all fun c => insideN c.toNat
def signsTab : ByteArray := { data := #[126, 33, 64, 36, 37, 94, 38, 42, 95, 45, 43, 61, 60, 62, 46, 63, 47] }
theorem sign_range : ∀ n : Fin 256, (65 ≤ n.val ∧ n.val ≤ 90 ∨ 97 ≤ n.val ∧ n.val ≤ 122 ∨ 48 ≤ n.val ∧ n.val ≤ 57) → signN n.val = true := by decide +kernel
theorem sign_tab : ∀ i : Fin 17, signN (signsTab.data[i.val]'(by have := i.isLt; exact this)).toNat = true := by decide +kernel
theorem sign_not : ∀ n : Fin 256, ¬ (65 ≤ n.val ∧ n.val ≤ 90 ∨ 97 ≤ n.val ∧ n.val ≤ 122 ∨ 48 ≤ n.val ∧ n.val ≤ 57) → (∀ i : Fin 17, (signsTab.data[i.val]'(by have := i.isLt; exact this)).toNat ≠ n.val) → signN n.val = false := by decide +kernel
theorem rsign_ok {w : World} (n : Nat) (hn : n < 256) :
    Calls Tryz.prog 115 #[.int .u8 n] w fun e w' => e = .returned (.bool (signN n)) ∧ w = w' := by
  by_cases hr : 65 ≤ n ∧ n ≤ 90 ∨ 97 ≤ n ∧ n ≤ 122 ∨ 48 ≤ n ∧ n ≤ 57
  · rw [sign_range ⟨n, hn⟩ hr]
    go_enter Tryz.func115, Tryz.ntmps115
    go_upto_region 4 with fail
    all_goals first
      | (go_ret; exact ⟨rfl, rfl⟩)
      | (exfalso; omega)
  · have HR := Lib.hid hr
    have hcase : n < 48 ∨ (57 < n ∧ n < 65) ∨ (90 < n ∧ n < 97) ∨ 122 < n := by omega
    clear hr
    have hx : ∀ i (hi : i < 17), ∃ x : UInt8, (({ data := #[126, 33, 64, 36, 37, 94, 38, 42, 95, 45, 43, 61, 60, 62, 46, 63, 47] } : ByteArray)[i]'hi) = x ∧ x.toNat = (signsTab.data[i]'hi).toNat := fun i hi => ⟨_, rfl, rfl⟩
    have HX := Lib.hid hx
    clear hx
    go_enter Tryz.func115, Tryz.ntmps115
    go_upto_region 4 with fail
    all_goals try (exfalso; omega)
    all_goals
      go_loopg [3] 17 (fun g v wx => w = wx ∧ ∃ i : Nat, i + g = 17 ∧ v = .int .i64 i ∧ ∀ j (hj : j < 17), j < i → (signsTab.data[j]'hj).toNat ≠ n)
      case atStart => exact ⟨rfl, 0, by omega, rfl, fun j _ hj => by omega⟩
      case round =>
        obtain ⟨rfl, i, hig, rfl, hinv⟩ := hrel
        have HI := Lib.hid hinv
        clear hinv
        cases gk with
        | zero =>
          obtain rfl : i = 17 := by omega
          have HF := Lib.hid (sign_not ⟨n, hn⟩ HR.out (fun j => HI.out j.val j.isLt j.isLt))
          go_wp2
          go_ret
          exact ⟨ret_bool HF.out.symm, rfl⟩
        | succ k =>
          have hi : i < 17 := by omega
          have t1 : (0 : Int) ≤ (i : Int) := by omega
          have t2 : (i : Int) < 17 := by omega
          have d1 : decide ((i : Int) < 17) = true := decide_eq_true t2
          obtain ⟨x, hx, hx2⟩ := HX.out i hi
          have HX2 := Lib.hid hx2
          clear hx2
          by_cases hp : x.toNat = n
          · have b1 : ((x.toNat : Int) == (n : Int)) = true := by rw [hp]; exact beq_self_eq_true _
            have HF := Lib.hid (show signN n = true by rw [← hp, HX2.out]; exact sign_tab ⟨i, hi⟩)
            clear hp
            go_wp2
            go_ret
            exact ⟨ret_bool HF.out.symm, rfl⟩
          · have b1 : ((x.toNat : Int) == (n : Int)) = false := beq_eq_false_iff_ne.2 (by omega)
            have HP := Lib.hid hp
            clear hp
            go_wp2
            go_roundg k
            case measure => omega
            case rel => exact ⟨rfl, i + 1, by omega, by go_num, fun j hj hji => by
              by_cases e : j = i
              · subst e; rw [← HX2.out]; exact HP.out
              · exact HI.out j hj (by omega)⟩
def kwL (t : List UInt8) : Bool := (t.all fun c => signN c.toNat) && (!t.isEmpty && decide (t.length ≤ 100))
set_option maxHeartbeats 1000000 in
theorem nmay_ok (s : ByteArray) (w : World) : Calls Tryz.prog 75 #[.string s] w fun e w' => e = .returned (.bool (mayL (byts s))) ∧ w = w' := by
  unfold mayL
  rw [byts_len]
  by_cases h : s.size ≤ 100
  · have d0 : decide ((s.size : Int) > 100) = false := decide_eq_false (by omega)
    have d0' : decide ((100 : Int) < s.size) = false := d0
    rw [decide_eq_true h]
    obtain ⟨R, hR⟩ : ∃ R, ((byts s).all fun c => insideN c.toNat) = R := ⟨_, rfl⟩
    rw [hR]
    have HR := Lib.hid hR
    clear hR
    go_enter Tryz.func75, Tryz.ntmps75
    go_wp2
    go_loopg [3] s.size (fun g v wx => w = wx ∧ ∃ i : Nat, i + g = s.size ∧ v = .int .i64 i ∧ ((byts s).drop i).all (fun c => insideN c.toNat) = R)
    case atStart => exact ⟨rfl, 0, by omega, rfl, HR.out⟩
    case round =>
      obtain ⟨rfl, i, hig, rfl, hinv⟩ := hrel
      have HI := Lib.hid hinv
      clear hinv HR
      cases gk with
      | zero =>
        have d1 : decide ((i : Int) < s.size) = false := by simp; omega
        have HE := Lib.hid (show R = true by rw [← HI.out, byts_end (by omega)]; rfl)
        go_wp2
        go_ret
        exact ⟨by rw [HE.out]; rfl, rfl⟩
      | succ g =>
        have hiz : (i : Int) < (s.size : Int) := by omega
        have hin : i < s.size := by omega
        have d1 : decide ((i : Int) < s.size) = true := decide_eq_true hiz
        obtain ⟨x, hx⟩ : ∃ x : UInt8, s[i]'(by omega) = x := ⟨_, rfl⟩
        have hx8 := x.toNat_lt
        have HX := Lib.hid hx
        cases hp : insideN x.toNat with
        | true =>
          have Hp := Lib.hid hp
          clear hp
          go_wp2_with (go_at_call 91; refine (rwithin_ok x.toNat hx8).mono ?_; rintro e w1 ⟨rfl, rfl⟩; rw [Hp.out])
          go_roundg g
          case measure => omega
          case rel => exact ⟨rfl, i + 1, by omega, by go_num, by rw [← HI.out, byts_drop hin, HX.out, List.all_cons, Hp.out, Bool.true_and]⟩
        | false =>
          have Hp := Lib.hid hp
          have HE := Lib.hid (show R = false by rw [← HI.out, byts_drop hin, HX.out, List.all_cons, hp, Bool.false_and])
          clear hp
          go_wp2_with (go_at_call 91; refine (rwithin_ok x.toNat hx8).mono ?_; rintro e w1 ⟨rfl, rfl⟩; rw [Hp.out])
          go_ret
          exact ⟨by rw [HE.out]; rfl, rfl⟩
  · have d0 : decide ((s.size : Int) > 100) = true := decide_eq_true (by omega)
    have d0' : decide ((100 : Int) < s.size) = true := d0
    rw [decide_eq_false h]
    go_enter Tryz.func75, Tryz.ntmps75
    go_wp2
    go_ret
    exact ⟨rfl, rfl⟩
set_option maxHeartbeats 1000000 in
theorem rkey_ok (s : ByteArray) (w : World) : Calls Tryz.prog 108 #[.string s] w fun e w' => e = .returned (.bool (kwL (byts s))) ∧ w = w' := by
  unfold kwL
  rw [byts_len]
  by_cases h0 : byts s = []
  · have b1 : (s.toList == []) = true := by rw [Lib.toList_data]; exact beq_iff_eq.2 h0
    have b2 : s.toList.isEmpty = true := by rw [Lib.toList_data]; exact List.isEmpty_iff.2 h0
    have b3 : (byts s).isEmpty = true := List.isEmpty_iff.2 h0
    have HE := Lib.hid (show (((byts s).all fun c => signN c.toNat) && (!(byts s).isEmpty && decide (s.size ≤ 100))) = false by rw [b3]; simp)
    rw [HE.out]
    clear h0 b3
    go_enter Tryz.func108, Tryz.ntmps108
    go_wp2
    go_ret
    exact ⟨rfl, rfl⟩
  have b1 : (s.toList == []) = false := beq_eq_false_iff_ne.2 (by rw [Lib.toList_data]; exact h0)
  have b2 : s.toList.isEmpty = false := by rw [Lib.toList_data]; exact List.isEmpty_eq_false_iff.2 h0
  have b3 : (byts s).isEmpty = false := List.isEmpty_eq_false_iff.2 h0
  rw [b3]
  clear h0 b3
  by_cases h : s.size ≤ 100
  · have d0 : decide ((s.size : Int) > 100) = false := decide_eq_false (by omega)
    have d0' : decide ((100 : Int) < s.size) = false := d0
    rw [decide_eq_true h]
    obtain ⟨R, hR⟩ : ∃ R, ((byts s).all fun c => signN c.toNat) = R := ⟨_, rfl⟩
    rw [hR]
    have HR := Lib.hid hR
    clear hR
    go_enter Tryz.func108, Tryz.ntmps108
    go_wp2
    go_loopg [3] s.size (fun g v wx => w = wx ∧ ∃ i : Nat, i + g = s.size ∧ v = .int .i64 i ∧ ((byts s).drop i).all (fun c => signN c.toNat) = R)
    case atStart => exact ⟨rfl, 0, by omega, rfl, HR.out⟩
    case round =>
      obtain ⟨rfl, i, hig, rfl, hinv⟩ := hrel
      have HI := Lib.hid hinv
      clear hinv HR
      cases gk with
      | zero =>
        have d1 : decide ((i : Int) < s.size) = false := by simp; omega
        have HE := Lib.hid (show R = true by rw [← HI.out, byts_end (by omega)]; rfl)
        go_wp2
        go_ret
        exact ⟨by rw [HE.out]; rfl, rfl⟩
      | succ g =>
        have hiz : (i : Int) < (s.size : Int) := by omega
        have hin : i < s.size := by omega
        have d1 : decide ((i : Int) < s.size) = true := decide_eq_true hiz
        obtain ⟨x, hx⟩ : ∃ x : UInt8, s[i]'(by omega) = x := ⟨_, rfl⟩
        have hx8 := x.toNat_lt
        have HX := Lib.hid hx
        cases hp : signN x.toNat with
        | true =>
          have Hp := Lib.hid hp
          clear hp
          go_wp2_with (go_at_call 115; refine (rsign_ok x.toNat hx8).mono ?_; rintro e w1 ⟨rfl, rfl⟩; rw [Hp.out])
          go_roundg g
          case measure => omega
          case rel => exact ⟨rfl, i + 1, by omega, by go_num, by rw [← HI.out, byts_drop hin, HX.out, List.all_cons, Hp.out, Bool.true_and]⟩
        | false =>
          have Hp := Lib.hid hp
          have HE := Lib.hid (show R = false by rw [← HI.out, byts_drop hin, HX.out, List.all_cons, hp, Bool.false_and])
          clear hp
          go_wp2_with (go_at_call 115; refine (rsign_ok x.toNat hx8).mono ?_; rintro e w1 ⟨rfl, rfl⟩; rw [Hp.out])
          go_ret
          exact ⟨by rw [HE.out]; rfl, rfl⟩
  · have d0 : decide ((s.size : Int) > 100) = true := decide_eq_true (by omega)
    have d0' : decide ((100 : Int) < s.size) = true := d0
    rw [decide_eq_false h]
    have HE := Lib.hid (show (((byts s).all fun c => signN c.toNat) && (!false && false)) = false by simp)
    rw [HE.out]
    go_enter Tryz.func108, Tryz.ntmps108
    go_wp2
    go_ret
    exact ⟨rfl, rfl⟩
def numL (t : List UInt8) : Bool := (!t.isEmpty) && (!(decide (1 < t.length) && hdB t == 48)) && t.all fun c => digitN c.toNat
theorem quo10 {d : Int} (h : d ≤ 9) : Int.tdiv (4611686018427387904 - d) 10 = (4611686018427387904 - d) / 10 := Int.tdiv_eq_ediv_of_nonneg (by omega)
set_option maxHeartbeats 1000000 in
set_option maxRecDepth 100000 in
theorem rparse_loop (s : ByteArray) (w : World) (hs : s.size ≤ 9223372036854775807) (hne : byts s ≠ []) (hz : (decide (1 < s.size) && hdB (byts s) == 48) = false) :
    Calls Tryz.prog 107 #[.string s] w fun e w' => (∃ n c, e = .returned (.tuple #[.int .i64 n, .int .i64 c]) ∧ (c == 20) = !((byts s).all fun c => digitN c.toNat)) ∧ w = w' := by
  have h0 : 0 < s.size := by
    rw [← byts_len]
    exact List.length_pos_iff.2 hne
  have h0z : (0 : Int) < s.size := by omega
  have b1 : (s.toList == []) = false := beq_eq_false_iff_ne.2 (by rw [Lib.toList_data]; exact hne)
  have b2 : s.toList.isEmpty = false := by
    rw [Lib.toList_data]
    exact List.isEmpty_eq_false_iff.2 hne
  have hd : hdB (byts s) = (s[0]'h0).toNat := by
    have h3 := byts_drop h0
    rw [List.drop_zero] at h3
    rw [h3]
    rfl
  obtain ⟨x0, hx0⟩ : ∃ x0 : UInt8, s[0]'h0 = x0 := ⟨_, rfl⟩
  rw [hd, hx0] at hz
  clear hd hne
  obtain ⟨bb, hbb⟩ : ∃ bb, ((x0.toNat : Int) == 48) = bb := ⟨_, rfl⟩
  obtain ⟨bs, hbs⟩ : ∃ bs, decide ((s.size : Int) > 1) = bs := ⟨_, rfl⟩
  have hb12 : bb = true → bs = false := fun h => by
    rw [h] at hbb
    have e1 : (x0.toNat == 48) = true := beq_iff_eq.2 (by have := beq_iff_eq.1 hbb; omega)
    rw [e1, Bool.and_true] at hz
    rw [← hbs]
    have := of_decide_eq_false hz
    exact decide_eq_false (by omega)
  have hbs' : decide ((1 : Int) < s.size) = bs := hbs
  have HZ := Lib.hid hb12
  clear hz hb12
  obtain ⟨R, hR⟩ : ∃ R, ((byts s).all fun c => digitN c.toNat) = R := ⟨_, rfl⟩
  rw [hR]
  have HR := Lib.hid hR
  clear hR
  have HD := Lib.hid (fun (h : R = true) (i : Nat) (hi : i < s.size) => by
    have h2 := HR.out.trans h
    rw [List.all_eq_true] at h2
    have h3 := h2 (s[i]'hi) (by
      have := byts_drop hi
      have h4 : (s[i]'hi) ∈ (byts s).drop i := by rw [this]; exact List.mem_cons_self
      exact List.mem_of_mem_drop h4)
    exact (of_decide_eq_true h3 : 48 ≤ (s[i]'hi).toNat ∧ (s[i]'hi).toNat < 58))
  cases bb with
  | true =>
    have e2 := HZ.out rfl
    subst e2
    clear HZ
    go_enter Tryz.func107, Tryz.ntmps107
    go_wp2
    go_loopg [4] s.size (fun g v wx => w = wx ∧ ∃ i : Nat, i + g = s.size ∧ v = .int .i64 i ∧ ((byts s).drop i).all (fun c => digitN c.toNat) = R)
    case atStart => exact ⟨rfl, 0, by omega, rfl, HR.out⟩
    case round =>
      obtain ⟨rfl, i, hig, rfl, hinv⟩ := hrel
      have HI := Lib.hid hinv
      clear hinv
      cases gk with
      | zero =>
        have d1 : decide ((i : Int) < s.size) = false := by simp; omega
        have hRt : R = true := by rw [← HI.out, byts_end (by omega)]; rfl
        have HT := Lib.hid (HD.out hRt)
        have HE := Lib.hid hRt
        clear hRt HD HI HR
        go_wp2
        go_loopw [6, 5] (fun v d wx => w = wx ∧ ∃ (j : Nat) (n : Int), v = .int .i64 j ∧ d = .int .i64 n ∧ j ≤ s.size ∧ 0 ≤ n ∧ n ≤ 4611686018427387904) (fun v _ _ => (s.size - intOf v).toNat)
        case atStart => exact ⟨rfl, 0, 0, rfl, rfl, by omega, by decide, by decide⟩
        case round =>
          obtain ⟨rfl, j, n, rfl, rfl, hj, hn0, hn1⟩ := hrel
          by_cases hjs : j < s.size
          · have hjz : (j : Int) < (s.size : Int) := by omega
            have d2 : decide ((j : Int) < s.size) = true := decide_eq_true hjz
            have hx8 := (s[j]'hjs).toNat_lt
            have hx9 := HT.out j hjs
            have hqq := quo10 (d := ((s[j]'hjs).toNat : Int) - 48) (by omega)
            have hq := Lib.hid hqq
            by_cases hbig : n > (4611686018427387904 - (((s[j]'hjs).toNat : Int) - 48)) / 10
            · have d3 : decide (n > (4611686018427387904 - (((s[j]'hjs).toNat : Int) - 48)) / 10) = true := decide_eq_true hbig
              have d3' : decide ((4611686018427387904 - (((s[j]'hjs).toNat : Int) - 48)) / 10 < n) = true := d3
              go_wp2
              refine bodyPost_ret (v := .tuple #[.int .i64 0, .int .i64 10]) (by simp [results, Tryz.results107, go_sem]) rfl ⟨⟨_, _, rfl, ?_⟩, rfl⟩
              rw [HE.out]; rfl
            · have d3 : decide (n > (4611686018427387904 - (((s[j]'hjs).toNat : Int) - 48)) / 10) = false := decide_eq_false hbig
              have d3' : decide ((4611686018427387904 - (((s[j]'hjs).toNat : Int) - 48)) / 10 < n) = false := d3
              go_wp2
              go_roundw
              case measure => simp only [intOf]; omega
              case rel => exact ⟨trivial, j + 1, n * 10 + (((s[j]'hjs).toNat : Int) - 48), by go_num, by go_num, by omega, by omega, by omega⟩
          · have d2 : decide ((j : Int) < s.size) = false := decide_eq_false (by omega)
            go_wp2
            refine bodyPost_ret (v := .tuple #[.int .i64 n, .int .i64 0]) (by simp [results, Tryz.results107, go_sem]) rfl ⟨⟨_, _, rfl, ?_⟩, rfl⟩
            rw [HE.out]; rfl
      | succ g =>
        have hiz : (i : Int) < (s.size : Int) := by omega
        have hin : i < s.size := by omega
        have d1 : decide ((i : Int) < s.size) = true := decide_eq_true hiz
        have hx8 := (s[i]'hin).toNat_lt
        cases hp : digitN (s[i]'hin).toNat with
        | true =>
          have hp2 : 48 ≤ (s[i]'hin).toNat ∧ (s[i]'hin).toNat < 58 := of_decide_eq_true hp
          have e1 : decide (((s[i]'hin).toNat : Int) < 48) = false := decide_eq_false (by omega)
          have e2 : decide (((s[i]'hin).toNat : Int) > 57) = false := decide_eq_false (by omega)
          have e3 : decide ((57 : Int) < (s[i]'hin).toNat) = false := e2
          have Hp := Lib.hid hp
          clear hp hp2
          go_wp2
          go_roundg g
          case measure => omega
          case rel => exact ⟨rfl, i + 1, by omega, by go_num, by rw [← HI.out, byts_drop hin, List.all_cons, Hp.out, Bool.true_and]⟩
        | false =>
          have HE := Lib.hid (show R = false by rw [← HI.out, byts_drop hin, List.all_cons, hp, Bool.false_and])
          have hp2 : ¬ (48 ≤ (s[i]'hin).toNat ∧ (s[i]'hin).toNat < 58) := of_decide_eq_false hp
          clear hp HD
          by_cases h48 : (s[i]'hin).toNat < 48
          · have e1 : decide (((s[i]'hin).toNat : Int) < 48) = true := decide_eq_true (by omega)
            go_wp2
            refine bodyPost_ret (v := .tuple #[.int .i64 0, .int .i64 20]) (by simp [results, Tryz.results107, go_sem]) rfl ⟨⟨_, _, rfl, ?_⟩, rfl⟩
            rw [HE.out]; rfl
          · have e1 : decide (((s[i]'hin).toNat : Int) < 48) = false := decide_eq_false (by omega)
            have e2 : decide (((s[i]'hin).toNat : Int) > 57) = true := decide_eq_true (by omega)
            have e3 : decide ((57 : Int) < (s[i]'hin).toNat) = true := e2
            go_wp2
            refine bodyPost_ret (v := .tuple #[.int .i64 0, .int .i64 20]) (by simp [results, Tryz.results107, go_sem]) rfl ⟨⟨_, _, rfl, ?_⟩, rfl⟩
            rw [HE.out]; rfl
  | false =>
    clear HZ
    go_enter Tryz.func107, Tryz.ntmps107
    go_wp2
    go_loopg [4] s.size (fun g v wx => w = wx ∧ ∃ i : Nat, i + g = s.size ∧ v = .int .i64 i ∧ ((byts s).drop i).all (fun c => digitN c.toNat) = R)
    case atStart => exact ⟨rfl, 0, by omega, rfl, HR.out⟩
    case round =>
      obtain ⟨rfl, i, hig, rfl, hinv⟩ := hrel
      have HI := Lib.hid hinv
      clear hinv
      cases gk with
      | zero =>
        have d1 : decide ((i : Int) < s.size) = false := by simp; omega
        have hRt : R = true := by rw [← HI.out, byts_end (by omega)]; rfl
        have HT := Lib.hid (HD.out hRt)
        have HE := Lib.hid hRt
        clear hRt HD HI HR
        go_wp2
        go_loopw [6, 5] (fun v d wx => w = wx ∧ ∃ (j : Nat) (n : Int), v = .int .i64 j ∧ d = .int .i64 n ∧ j ≤ s.size ∧ 0 ≤ n ∧ n ≤ 4611686018427387904) (fun v _ _ => (s.size - intOf v).toNat)
        case atStart => exact ⟨rfl, 0, 0, rfl, rfl, by omega, by decide, by decide⟩
        case round =>
          obtain ⟨rfl, j, n, rfl, rfl, hj, hn0, hn1⟩ := hrel
          by_cases hjs : j < s.size
          · have hjz : (j : Int) < (s.size : Int) := by omega
            have d2 : decide ((j : Int) < s.size) = true := decide_eq_true hjz
            have hx8 := (s[j]'hjs).toNat_lt
            have hx9 := HT.out j hjs
            have hqq := quo10 (d := ((s[j]'hjs).toNat : Int) - 48) (by omega)
            have hq := Lib.hid hqq
            by_cases hbig : n > (4611686018427387904 - (((s[j]'hjs).toNat : Int) - 48)) / 10
            · have d3 : decide (n > (4611686018427387904 - (((s[j]'hjs).toNat : Int) - 48)) / 10) = true := decide_eq_true hbig
              have d3' : decide ((4611686018427387904 - (((s[j]'hjs).toNat : Int) - 48)) / 10 < n) = true := d3
              go_wp2
              refine bodyPost_ret (v := .tuple #[.int .i64 0, .int .i64 10]) (by simp [results, Tryz.results107, go_sem]) rfl ⟨⟨_, _, rfl, ?_⟩, rfl⟩
              rw [HE.out]; rfl
            · have d3 : decide (n > (4611686018427387904 - (((s[j]'hjs).toNat : Int) - 48)) / 10) = false := decide_eq_false hbig
              have d3' : decide ((4611686018427387904 - (((s[j]'hjs).toNat : Int) - 48)) / 10 < n) = false := d3
              go_wp2
              go_roundw
              case measure => simp only [intOf]; omega
              case rel => exact ⟨trivial, j + 1, n * 10 + (((s[j]'hjs).toNat : Int) - 48), by go_num, by go_num, by omega, by omega, by omega⟩
          · have d2 : decide ((j : Int) < s.size) = false := decide_eq_false (by omega)
            go_wp2
            refine bodyPost_ret (v := .tuple #[.int .i64 n, .int .i64 0]) (by simp [results, Tryz.results107, go_sem]) rfl ⟨⟨_, _, rfl, ?_⟩, rfl⟩
            rw [HE.out]; rfl
      | succ g =>
        have hiz : (i : Int) < (s.size : Int) := by omega
        have hin : i < s.size := by omega
        have d1 : decide ((i : Int) < s.size) = true := decide_eq_true hiz
        have hx8 := (s[i]'hin).toNat_lt
        cases hp : digitN (s[i]'hin).toNat with
        | true =>
          have hp2 : 48 ≤ (s[i]'hin).toNat ∧ (s[i]'hin).toNat < 58 := of_decide_eq_true hp
          have e1 : decide (((s[i]'hin).toNat : Int) < 48) = false := decide_eq_false (by omega)
          have e2 : decide (((s[i]'hin).toNat : Int) > 57) = false := decide_eq_false (by omega)
          have e3 : decide ((57 : Int) < (s[i]'hin).toNat) = false := e2
          have Hp := Lib.hid hp
          clear hp hp2
          go_wp2
          go_roundg g
          case measure => omega
          case rel => exact ⟨rfl, i + 1, by omega, by go_num, by rw [← HI.out, byts_drop hin, List.all_cons, Hp.out, Bool.true_and]⟩
        | false =>
          have HE := Lib.hid (show R = false by rw [← HI.out, byts_drop hin, List.all_cons, hp, Bool.false_and])
          have hp2 : ¬ (48 ≤ (s[i]'hin).toNat ∧ (s[i]'hin).toNat < 58) := of_decide_eq_false hp
          clear hp HD
          by_cases h48 : (s[i]'hin).toNat < 48
          · have e1 : decide (((s[i]'hin).toNat : Int) < 48) = true := decide_eq_true (by omega)
            go_wp2
            refine bodyPost_ret (v := .tuple #[.int .i64 0, .int .i64 20]) (by simp [results, Tryz.results107, go_sem]) rfl ⟨⟨_, _, rfl, ?_⟩, rfl⟩
            rw [HE.out]; rfl
          · have e1 : decide (((s[i]'hin).toNat : Int) < 48) = false := decide_eq_false (by omega)
            have e2 : decide (((s[i]'hin).toNat : Int) > 57) = true := decide_eq_true (by omega)
            have e3 : decide ((57 : Int) < (s[i]'hin).toNat) = true := e2
            go_wp2
            refine bodyPost_ret (v := .tuple #[.int .i64 0, .int .i64 20]) (by simp [results, Tryz.results107, go_sem]) rfl ⟨⟨_, _, rfl, ?_⟩, rfl⟩
            rw [HE.out]; rfl
theorem rparse_ok (s : ByteArray) (w : World) (hs : s.size ≤ 9223372036854775807) :
    Calls Tryz.prog 107 #[.string s] w fun e w' => (∃ n c, e = .returned (.tuple #[.int .i64 n, .int .i64 c]) ∧ (c == 20) = !numL (byts s)) ∧ w = w' := by
  by_cases hne : byts s = []
  · have b1 : (s.toList == []) = true := by rw [Lib.toList_data]; exact beq_iff_eq.2 hne
    have b2 : s.toList.isEmpty = true := by rw [Lib.toList_data]; exact List.isEmpty_iff.2 hne
    have HE := Lib.hid (show numL (byts s) = false by rw [hne]; rfl)
    clear hne
    go_enter Tryz.func107, Tryz.ntmps107
    go_wp2
    refine bodyPost_ret (v := .tuple #[.int .i64 0, .int .i64 20]) (by simp [results, Tryz.results107, go_sem]) rfl ⟨⟨_, _, rfl, ?_⟩, rfl⟩
    rw [HE.out]; rfl
  · have b2 : s.toList.isEmpty = false := by rw [Lib.toList_data]; exact List.isEmpty_eq_false_iff.2 hne
    have b2' : (byts s).isEmpty = false := List.isEmpty_eq_false_iff.2 hne
    cases hz : decide (1 < s.size) && hdB (byts s) == 48 with
    | false =>
      refine (rparse_loop s w hs hne hz).mono ?_
      rintro e w' ⟨⟨n, c, h1, h2⟩, h3⟩
      refine ⟨⟨n, c, h1, ?_⟩, h3⟩
      rw [h2]
      unfold numL
      rw [byts_len, hz, b2']
      rfl
    | true =>
      have HE := Lib.hid (show numL (byts s) = false by unfold numL; rw [byts_len, hz]; simp)
      rw [Bool.and_eq_true] at hz
      have h1 := of_decide_eq_true hz.1
      have h0 : 0 < s.size := by omega
      have h0z : (0 : Int) < s.size := by omega
      have d1 : decide ((1 : Int) < s.size) = true := decide_eq_true (by omega)
      have d1' : decide ((s.size : Int) > 1) = true := d1
      have b1 : (s.toList == []) = false := beq_eq_false_iff_ne.2 (by rw [Lib.toList_data]; exact hne)
      have hd : hdB (byts s) = (s[0]'h0).toNat := by
        have h3 := byts_drop h0
        rw [List.drop_zero] at h3
        rw [h3]
        rfl
      have h48 := beq_iff_eq.1 hz.2
      rw [hd] at h48
      have b4 : (((s[0]'h0).toNat : Int) == 48) = true := beq_iff_eq.2 (by omega)
      clear hz hd h48 hne b2'
      go_enter Tryz.func107, Tryz.ntmps107
      go_wp2
      refine bodyPost_ret (v := .tuple #[.int .i64 0, .int .i64 20]) (by simp [results, Tryz.results107, go_sem]) rfl ⟨⟨_, _, rfl, ?_⟩, rfl⟩
      rw [HE.out]; rfl
end Go.Proofs.YtkapbdjobfbhhaaGreat

/- Arguments of the laws, opened; EufMore for whatever came in. -/
import Derived.Test.YtbgbhfmchpdkcaaEvL
namespace Go.Proofs.Ytbgbhfmchpdkcaa
open Go.RowKit Go.ChangeShapes Go.WideShapes Go.ChangeAt

/-- A table that came in. -/
structure TabIn where
  A : Option Addr
  len : Nat
  cap : Nat
  f : Nat → Nd
def TabIn.val (x : TabIn) : Value := .agg #[.slice x.A x.len x.cap]
def TabIn.Ok (x : TabIn) (W : World) : Prop := IsNodes W x.A x.len x.cap x.f
set_option maxRecDepth 100000 in
theorem table_in {H : Type} {enc : TypeId × Value → H} {W : World} {base : Nat} {v : Value} {d : DataW H} {p : List MemPlace} (hv : Value.okWide Try.prog W .any base 24 v)
    (h : DataW.Trod enc Try.prog W 0 (fun _ => true) true 24 v d p) (_hl : ∀ x ∈ p, x.block < W.heap.size) : ∃ x : TabIn, v = x.val ∧ x.Ok W := by
  obtain ⟨cs, rfl, hcs⟩ := okWide_struct Try.underlying24 hv
  obtain ⟨fuel, hf⟩ := h
  obtain ⟨xs, n, _, _, _, hxl, hfd⟩ := DataW.trod_struct Try.underlying24 hf
  have c1 : Try.prog.cellsOf 24 = 1 := by kernel_rfl
  have c2 : Try.prog.cellsOf 22 = 1 := by kernel_rfl
  rw [c1] at hcs
  obtain ⟨l⟩ := cs
  match l, hcs, xs, hxl with
  | [v0], _, [y0], _ =>
    have k0 := hfd 0 _ rfl
    simp [c2, Value.cells] at k0
    obtain ⟨A, len, cap, rfl⟩ : ∃ A len cap, v0 = .slice A len cap := by
      rcases DataW.trod_slice Try.underlying22 k0 with ⟨e2, _⟩ | ⟨a, len, cap, _, _, _, _, e2, _⟩
      · injection e2 with e2
        exact ⟨none, 0, 0, e2⟩
      · injection e2 with e2
        exact ⟨_, _, _, e2⟩
    obtain ⟨f, hf⟩ := isNodes_of (d := y0.1) (p := y0.2) Try.underlying22 Try.underlying52 (by kernel_rfl) (by decide) (by decide +kernel) Try.underlying48 Try.underlying48 Try.underlying50 Try.underlying3 (by kernel_rfl) Try.underlying3 Try.underlying3 Try.underlying3 (show DataW.Trod enc Try.prog W 0 (fun _ => true) true 22 (.slice A len cap) y0.1 y0.2 from ⟨n, k0⟩)
    exact ⟨⟨A, len, cap, f⟩, rfl, hf⟩
/-- A row of ints that came in. -/
theorem isRow_row {w : World} {a : Option Addr} {len cap : Nat} {z : List Int} (h : IsRow .i64 w a len cap z) (hl : len ≤ 100000) : ∃ L, L.length = len ∧ Row w a L ∧ (a = none → cap = 0) ∧ len ≤ cap ∧ L = z.take len := by
  rcases h with ⟨rfl, rfl, rfl, rfl⟩ | ⟨x, rfl, hc, _, hz, hcell, _⟩
  · exact ⟨[], rfl, ⟨by simp, .inl rfl⟩, fun _ => rfl, Nat.le_refl _, rfl⟩
  · have hlen : (z.take len).length = len := by rw [List.length_take]; omega
    refine ⟨z.take len, hlen, ⟨by omega, ?_⟩, fun e => (by cases e), hc, rfl⟩
    rcases Nat.eq_zero_or_pos len with h0 | h0
    · exact .inl (by rw [hlen]; exact h0)
    · have c0 := hcell 0 (by omega)
      rw [show x.add 0 = x by obtain ⟨b, off, sp⟩ := x; unfold Addr.add; split <;> simp_all] at c0
      have hs : x.spot = none := World.cell?_spot c0
      have hb : x.block < w.heap.size := by
        unfold World.cell? at c0
        cases hh : w.heap[x.block]? with
        | none => simp [hh] at c0
        | some o => exact (Array.getElem?_eq_some_iff.1 hh).1
      obtain ⟨b, off, sp⟩ := x
      obtain rfl : sp = none := hs
      refine .inr ⟨b, off, rfl, hb, fun i hi => ?_⟩
      rw [hlen] at hi
      have h1 := hcell i (by omega)
      rw [show (⟨b, off, none⟩ : Addr).add i = ⟨b, off + i, none⟩ by unfold Addr.add; split <;> simp_all] at h1
      rw [h1, List.getElem_take, List.getD_eq_getElem?_getD, List.getElem?_eq_getElem (by omega)]
      rfl
theorem IsNodes.full {w : World} {a : Option Addr} {len cap : Nat} {f : Nat → Nd} (h : IsNodes w a len cap f) (hl : len ≤ 60) : ∃ T, T.length = len ∧ Tab w a T ∧ len ≤ cap :=
  ⟨_, by simp, h.tab (by omega), h.cap⟩

set_option maxHeartbeats 4000000 in
theorem eufMore_big {w : World} {A B C : Option Addr} {l0 c0 l1 c1 l2 c2 : Nat} (h : 60 < l0 ∨ 60 < l1 ∨ 60 < l2) :
    Calls Try.prog 5 #[.agg #[.slice A l0 c0], .slice B l1 c1, .slice C l2 c2] w (fun e w' => e = .returned (.bool true) ∧ Below w.heap.size w w') := by
  have HB1 : Hid (Below w.heap.size w (w.alloc (.cells #[.slice A l0 c0] 24))) := Lib.hid ((Below.refl _ w).alloc (Nat.le_refl _) _)
  by_cases hl0 : 60 < l0
  · skip
    have d1 : decide (((l0 : Nat) : Int) > 60) = true := by simp; omega
    have d2 : decide ((60 : Int) < ((l0 : Nat) : Int)) = true := by simp; omega
    clear hl0 h
    go_enter Try.func5, Try.ntmps5
    go_wp2_with fail
    refine (wakes_ok _).mono ?_
    rintro e w2 ⟨rfl, hb2⟩
    have HB2 := Lib.hid (HB1.out.trans (hb2.mono HB1.out.size))
    clear hb2
    go_wp2_with fail
    go_ret
    exact ⟨rfl, HB2.out⟩
  have e0a : decide (((l0 : Nat) : Int) > 60) = false := by simp; omega
  have e0b : decide ((60 : Int) < ((l0 : Nat) : Int)) = false := by simp; omega
  by_cases hl1 : 60 < l1
  · skip
    have d1 : decide (((l1 : Nat) : Int) > 60) = true := by simp; omega
    have d2 : decide ((60 : Int) < ((l1 : Nat) : Int)) = true := by simp; omega
    clear hl1 h
    go_enter Try.func5, Try.ntmps5
    go_wp2_with fail
    refine (wakes_ok _).mono ?_
    rintro e w2 ⟨rfl, hb2⟩
    have HB2 := Lib.hid (HB1.out.trans (hb2.mono HB1.out.size))
    clear hb2
    go_wp2_with fail
    go_ret
    exact ⟨rfl, HB2.out⟩
  have e1a : decide (((l1 : Nat) : Int) > 60) = false := by simp; omega
  have e1b : decide ((60 : Int) < ((l1 : Nat) : Int)) = false := by simp; omega
  have hl2 : 60 < l2 := by omega
  clear hl0 hl1
  have d1 : decide (((l2 : Nat) : Int) > 60) = true := by simp; omega
  have d2 : decide ((60 : Int) < ((l2 : Nat) : Int)) = true := by simp; omega
  clear hl2 h
  go_enter Try.func5, Try.ntmps5
  go_wp2_with fail
  refine (wakes_ok _).mono ?_
  rintro e w2 ⟨rfl, hb2⟩
  have HB2 := Lib.hid (HB1.out.trans (hb2.mono HB1.out.size))
  clear hb2
  go_wp2_with fail
  go_ret
  exact ⟨rfl, HB2.out⟩
theorem eufMore_walk (x : TabIn) (B : Option Addr) (l1 c1 : Nat) (z1 : List Int) (C : Option Addr) (l2 c2 : Nat) (z2 : List Int) (w : World) (h : x.Ok w) (h1 : IsRow .i64 w B l1 c1 z1) (h2 : IsRow .i64 w C l2 c2 z2) :
    Calls Try.prog 5 #[x.val, .slice B l1 c1, .slice C l2 c2] w (fun e w' => e = .returned (.bool true) ∧ Below w.heap.size w w') := by
  by_cases hb : 60 < x.len ∨ 60 < l1 ∨ 60 < l2
  · exact eufMore_big hb
  · obtain ⟨T, e0, hT, hc⟩ := IsNodes.full h (by omega)
    obtain ⟨L, e1, hL, hn1, _, _⟩ := isRow_row h1 (by omega)
    obtain ⟨M, e2, hM, hn2, _, _⟩ := isRow_row h2 (by omega)
    unfold TabIn.val
    rw [← e0, ← e1, ← e2]
    exact eufMore_core c1 c2 hT (by omega) hL hM hn1 hn2
end Go.Proofs.Ytbgbhfmchpdkcaa

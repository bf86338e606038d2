/- written. -/
import Derived.Test.YtiklliiamljogaaGreatDoorPfH
import Derived.Test.YtiklliiamljogaaGreatDoorClA
namespace Go.Proofs.YtiklliiamljogaaGreatDoor
open Go.RowKit

theorem form_at {q : Nat} (h : q < 6) : formCells[q * 2]? = some (.string ⟨(headK q).toArray⟩) ∧ formCells[q * 2 + 1]? = some (.int .i64 (manyK q)) := by
  have : q = 0 ∨ q = 1 ∨ q = 2 ∨ q = 3 ∨ q = 4 ∨ q = 5 := by omega
  rcases this with rfl | rfl | rfl | rfl | rfl | rfl <;> exact ⟨rfl, rfl⟩
theorem Row.take {w : World} {A : Option Addr} {zs : List Int} (h : Row .i64 w A zs) (m : Nat) : Row .i64 w A (zs.take m) := by
  have hl := h.len
  refine ⟨by rw [List.length_take]; omega, ?_⟩
  rcases h.at_ with h0 | ⟨b, off, rfl, hlt, hc⟩
  · exact .inl (by rw [List.length_take]; omega)
  · refine .inr ⟨b, off, rfl, hlt, fun i hi => ?_⟩
    rw [List.getElem_take]
    exact hc i (by rw [List.length_take] at hi; omega)

theorem row_stored {w : World} {D g cap n : Nat} {cs : List C3} {y0 : C3} (ho : w.ownsRow D 28 3 (.slice (some ⟨g, 0, none⟩) (n + 1) cap) (n + 1) ((cs ++ [y0]).flatMap C3.cells)) (hn : cs.length = n) (k1 : Int) (t1 : ByteArray) (A1 : Option Addr) (n1 c1 : Nat) :
    (((w.setCell ⟨g, n * 3, none⟩ (.int .i8 k1)).setCell ⟨g, n * 3 + 1, none⟩ (.string t1)).setCell ⟨g, n * 3 + 2, none⟩ (.slice A1 n1 c1)).ownsRow D 28 3 (.slice (some ⟨g, 0, none⟩) (n + 1) cap) (n + 1) ((cs ++ [(⟨k1, t1, A1, n1, c1⟩ : C3)]).flatMap C3.cells) := by
  subst hn
  have hlen : (cs.flatMap C3.cells).length = cs.length * 3 := by
    clear ho
    induction cs with
    | nil => rfl
    | cons c r ih => rw [List.flatMap_cons, List.length_append, C3.cells_len, ih, List.length_cons]; omega
  obtain ⟨o1, _⟩ := ho.stored (cs.length * 3) (.int .i8 k1)
  obtain ⟨o2, _⟩ := o1.stored (cs.length * 3 + 1) (.string t1)
  obtain ⟨o3, _⟩ := o2.stored (cs.length * 3 + 2) (.slice A1 n1 c1)
  have hcells : ((((cs ++ [y0]).flatMap C3.cells).set (cs.length * 3) (.int .i8 k1)).set (cs.length * 3 + 1) (.string t1)).set (cs.length * 3 + 2) (.slice A1 n1 c1) = (cs ++ [(⟨k1, t1, A1, n1, c1⟩ : C3)]).flatMap C3.cells := by
    rw [List.flatMap_append, List.flatMap_append, List.set_append_right _ _ (by omega), List.set_append_right _ _ (by omega), List.set_append_right _ _ (by omega), hlen]
    congr 1
    simp [C3.cells]
  rw [hcells] at o3
  exact o3
/-- Both orders in which the last expression and the list are stored. -/
def Stored (w3 W : World) (D bx ga ca n : Nat) (k : Int) (t : ByteArray) (cs : List C3) (y : C3) : Prop :=
  Blk W bx 28 #[.int .i8 k, .string t, .slice (some ⟨ga, 0, none⟩) (n + 1) ca] ∧ W.ownsRow D 28 3 (.slice (some ⟨ga, 0, none⟩) (n + 1) ca) (n + 1) ((cs ++ [y]).flatMap C3.cells) ∧ Kept (fun i => i = bx ∨ i = ga) w3 W
theorem stored_a {w3 : World} {D bx ga ca n : Nat} {k : Int} {t : ByteArray} {sv : Value} {cs : List C3} {y0 : C3} (k1 : Int) (t1 : ByteArray) (A1 : Option Addr) (n1 c1 : Nat) (ho : w3.ownsRow D 28 3 (.slice (some ⟨ga, 0, none⟩) (n + 1) ca) (n + 1) ((cs ++ [y0]).flatMap C3.cells)) (hB : Blk w3 bx 28 #[.int .i8 k, .string t, sv]) (hn : cs.length = n) (hne : bx ≠ ga) :
    Stored w3 ((((w3.setCell ⟨bx, 2, none⟩ (.slice (some ⟨ga, 0, none⟩) (n + 1) ca)).setCell ⟨ga, n * 3, none⟩ (.int .i8 k1)).setCell ⟨ga, n * 3 + 1, none⟩ (.string t1)).setCell ⟨ga, n * 3 + 2, none⟩ (.slice A1 n1 c1)) D bx ga ca n k t cs ⟨k1, t1, A1, n1, c1⟩ := by
  have ho1 := own_kept ho (Kept.set1 w3 bx 2 (.slice (some ⟨ga, 0, none⟩) (n + 1) ca)) (fun g hg h2 => hne (h2 ▸ (own_ga hg).symm))
  refine ⟨(((hB.set_ 2 (.slice (some ⟨ga, 0, none⟩) (n + 1) ca)).far (p := ⟨ga, n * 3, none⟩) hne _).far (p := ⟨ga, n * 3 + 1, none⟩) hne _).far (p := ⟨ga, n * 3 + 2, none⟩) hne _, row_stored ho1 hn k1 t1 A1 n1 c1, ?_⟩
  exact Kept.setCell (S := fun i => i = bx ∨ i = ga) (Kept.setCell (S := fun i => i = bx ∨ i = ga) (Kept.setCell (S := fun i => i = bx ∨ i = ga) (Kept.setCell (S := fun i => i = bx ∨ i = ga) (Kept.refl _ w3) (p := ⟨bx, 2, none⟩) (.inl (.inl rfl)) _) (p := ⟨ga, n * 3, none⟩) (.inl (.inr rfl)) _) (p := ⟨ga, n * 3 + 1, none⟩) (.inl (.inr rfl)) _) (p := ⟨ga, n * 3 + 2, none⟩) (.inl (.inr rfl)) _
theorem stored_b {w3 : World} {D bx ga ca n : Nat} {k : Int} {t : ByteArray} {sv : Value} {cs : List C3} {y0 : C3} (k1 : Int) (t1 : ByteArray) (A1 : Option Addr) (n1 c1 : Nat) (ho : w3.ownsRow D 28 3 (.slice (some ⟨ga, 0, none⟩) (n + 1) ca) (n + 1) ((cs ++ [y0]).flatMap C3.cells)) (hB : Blk w3 bx 28 #[.int .i8 k, .string t, sv]) (hn : cs.length = n) (hne : bx ≠ ga) :
    Stored w3 ((((w3.setCell ⟨ga, n * 3, none⟩ (.int .i8 k1)).setCell ⟨ga, n * 3 + 1, none⟩ (.string t1)).setCell ⟨ga, n * 3 + 2, none⟩ (.slice A1 n1 c1)).setCell ⟨bx, 2, none⟩ (.slice (some ⟨ga, 0, none⟩) (n + 1) ca)) D bx ga ca n k t cs ⟨k1, t1, A1, n1, c1⟩ := by
  refine ⟨(((hB.far (p := ⟨ga, n * 3, none⟩) hne _).far (p := ⟨ga, n * 3 + 1, none⟩) hne _).far (p := ⟨ga, n * 3 + 2, none⟩) hne _).set_ 2 _, own_kept (row_stored ho hn k1 t1 A1 n1 c1) (Kept.set1 _ bx 2 (.slice (some ⟨ga, 0, none⟩) (n + 1) ca)) (fun g hg h2 => hne (h2 ▸ (own_ga hg).symm)), ?_⟩
  exact Kept.setCell (S := fun i => i = bx ∨ i = ga) (Kept.setCell (S := fun i => i = bx ∨ i = ga) (Kept.setCell (S := fun i => i = bx ∨ i = ga) (Kept.setCell (S := fun i => i = bx ∨ i = ga) (Kept.refl _ w3) (p := ⟨ga, n * 3, none⟩) (.inl (.inr rfl)) _) (p := ⟨ga, n * 3 + 1, none⟩) (.inl (.inr rfl)) _) (p := ⟨ga, n * 3 + 2, none⟩) (.inl (.inr rfl)) _) (p := ⟨bx, 2, none⟩) (.inl (.inl rfl)) _
/-- Leaves, and one that is none behind them. -/
theorem Lvs.last {w w0 : World} {D D' ga ca n : Nat} {sv : Value} {cs : List C3} {xs : List Sx} {y : C3} {X : Sx} (h0 : Lvs w0 D' sv cs xs) (hn : cs.length = n) (ho : w.ownsRow D 28 3 (.slice (some ⟨ga, 0, none⟩) (n + 1) ca) (n + 1) ((cs ++ [y]).flatMap C3.cells)) (hy : Lies (fun b => D ≤ b ∧ ga ≠ b) w y.val X) :
    Acc w D (.slice (some ⟨ga, 0, none⟩) (n + 1) ca) (cs ++ [y]) (xs ++ [X]) := by
  subst hn
  refine ⟨by simpa using ho, by simp [h0.len], fun i hi => ?_⟩
  rcases Nat.lt_or_ge i cs.length with h1 | h1
  · rw [List.getElem_append_left h1, List.getElem_append_left (h0.len ▸ h1)]
    exact h0.leaf i h1 _ w
  · rw [List.length_append, List.length_singleton] at hi
    obtain rfl : i = cs.length := by omega
    rw [List.getElem_append_right (Nat.le_refl _), List.getElem_append_right (by rw [h0.len]; exact Nat.le_refl _)]
    have := hy.mono (S' := fun b => D ≤ b ∧ (Value.slice (some ⟨ga, 0, none⟩) (cs.length + 1) ca).ownBlock ≠ some b) fun b _ hs => ⟨hs.1, fun e => hs.2 (own_ga e)⟩
    simpa using this

/-- The state as put is called for the first time. -/
structure Wr5 (w2 : World) (s : Stp) (q : Nat) (hd : ByteArray) (gb m : Nat) (W w3 w4 w5 : World) : Prop where
  s3 : w3.heap.size = w2.heap.size + 1
  s4 : w4.heap.size = w2.heap.size + 2
  s5 : w5.heap.size = w2.heap.size + 3
  sW : W.heap.size ≤ w2.heap.size
  b4 : Below W.heap.size W w4
  b5 : Below W.heap.size W w5
  f4 : w4.cell? ⟨gb, 0, none⟩ = some (.string hd) ∧ w4.cell? ⟨gb, 1, none⟩ = some (.int .i64 m)
  f5 : w5.cell? ⟨gb, 0, none⟩ = some (.string hd) ∧ w5.cell? ⟨gb, 1, none⟩ = some (.int .i64 m)
  x5 : Blk w5 w3.heap.size 28 #[.int .i8 3, .string ⟨#[]⟩, .slice (some ⟨w2.heap.size, 0, none⟩) 1 1]
  v5 : Lvs w5 W.heap.size (.slice (some ⟨w2.heap.size, 0, none⟩) 1 1) [⟨0, hd, none, 0, 0⟩] [symS (headK q)]
  row : Row .i64 w5 (some ⟨w4.heap.size, 0, none⟩) ([s.a, s.b].take m)
  tab : Tab w5
  tabW : Tab W
theorem written_mid (w2 : World) (s : Stp) (q : Nat) (hd : ByteArray) (gb m : Nat) (W : World) (hb : Below W.heap.size W w2) (hf : Blk w2 gb 70 #[.string hd, .int .i64 m]) (hh : (⟨(headK q).toArray⟩ : ByteArray) = hd) (ht : Tab W) :
    ∃ w3 w4 w5, w2.alloc (.cells #[.int .i8 0, .string hd, .slice none 0 0] 28) = w3 ∧ w3.alloc (.cells #[.int .i8 3, .string ⟨#[]⟩, .slice (some ⟨w2.heap.size, 0, none⟩) 1 1] 28) = w4 ∧ w4.alloc (.cells #[.int .i64 s.a, .int .i64 s.b] 3) = w5 ∧ Wr5 w2 s q hd gb m W w3 w4 w5 := by
  obtain ⟨w3, e3⟩ : ∃ w3, w2.alloc (.cells #[.int .i8 0, .string hd, .slice none 0 0] 28) = w3 := ⟨_, rfl⟩
  obtain ⟨w4, e4⟩ : ∃ w4, w3.alloc (.cells #[.int .i8 3, .string ⟨#[]⟩, .slice (some ⟨w2.heap.size, 0, none⟩) 1 1] 28) = w4 := ⟨_, rfl⟩
  obtain ⟨w5, e5⟩ : ∃ w5, w4.alloc (.cells #[.int .i64 s.a, .int .i64 s.b] 3) = w5 := ⟨_, rfl⟩
  have s3 : w3.heap.size = w2.heap.size + 1 := by rw [← e3]; simp
  have s4 : w4.heap.size = w2.heap.size + 2 := by rw [← e4]; simp; omega
  have s5 : w5.heap.size = w2.heap.size + 3 := by rw [← e5]; simp; omega
  have sW := hb.size
  have b3 : Below w2.heap.size w2 w3 := e3 ▸ (Below.refl _ w2).alloc (Nat.le_refl _) _
  have b4 : Below w3.heap.size w3 w4 := e4 ▸ (Below.refl _ w3).alloc (Nat.le_refl _) _
  have b5 : Below w4.heap.size w4 w5 := e5 ▸ (Below.refl _ w4).alloc (Nat.le_refl _) _
  have hb4 := (hb.trans (b3.mono sW)).trans (b4.mono (by omega))
  have hb5 := hb4.trans (b5.mono (by omega))
  have f4 := (hf.below b3 hf.lt).below b4 (by have := hf.lt; omega)
  have f5 := f4.below b5 f4.lt
  have hv := (Lvs.one w2 (symC (headK q)) _ (sym_lies _)).base sW
  dsimp only [symC] at hv
  rw [hh, e3] at hv
  have x4 : Blk w4 w3.heap.size 28 #[.int .i8 3, .string ⟨#[]⟩, .slice (some ⟨w2.heap.size, 0, none⟩) 1 1] := e4 ▸ Blk.new w3 _ _
  have hr := (two_row w4 s.a s.b).take m
  rw [e5] at hr
  exact ⟨w3, w4, w5, e3, e4, e5, ⟨s3, s4, s5, sW, hb4, hb5, ⟨f4.cell 0, f4.cell 1⟩, ⟨f5.cell 0, f5.cell 1⟩, x4.below b5 x4.lt, (hv.keep b4).keep b5, hr, (ht.kept (Kept.of_below (S := fun i => W.heap.size ≤ i) hb5) (fun g hg h => by have := ht.lt hg; omega)), ht⟩⟩
theorem Wr5.put {w2 : World} {s : Stp} {q : Nat} {hd : ByteArray} {gb m : Nat} {W w3 w4 w5 : World} (h : Wr5 w2 s q hd gb m W w3 w4 w5) (hf : ([s.a, s.b].take m).all fitN = true) (hl : ([s.a, s.b].take m).length = m) (hm2 : m ≤ 100000) :
    Calls Tryz.prog 51 #[.pointer (some ⟨w3.heap.size, 0, none⟩), .slice (some ⟨w4.heap.size, 0, none⟩) m 2] w5 fun e w' => e = .returned (.tuple #[]) ∧ PutX w5 w' W.heap.size w3.heap.size 3 ⟨#[]⟩ (.slice (some ⟨w2.heap.size, 0, none⟩) 1 1) ([⟨0, hd, none, 0, 0⟩] ++ ([s.a, s.b].take m).map numC) ([symS (headK q)] ++ ([s.a, s.b].take m).map numS) := by
  have h3 := h.s3
  have h4 := h.s4
  have h5 := h.s5
  have hW := h.sW
  have := putx_ok w5 h.tab W.heap.size w3.heap.size 3 ⟨#[]⟩ _ _ _ h.x5 h.v5 (by omega) (fun e => by have := own_ga e; omega) (some ⟨w4.heap.size, 0, none⟩) 2 ([s.a, s.b].take m) h.row (fun _ a ha => by
    injection ha with ha
    subst ha
    exact ⟨by dsimp only; omega, fun e => by have := own_ga e; dsimp only at this; omega⟩) hf (fun g hg => by have := h.tabW.lt hg; omega) (by simp) (by rw [hl]; exact hm2)
  rw [hl] at this
  exact this
/-- The state as put is called for the second time. -/
structure Wr7 (w2 : World) (s : Stp) (q : Nat) (hd : ByteArray) (m : Nat) (W w3 w6 w7 : World) : Prop where
  s3 : w3.heap.size = w2.heap.size + 1
  sW : W.heap.size ≤ w2.heap.size
  s6 : w3.heap.size < w6.heap.size
  s7 : w7.heap.size = w6.heap.size + 1
  below : Below W.heap.size W w7
  x7 : ∃ sv, Blk w7 w3.heap.size 28 #[.int .i8 3, .string ⟨#[]⟩, sv] ∧ Lvs w7 W.heap.size sv ([⟨0, hd, none, 0, 0⟩] ++ ([s.a, s.b].take m).map numC) ([symS (headK q)] ++ ([s.a, s.b].take m).map numS) ∧ sv.ownBlock ≠ some w3.heap.size ∧ ∀ g, sv.ownBlock = some g → g < w6.heap.size
  y7 : Blk w7 w6.heap.size 28 #[.int .i8 3, .string ⟨#[]⟩, .slice none 0 0]
theorem written_mid2 {w2 : World} {s : Stp} {q : Nat} {hd : ByteArray} {gb m : Nat} {W w3 w4 w5 w6 : World} (h : Wr5 w2 s q hd gb m W w3 w4 w5) (hp : PutX w5 w6 W.heap.size w3.heap.size 3 ⟨#[]⟩ (.slice (some ⟨w2.heap.size, 0, none⟩) 1 1) ([⟨0, hd, none, 0, 0⟩] ++ ([s.a, s.b].take m).map numC) ([symS (headK q)] ++ ([s.a, s.b].take m).map numS)) :
    ∃ w7, w6.alloc (.cells #[.int .i8 3, .string ⟨#[]⟩, .slice none 0 0] 28) = w7 ∧ Wr7 w2 s q hd m W w3 w6 w7 := by
  obtain ⟨⟨sv, hx, hv, hg⟩, hk⟩ := hp
  have h3 := h.s3
  have h5 := h.s5
  have hW := h.sW
  have hs := hk.size
  obtain ⟨w7, e7⟩ : ∃ w7, w6.alloc (.cells #[.int .i8 3, .string ⟨#[]⟩, .slice none 0 0] 28) = w7 := ⟨_, rfl⟩
  have b7 : Below w6.heap.size w6 w7 := e7 ▸ (Below.refl _ w6).alloc (Nat.le_refl _) _
  have b6 : Below W.heap.size W w6 := h.b5.trans (hk.below h.b5.size (fun g hg => by
    rcases hg with hg | hg
    · omega
    · have := own_ga hg; omega))
  refine ⟨w7, e7, ⟨h3, hW, by omega, by rw [← e7]; simp, b6.trans (b7.mono b6.size), ⟨sv, hx.below b7 hx.lt, hv.keep b7, fun e => ?_, fun g hgg => (hv.own.lt g hgg).2⟩, e7 ▸ Blk.new w6 _ _⟩⟩
  rcases hg _ e with h1 | h1
  · have := own_ga h1; omega
  · omega
theorem Wr7.put {w2 : World} {s : Stp} {q : Nat} {hd : ByteArray} {m : Nat} {W w3 w6 w7 : World} (h : Wr7 w2 s q hd m W w3 w6 w7) {w : World} (A : Option Addr) (c : Nat) (l : List Int) (hr : Row .i64 w7 A l) (hr0 : Row .i64 w A l) (hw : w.heap.size ≤ W.heap.size) (hf : l.all fitN = true) (hl : l.length ≤ 100000) (_ : True) (ht : Tab W) :
    Calls Tryz.prog 51 #[.pointer (some ⟨w6.heap.size, 0, none⟩), .slice A l.length c] w7 fun e w' => e = .returned (.tuple #[]) ∧ PutX w7 w' w7.heap.size w6.heap.size 3 ⟨#[]⟩ (.slice none 0 0) ([] ++ l.map numC) ([] ++ l.map numS) := by
  have h3 := h.s3
  have hW := h.sW
  have h6 := h.s6
  exact putx_ok w7 (ht.kept (Kept.of_below (S := fun i => W.heap.size ≤ i) h.below) (fun g hg h => by have := ht.lt hg; omega)) w7.heap.size w6.heap.size 3 ⟨#[]⟩ _ [] [] h.y7 (Lvs.nil _ _) (Nat.le_refl _) (by simp [Value.ownBlock]) A c l hr (fun h0 a ha => by
    obtain ⟨b, off, rfl, hlt, _⟩ := hr0.at_.resolve_left (by omega)
    injection ha with ha
    subst ha
    exact ⟨by dsimp only; omega, by simp [Value.ownBlock]⟩) hf (fun g hg => by have := ht.lt hg; have := h.s7; omega) (by simp) hl

/-- The step's expression but for its literals, as it stands. -/
def hC (s : Stp) (hd : ByteArray) (m : Nat) : List C3 := [⟨0, hd, none, 0, 0⟩] ++ ([s.a, s.b].take m).map numC
def hX (s : Stp) (q m : Nat) : List Sx := [symS (headK q)] ++ ([s.a, s.b].take m).map numS
/-- The state behind the second put. -/
structure Wr8 (s : Stp) (q : Nat) (hd : ByteArray) (m : Nat) (W : World) (bx bl : Nat) (w8 : World) (A5 : Option Addr) (n5 c5 : Nat) (A6 : Option Addr) (n6 c6 : Nat) : Prop where
  num : (hC s hd m).length = n5
  lt : W.heap.size ≤ bx ∧ bx < bl ∧ bl < w8.heap.size
  below : Below W.heap.size W w8
  x : Blk w8 bx 28 #[.int .i8 3, .string ⟨#[]⟩, .slice A5 n5 c5]
  v : Lvs w8 W.heap.size (.slice A5 n5 c5) (hC s hd m) (hX s q m)
  far : (Value.slice A5 n5 c5).ownBlock ≠ some bx
  old : ∀ g, (Value.slice A5 n5 c5).ownBlock = some g → g < bl
  y : Blk w8 bl 28 #[.int .i8 3, .string ⟨#[]⟩, .slice A6 n6 c6]
  lits : Lies (fun b => bl < b) w8 (C3.val ⟨3, ⟨#[]⟩, A6, n6, c6⟩) (.mk 3 [] (s.l.map numS))
theorem written_mid3 {w2 : World} {s : Stp} {q : Nat} {hd : ByteArray} {m : Nat} {W w3 w6 w7 w8 : World} (h : Wr7 w2 s q hd m W w3 w6 w7) (hl : s.l.length ≤ 100000) (hp : PutX w7 w8 w7.heap.size w6.heap.size 3 ⟨#[]⟩ (.slice none 0 0) ([] ++ s.l.map numC) ([] ++ s.l.map numS)) :
    ∃ A5 n5 c5 A6 n6 c6, Wr8 s q hd m W w3.heap.size w6.heap.size w8 A5 n5 c5 A6 n6 c6 := by
  obtain ⟨sv, hx, hv, hf, ho⟩ := h.x7
  obtain ⟨⟨sv2, hy, hv2, _⟩, hk⟩ := hp
  have h3 := h.s3
  have hW := h.sW
  have h6 := h.s6
  have h7 := h.s7
  have hs := hk.size
  have hK : ∀ i, (i = w6.heap.size ∨ (Value.slice none 0 0).ownBlock = some i) → i = w6.heap.size := fun i hi => by
    rcases hi with hi | hi
    · exact hi
    · simp [Value.ownBlock] at hi
  obtain ⟨A5, c5, rfl⟩ := own_slice hv.own
  obtain ⟨A6, c6, rfl⟩ := own_slice hv2.own
  refine ⟨A5, _, c5, A6, _, c6, rfl, ⟨by omega, h6, by omega⟩, h.below.trans (hk.below h.below.size (fun i hi => by have := hK i hi; omega)), hx.kept hk (fun hi => by have := hK _ hi; omega), hv.kept hk (fun g hg hi => by have := hK _ hi; have := ho g hg; omega), hf, ho, hy, ?_⟩
  have hl2 := hv2.acc.lies (by simp; omega)
  exact hl2.mono fun b _ hb => by omega
/-- The end: the literals stand behind the rest. -/
theorem written_fin {s : Stp} {q : Nat} {hd : ByteArray} {m : Nat} {W w8 w9 W' : World} {bx bl n5 c5 n6 c6 ga ca : Nat} {A5 A6 : Option Addr} (h : Wr8 s q hd m W bx bl w8 A5 n5 c5 A6 n6 c6) (hk : Kept (fun i => (Value.slice A5 n5 c5).ownBlock = some i) w8.drew w9) (hat : (Value.slice A5 n5 c5).ownBlock = some ga ∨ w8.drew.heap.size < ga)
    (hs : Stored w9 W' W.heap.size bx ga ca n5 3 ⟨#[]⟩ (hC s hd m) ⟨3, ⟨#[]⟩, A6, n6, c6⟩) :
    Blk W' bx 28 #[.int .i8 3, .string ⟨#[]⟩, .slice (some ⟨ga, 0, none⟩) (n5 + 1) ca] ∧ Acc W' W.heap.size (.slice (some ⟨ga, 0, none⟩) (n5 + 1) ca) (hC s hd m ++ [⟨3, ⟨#[]⟩, A6, n6, c6⟩]) (hX s q m ++ [.mk 3 [] (s.l.map numS)]) ∧ Below W.heap.size W W' := by
  obtain ⟨h1, h2, h3⟩ := hs
  have hlt := h.lt
  have hd8 : w8.drew.heap.size = w8.heap.size := rfl
  have hgW : W.heap.size ≤ ga := by
    rcases hat with e | e
    · exact (h.v.own.lt ga e).1
    · have := h.below.size; omega
  have hga : ga < bl ∨ w8.heap.size < ga := by
    rcases hat with e | e
    · exact .inl (h.old ga e)
    · exact .inr (by omega)
  have hl9 := (h.lits.mono (S' := fun b => bl < b ∧ b < w8.heap.size) fun b hb hs => ⟨hs, hb⟩)
  have hl9 : Lies (fun b => bl < b ∧ b < w8.heap.size) w9 (C3.val ⟨3, ⟨#[]⟩, A6, n6, c6⟩) (.mk 3 [] (s.l.map numS)) := (hl9.keep ((Below.refl _ w8).drew)).kept hk fun b _ hs e => by have := h.old b e; omega
  have hlW := (hl9.kept h3 fun b _ hs e => by omega).mono (S' := fun b => W.heap.size ≤ b ∧ ga ≠ b) fun b _ hs => ⟨by omega, by omega⟩
  refine ⟨h1, Lvs.last h.v h.num h2 hlW, ?_⟩
  have hb9 : Below W.heap.size W w9 := (h.below.drew).trans (hk.below (by rw [hd8]; exact h.below.size) fun g hg => (h.v.own.lt g hg).1)
  exact hb9.trans (h3.below hb9.size fun g hg => by omega)

theorem written_post {s : Stp} {q m : Nat} {hd : ByteArray} {w w0 W W' : World} {bx ga ca n5 : Nat} {y : C3} (hq : s.k = (q : Int)) (hm : manyK q = m) (hW : Below w.heap.size w W) (h0 : w0.heap.size = w.heap.size + 1) (hs : W.heap.size = w.heap.size + 2) (hn : (hC s hd m).length = n5) (hn5 : n5 ≤ 10)
    (h : Blk W' bx 28 #[.int .i8 3, .string ⟨#[]⟩, .slice (some ⟨ga, 0, none⟩) (n5 + 1) ca] ∧ Acc W' W.heap.size (.slice (some ⟨ga, 0, none⟩) (n5 + 1) ca) (hC s hd m ++ [y]) (hX s q m ++ [.mk 3 [] (s.l.map numS)]) ∧ Below W.heap.size W W') :
    (∃ y : C3, Lies (fun b => w.heap.size ≤ b) (((W'.setCell ⟨w0.heap.size, 0, none⟩ (.int .i8 3)).setCell ⟨w0.heap.size, 1, none⟩ (.string ⟨#[]⟩)).setCell ⟨w0.heap.size, 2, none⟩ (.slice (some ⟨ga, 0, none⟩) (n5 + 1) ca)) y.val s.sx ∧ Ending.returned (.agg #[.int .i8 3, .string ⟨#[]⟩, .slice (some ⟨ga, 0, none⟩) (n5 + 1) ca]) = .returned (.agg #[.int .i8 y.k, .string y.t, .slice y.A y.n y.c])) ∧
      Below w.heap.size w (((W'.setCell ⟨w0.heap.size, 0, none⟩ (.int .i8 3)).setCell ⟨w0.heap.size, 1, none⟩ (.string ⟨#[]⟩)).setCell ⟨w0.heap.size, 2, none⟩ (.slice (some ⟨ga, 0, none⟩) (n5 + 1) ca)) := by
  obtain ⟨_, ha, hb⟩ := h
  have hlen := ha.len
  rw [List.length_append, hn] at hlen
  have hlie := ha.lies (by have h1 : ([y] : List C3).length = 1 := rfl; omega)
  have hkf : Kept (fun i => i = w0.heap.size) W' (((W'.setCell ⟨w0.heap.size, 0, none⟩ (.int .i8 3)).setCell ⟨w0.heap.size, 1, none⟩ (.string ⟨#[]⟩)).setCell ⟨w0.heap.size, 2, none⟩ (.slice (some ⟨ga, 0, none⟩) (n5 + 1) ca)) :=
    Kept.setCell (S := fun i => i = w0.heap.size) (Kept.setCell (S := fun i => i = w0.heap.size) (Kept.setCell (S := fun i => i = w0.heap.size) (Kept.refl _ W') (p := ⟨w0.heap.size, 0, none⟩) (.inl rfl) _) (p := ⟨w0.heap.size, 1, none⟩) (.inl rfl) _) (p := ⟨w0.heap.size, 2, none⟩) (.inl rfl) _
  refine ⟨⟨⟨3, ⟨#[]⟩, some ⟨ga, 0, none⟩, n5 + 1, ca⟩, ?_, rfl⟩, ?_⟩
  · have e : s.sx = .mk 3 [] (hX s q m ++ [.mk 3 [] (s.l.map numS)]) := by
      unfold Stp.sx Stp.nums hX
      rw [hq, hm]
      rfl
    rw [e]
    exact (hlie.kept hkf (fun b _ h1 h2 => by omega)).mono fun b _ h1 => by omega
  · exact hW.trans ((hb.mono hW.size).trans (hkf.below (by have := hb.size; omega) (fun k hk => by omega)))

set_option maxHeartbeats 4000000 in
set_option maxRecDepth 100000 in
theorem written_ok (s : Stp) (hm : s.may = true) (hz : s.l.length ≤ 100000) (w : World) (ht : Tab w) (y : C4) (h : Is4 w y s) :
    Calls Tryz.prog 27 #[y.val] w fun e w' => (∃ y : C3, Lies (fun b => w.heap.size ≤ b) w' y.val s.sx ∧ e = .returned (.agg #[.int .i8 y.k, .string y.t, .slice y.A y.n y.c])) ∧ Below w.heap.size w w' := by
  obtain ⟨A, c, w0, hy, hx⟩ := box4 h
  obtain ⟨h0, h6, hmk, ha, hb, hl, hab⟩ := (may_iff s).1 hm
  rw [hy]
  obtain ⟨q, hq⟩ : ∃ q : Nat, s.k = (q : Int) := ⟨s.k.toNat, by omega⟩
  have hq6 : q < 6 := by omega
  have hq6z : (q : Int) < 6 := by omega
  obtain ⟨hf0, hf1⟩ := form_at hq6
  have e0 := hx.eq
  have hs0 : w0.heap.size = w.heap.size + 1 := by rw [← e0]; simp
  obtain ⟨W, eW⟩ : ∃ W, w0.alloc (.cells #[.int .i8 0, .string ⟨#[]⟩, .slice none 0 0] 28) = W := ⟨_, rfl⟩
  have hsW : W.heap.size = w.heap.size + 2 := by rw [← eW]; simp; omega
  have hbW : Below w0.heap.size w0 W := eW ▸ (Below.refl _ w0).alloc (Nat.le_refl _) _
  have hRes : Blk W w0.heap.size 28 #[.int .i8 0, .string ⟨#[]⟩, .slice none 0 0] := eW ▸ Blk.new w0 _ _
  have HW := Lib.hid (hx.below.trans (hbW.mono hx.below.size))
  have HAT := Lib.hid (fun w1 (h1 : Below W.heap.size W w1) => hx.at_ w1 (hbW.trans (h1.mono hbW.size)))
  have HROW := Lib.hid (fun w1 (h1 : Below W.heap.size W w1) => hx.row w1 (hbW.trans (h1.mono hbW.size)))
  have HRES := Lib.hid (fun w1 (h1 : Below W.heap.size W w1) => hRes.below h1 hRes.lt)
  have HTW := Lib.hid (ht.keep HW.out)
  obtain ⟨x0, x1, x2, x3⟩ := hx.at_ W hbW
  have HX := Lib.hid hx
  rw [hq] at e0 x0 ⊢
  obtain ⟨hd, hhd⟩ : ∃ hd : ByteArray, (⟨(headK q).toArray⟩ : ByteArray) = hd := ⟨_, rfl⟩
  obtain ⟨m, hmm⟩ : ∃ m, manyK q = m := ⟨_, rfl⟩
  have hm2 : m ≤ 2 := by rw [← hmm]; unfold manyK; split <;> (try split) <;> omega
  have hm2z : (m : Int) ≤ 2 := by omega
  rw [hhd] at hf0
  rw [hmm] at hf1
  have HQ := Lib.hid hq
  have HHD := Lib.hid hhd
  have HMM := Lib.hid hmm
  have HFA := Lib.hid (show ([s.a, s.b].take m).all fitN = true from List.all_eq_true.2 fun x hx => by
    have := List.mem_of_mem_take hx
    simp only [List.mem_cons, List.not_mem_nil, or_false] at this
    rcases this with rfl | rfl
    · exact ha
    · exact hb)
  have HFL := Lib.hid hl
  have hlm : ([s.a, s.b].take m).length = m := by rw [List.length_take]; simp; omega
  have HS0 := Lib.hid hs0
  have HLM := Lib.hid hlm
  have HS0 := Lib.hid hs0
  have hq0z : (0 : Int) ≤ (q : Int) := by omega
  have HSW := Lib.hid hsW
  clear hsW
  have HF01 := Lib.hid hf0
  have HF11 := Lib.hid hf1
  clear hf0 hf1
  clear h hx hbW hRes hs0 hq hhd hmm ha hb hl hlm hm ht hy hmk hab
  go_enter Tryz.func27, Tryz.ntmps27
  go_wp2
  go_cut [3] (fun v wc => ∃ gb, v = .pointer (some ⟨gb, 0, none⟩) ∧ W.heap.size ≤ gb ∧ Blk wc gb 70 #[.string hd, .int .i64 m] ∧ Below W.heap.size W wc)
  case first =>
    have hZ := Blk.new W 70 #[.string ⟨#[]⟩, .int .i64 0]
    have hWZ : Below W.heap.size W (W.alloc (.cells #[.string ⟨#[]⟩, .int .i64 0] 70)) := (Below.refl _ W).alloc (Nat.le_refl _) _
    have HZ := Lib.hid hZ
    have HWZ := Lib.hid hWZ
    have hsZ : (W.alloc (.cells #[.string ⟨#[]⟩, .int .i64 0] 70)).heap.size = W.heap.size + 1 := by simp
    have HSZ := Lib.hid hsZ
    have x0z := (HAT.out _ hWZ).1
    rw [HQ.out] at x0z
    clear hZ hWZ hsZ
    go_region_with (first
      | (go_at_call 41; refine (forms_ok W.drew).mono ?_; rintro e w1 ⟨rfl, hf, hb1⟩; have HF1 := Lib.hid hf; have HB1 := Lib.hid (show Below W.heap.size W w1 from ⟨hb1.os, hb1.tape, hb1.output, hb1.size, hb1.block⟩); obtain ⟨y0, y1, y2, y3⟩ := HAT.out w1 HB1.out; rw [HQ.out] at y0; have z0 : w1.cell? ⟨W.heap.size, q * 2, none⟩ = some (.string hd) := (HF1.out.cell (q * 2)).trans HF01.out; have z1 : w1.cell? ⟨W.heap.size, q * 2 + 1, none⟩ = some (.int .i64 m) := (HF1.out.cell (q * 2 + 1)).trans HF11.out; have hA1 := HF1.out.alloc (.cells #[.string ⟨#[]⟩, .int .i64 0] 70); have hbA := HB1.out.alloc HB1.out.size (.cells #[.string ⟨#[]⟩, .int .i64 0] 70); have u0 : (w1.alloc (.cells #[.string ⟨#[]⟩, .int .i64 0] 70)).cell? ⟨W.heap.size, q * 2, none⟩ = some (.string hd) := (hA1.cell (q * 2)).trans HF01.out; have u1 : (w1.alloc (.cells #[.string ⟨#[]⟩, .int .i64 0] 70)).cell? ⟨W.heap.size, q * 2 + 1, none⟩ = some (.int .i64 m) := (hA1.cell (q * 2 + 1)).trans HF11.out; have v0 := (HAT.out _ hbA).1; rw [HQ.out] at v0; have HFin := Lib.hid (show ∃ gb, gb = w1.heap.size ∧ W.heap.size ≤ gb ∧ Blk (w1.alloc (.cells #[.string hd, .int .i64 m] 70)) gb 70 #[.string hd, .int .i64 m] ∧ Below W.heap.size W (w1.alloc (.cells #[.string hd, .int .i64 m] 70)) from ⟨_, rfl, HB1.out.size, Blk.new _ _ _, HB1.out.alloc HB1.out.size _⟩); clear hf hb1 hA1 hbA)
      | (go_at_call 41; refine (forms_ok (W.alloc (.cells #[.string ⟨#[]⟩, .int .i64 0] 70)).drew).mono ?_; rintro e w1 ⟨rfl, hf, hb1⟩; have HF1 := Lib.hid (show Blk w1 (W.heap.size + 1) 70 formCells by rw [← HSZ.out]; exact hf); have hb2 : Below (W.alloc (.cells #[.string ⟨#[]⟩, .int .i64 0] 70)).heap.size (W.alloc (.cells #[.string ⟨#[]⟩, .int .i64 0] 70)) w1 := ⟨hb1.os, hb1.tape, hb1.output, hb1.size, hb1.block⟩; have hZ1 := HZ.out.below hb2 HZ.out.lt; have HB1 := Lib.hid (below_then HWZ.out (Nat.le_refl _) hb2); obtain ⟨y0, y1, y2, y3⟩ := HAT.out w1 HB1.out; rw [HQ.out] at y0; have z0 : w1.cell? ⟨W.heap.size + 1, q * 2, none⟩ = some (.string hd) := (HF1.out.cell (q * 2)).trans HF01.out; have z1 : w1.cell? ⟨W.heap.size + 1, q * 2 + 1, none⟩ = some (.int .i64 m) := (HF1.out.cell (q * 2 + 1)).trans HF11.out; have q0 := hZ1.cell 0; have q1 := hZ1.cell 1; have q2 := hZ1.frozen 0; have q3 := hZ1.frozen 1; simp only [List.getElem?_toArray, List.getElem?_cons_zero, List.getElem?_cons_succ] at q0 q1; have HFin2 := Lib.hid (show Blk ((w1.setCell ⟨W.heap.size, 0, none⟩ (.string hd)).setCell ⟨W.heap.size, 1, none⟩ (.int .i64 m)) W.heap.size 70 #[.string hd, .int .i64 m] ∧ Below W.heap.size W ((w1.setCell ⟨W.heap.size, 0, none⟩ (.string hd)).setCell ⟨W.heap.size, 1, none⟩ (.int .i64 m)) from ⟨(hZ1.set_ 0 _).set_ 1 _, (HB1.out.setCell (p := ⟨W.heap.size, 0, none⟩) (Nat.le_refl _) _).setCell (p := ⟨W.heap.size, 1, none⟩) (Nat.le_refl _) _⟩); clear hf hb1 hb2 hZ1))
    all_goals go_wp2
    all_goals go_meet
    all_goals first
      | (obtain ⟨gb, rfl, h1, h2, h3⟩ := HFin.out; exact ⟨_, rfl, h1, h2, h3⟩)
      | exact ⟨W.heap.size, rfl, Nat.le_refl _, HFin2.out.1, HFin2.out.2⟩
  case rest =>
    obtain ⟨gb, rfl, hgb, hF, hB⟩ := hcut
    have p0 := hF.cell 0
    have p1 := hF.cell 1
    simp only [List.getElem?_toArray, List.getElem?_cons_zero, List.getElem?_cons_succ] at p0 p1
    have HFB := Lib.hid hF
    have HB := Lib.hid hB
    clear hF hB
    go_wp2_with (first
      | (go_at_call 26; refine (sym_ok hd _).mono ?_; rintro e w2 ⟨rfl, hb2⟩; have HB2 := Lib.hid (HB.out.trans (hb2.mono HB.out.size)); have HF2 := Lib.hid (HFB.out.below hb2 HFB.out.lt); clear hb2; obtain ⟨w3, w4, w5, e3, e4, e5, W5⟩ := written_mid w2 s q hd gb m W HB2.out HF2.out HHD.out HTW.out; obtain ⟨y0, y1, y2, y3⟩ := HAT.out w4 W5.b4; obtain ⟨p2, p3⟩ := W5.f4; obtain ⟨p4, p5⟩ := W5.f5; have K1 := Lib.hid (W5.put HFA.out HLM.out (by omega)))
      | (go_at_call 51; (with_reducible refine K1.out.mono ?_); rintro e w6 ⟨rfl, hp6⟩; obtain ⟨w7, e7, M7⟩ := written_mid2 W5 hp6; have K2 := Lib.hid (M7.put A c s.l (HROW.out w7 M7.below) (HROW.out W (Below.refl _ _)) (Nat.le_refl _) HFL.out hz True.intro HTW.out); obtain ⟨z0, z1, z2, z3⟩ := HAT.out w7 M7.below; subst e7)
      | (go_at_call 51; (with_reducible refine K2.out.mono ?_); rintro e w8 ⟨rfl, hp8⟩))
    obtain ⟨A5, n5, c5, A6, n6, c6, M8⟩ := written_mid3 M7 hz hp8
    have h8 := M8.lt
    obtain ⟨x8a, x8b, x8c, _⟩ := blk3 M8.x
    obtain ⟨y8a, y8b, y8c, _⟩ := blk3 M8.y
    obtain ⟨x9a, x9b, x9c, _⟩ := blk3 (M8.x.alloc (.cells #[.int .i8 0, .string ⟨#[]⟩, .slice none 0 0] 28))
    obtain ⟨y9a, y9b, y9c, _⟩ := blk3 (M8.y.alloc (.cells #[.int .i8 0, .string ⟨#[]⟩, .slice none 0 0] 28))
    have HM8 := Lib.hid M8
    have hA8 : Acc w8.drew W.heap.size (.slice A5 n5 c5) (hC s hd m) (hX s q m) := M8.v.acc.drew
    have HA8 := Lib.hid hA8
    have hn5 : n5 ≤ 10 := by rw [← M8.num]; unfold hC; simp; omega
    have hn53 : (n5 : Int) < (n5 : Int) + 1 := by omega
    have hcn : ((hC s hd m).length + 1) * 48 ≤ 140737488355328 := by rw [M8.num]; omega
    have hD8 : W.heap.size ≤ w8.drew.heap.size := M8.below.size
    have HN5 := Lib.hid M8.num
    clear M8 hA8
    obtain ⟨bx, hbx⟩ : ∃ bx, w3.heap.size = bx := ⟨_, rfl⟩
    obtain ⟨bl, hbl⟩ : ∃ bl, w6.heap.size = bl := ⟨_, rfl⟩
    rw [hbx] at x8a x8b x8c x9a x9b x9c HM8 h8 ⊢
    rw [hbl] at y8a y8b y8c y9a y9b y9c HM8 h8 ⊢
    have hq1 : bx ≠ w8.heap.size := by omega
    have hq2 := hq1.symm
    have hq3 : bl ≠ w8.heap.size := by omega
    have hq4 := hq3.symm
    have hq5 : bx ≠ bl := by omega
    have hq6 := hq5.symm
    go_region_law
      ((refine acc_push_step w8.drew (by rfl) (.tmp 30) (.tmp 33) (by rfl) W.heap.size (.slice A5 n5 c5) (hC s hd m) (hX s q m) HA8.out hD8 zeroC (.mk 0 [] []) (zero_lies _ _) hcn (by rfl) (by rfl) ?_; intro ga ca w9 hA9 hk9 hat9; rw [HN5.out] at hA9 ⊢; obtain ⟨l0, l1, l2, m0, m1, m2⟩ := last3 hA9 HN5.out; have hne : ga ≠ bx := ga_ne hat9 HM8.out.far (by have := HM8.out.lt; omega); have hne2 := hne.symm; have hB9 := (HM8.out.x.drew).kept hk9 HM8.out.far; obtain ⟨r0, r1, r2, q0, q1, q2⟩ := blk3 hB9; have hown9 := hA9.own; rw [show (hC s hd m ++ [zeroC]).length = n5 + 1 by rw [List.length_append, HN5.out]; rfl] at hown9; have Sa := written_fin HM8.out hk9 hat9 (stored_a 3 ⟨#[]⟩ A6 n6 c6 hown9 hB9 HN5.out hne2); have Sb := written_fin HM8.out hk9 hat9 (stored_b 3 ⟨#[]⟩ A6 n6 c6 hown9 hB9 HN5.out hne2); obtain ⟨ra0, ra1, ra2, ra3, ra4, ra5⟩ := blk3 (HRES.out _ Sa.2.2); obtain ⟨rb0, rb1, rb2, rb3, rb4, rb5⟩ := blk3 (HRES.out _ Sb.2.2); obtain ⟨sa0, sa1, sa2, _⟩ := blk3 Sa.1; obtain ⟨sb0, sb1, sb2, _⟩ := blk3 Sb.1; have HSa := Lib.hid Sa; have HSb := Lib.hid Sb; clear Sa Sb hA9 hk9 hat9 hB9 hown9))
    all_goals
      go_wp2
      first
        | (have hset := (HRES.out _ HSa.out.2.2).set3 (.int .i8 3) (.string ⟨#[]⟩) (.slice (some ⟨ga, 0, none⟩) (n5 + 1) ca)
           obtain ⟨v0, v1, v2, _⟩ := blk3 hset
           refine bodyPost_ret (v := .agg #[.int .i8 3, .string ⟨#[]⟩, .slice (some ⟨ga, 0, none⟩) (n5 + 1) ca]) ?_ rfl (by with_reducible exact written_post HQ.out HMM.out HW.out HS0.out HSW.out HN5.out hn5 HSa.out)
           simp [results, Tryz.results27, go_sem, v0, v1, v2])
        | (have hset := (HRES.out _ HSb.out.2.2).set3 (.int .i8 3) (.string ⟨#[]⟩) (.slice (some ⟨ga, 0, none⟩) (n5 + 1) ca)
           obtain ⟨v0, v1, v2, _⟩ := blk3 hset
           refine bodyPost_ret (v := .agg #[.int .i8 3, .string ⟨#[]⟩, .slice (some ⟨ga, 0, none⟩) (n5 + 1) ca]) ?_ rfl (by with_reducible exact written_post HQ.out HMM.out HW.out HS0.out HSW.out HN5.out hn5 HSb.out)
           simp [results, Tryz.results27, go_sem, v0, v1, v2])
end Go.Proofs.YtiklliiamljogaaGreatDoor

/- A quiet walk, operation by operation: an operation that is wanted has one value in every world of the class; one that is passed over has none. -/
namespace Go.Proofs.YtiklliiamljogaaGreatDoor
open Go.RowKit

theorem wpQuiet_want {P : Program} {ops : Array Oper} {C : World → Prop} {Q : Act → Prop} {a : Act} {o : Oper} {rest : List Oper} (hw : Region.wanted o (yielded ops a.tmps) = true) (v : Value) (h1 : ∀ w, C w → o.quietAt P a C w v) (h2 : wpQuiet P ops C Q rest (a.put o.dst v)) : wpQuiet P ops C Q (o :: rest) a := by
  unfold wpQuiet
  rw [if_pos hw]
  exact ⟨v, h1, h2⟩
theorem wpQuiet_skip {P : Program} {ops : Array Oper} {C : World → Prop} {Q : Act → Prop} {a : Act} {o : Oper} {rest : List Oper} (hw : Region.wanted o (yielded ops a.tmps) = false) (h2 : wpQuiet P ops C Q rest (a.put o.dst undef)) : wpQuiet P ops C Q (o :: rest) a := by
  unfold wpQuiet
  rw [if_neg (by rw [hw]; decide)]
  exact h2
/-- The same behind a structure: whnf does not run ahead through what is passed over. -/
structure QW (P : Program) (ops : Array Oper) (C : World → Prop) (Q : Act → Prop) (rest : List Oper) (a : Act) : Prop where
  out : wpQuiet P ops C Q rest a
theorem qw_want {P : Program} {ops : Array Oper} {C : World → Prop} {Q : Act → Prop} {a : Act} {o : Oper} {rest : List Oper} (hw : Region.wanted o (yielded ops a.tmps) = true) (v : Value) (h1 : ∀ w, C w → o.quietAt P a C w v) (h2 : QW P ops C Q rest (a.put o.dst v)) : QW P ops C Q (o :: rest) a := ⟨wpQuiet_want hw v h1 h2.out⟩
theorem qw_skip {P : Program} {ops : Array Oper} {C : World → Prop} {Q : Act → Prop} {a : Act} {o : Oper} {rest : List Oper} (hw : Region.wanted o (yielded ops a.tmps) = false) (h2 : QW P ops C Q rest (a.put o.dst undef)) : QW P ops C Q (o :: rest) a := ⟨wpQuiet_skip hw h2.out⟩
theorem qw_end {P : Program} {ops : Array Oper} {C : World → Prop} {Q : Act → Prop} {a : Act} (h : Q a) : QW P ops C Q [] a := ⟨h⟩
theorem QW.lit {P : Program} {C : World → Prop} {Q : Act → Prop} {l : List Oper} {a : Act} (h : QW P l.toArray C Q l a) : wpQuiet P l.toArray C Q l.toArray.toList a := h.out
end Go.Proofs.YtiklliiamljogaaGreatDoor

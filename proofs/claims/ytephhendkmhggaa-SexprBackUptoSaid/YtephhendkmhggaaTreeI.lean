/- Rows of expressions that grow. -/
import Derived.Test.YtephhendkmhggaaTreeG
import Derived.Test.YtephhendkmhggaaLexL
import Derived.Deep.RegionHeld3
namespace Go.Proofs.Ytephhendkmhggaa
open Go.RowKit

/-- A row of expressions of one's own, all of it made behind D. -/
structure Acc (w : World) (D : Nat) (sv : Value) (cs : List C3) (xs : List Sx) : Prop where
  own : w.ownsRow D 26 3 sv cs.length (cs.flatMap C3.cells)
  len : cs.length = xs.length
  kids : ∀ i (h : i < cs.length), Lies (fun b => D ≤ b ∧ sv.ownBlock ≠ some b) w (cs[i]).val (xs[i]'(len ▸ h))

theorem Acc.nil (w : World) (D : Nat) : Acc w D (.slice none 0 0) [] [] := ⟨World.ownsRow_nil _ _ _ _, rfl, fun i h => absurd h (Nat.not_lt_zero _)⟩
theorem Acc.keep {w w' : World} {D : Nat} {sv : Value} {cs : List C3} {xs : List Sx} (h : Acc w D sv cs xs) (hb : Below w.heap.size w w') : Acc w' D sv cs xs :=
  ⟨own_kept h.own (Kept.of_below (S := fun _ => False) hb) (fun _ _ h => h), h.len, fun i hi => (h.kids i hi).keep hb⟩
theorem Acc.kept {w w' : World} {K : Nat → Prop} {D : Nat} {sv : Value} {cs : List C3} {xs : List Sx} (h : Acc w D sv cs xs) (hk : Kept K w w') (hK : ∀ b, D ≤ b → b < w.heap.size → ¬ K b) : Acc w' D sv cs xs :=
  ⟨own_kept h.own hk (fun g hg => hK g (h.own.lt g hg).1 (h.own.lt g hg).2), h.len, fun i hi => (h.kids i hi).kept hk fun b hb hs => hK b hs.1 hb⟩
theorem Acc.push {w w' : World} {D g cap : Nat} {sv : Value} {cs : List C3} {xs : List Sx} {y : C3} {x : Sx} (h : Acc w D sv cs xs) (hy : Lies (fun b => D ≤ b ∧ sv.ownBlock ≠ some b) w y.val x)
    (hown : w'.ownsRow D 26 3 (.slice (some ⟨g, 0, none⟩) (cs.length + 1) cap) (cs.length + 1) (cs.flatMap C3.cells ++ y.cells)) (hg : w.grownBy w' sv.ownBlock) (hat : sv.ownBlock = some g ∨ g = w.heap.size) :
    Acc w' D (.slice (some ⟨g, 0, none⟩) (cs.length + 1) cap) (cs ++ [y]) (xs ++ [x]) := by
  have hS : ∀ {v : Value} {z : Sx}, Lies (fun b => D ≤ b ∧ sv.ownBlock ≠ some b) w v z → Lies (fun b => D ≤ b ∧ (Value.slice (some ⟨g, 0, none⟩) (cs.length + 1) cap).ownBlock ≠ some b) w' v z := fun hl => by
    have h1 := hl.mono (S' := fun b => (D ≤ b ∧ g ≠ b) ∧ sv.ownBlock ≠ some b) (fun b hb hs => ⟨⟨hs.1, fun e => by
      subst e
      rcases hat with hat | hat
      · exact hs.2 hat
      · omega⟩, hs.2⟩)
    have h2 := h1.grown hg (fun b _ hs e => hs.2 e.symm)
    exact h2.mono fun b _ hs => ⟨hs.1.1, fun e => hs.1.2 (by simpa [Value.ownBlock] using e)⟩
  refine ⟨?_, by rw [List.length_append, List.length_append, h.len]; rfl, fun i hi => ?_⟩
  · rw [List.length_append, List.length_singleton, List.flatMap_append]
    simpa using hown
  · rcases Nat.lt_or_ge i cs.length with h1 | h1
    · rw [List.getElem_append_left h1, List.getElem_append_left (h.len ▸ h1)]
      exact hS (h.kids i h1)
    · rw [List.length_append, List.length_singleton] at hi
      obtain rfl : i = cs.length := by omega
      rw [List.getElem_append_right (Nat.le_refl _), List.getElem_append_right (by rw [h.len]; exact Nat.le_refl _)]
      simpa using hS hy
/-- What another call made while the row stood is no part of it. -/
theorem Acc.child {w w' : World} {D : Nat} {sv v : Value} {cs : List C3} {xs : List Sx} {x : Sx} (h : Acc w D sv cs xs) (hD : D ≤ w.heap.size) (hl : Lies (fun b => w.heap.size ≤ b) w' v x) : Lies (fun b => D ≤ b ∧ sv.ownBlock ≠ some b) w' v x :=
  hl.mono fun b _ hb => ⟨Nat.le_trans hD hb, fun e => by have := (h.own.lt b e).2; omega⟩
theorem Acc.lies {w : World} {D : Nat} {sv : Value} {cs : List C3} {xs : List Sx} (h : Acc w D sv cs xs) (hn : xs.length < 9223372036854775807) : Lies (fun b => D ≤ b) w (.agg #[.int .i8 3, .string ⟨#[]⟩, sv]) (.mk 3 [] xs) := by
  have kids : ∀ i (h2 : i < (cs.map C3.val).length), Lies (fun b => D ≤ b) w (cs.map C3.val)[i] (xs[i]'(by rw [← h.len]; simpa using h2)) := fun i h2 => by
    rw [List.getElem_map]
    exact (h.kids i (by simpa using h2)).mono fun b _ hs => hs.1
  have hlen : (cs.map C3.val).length = xs.length := by rw [List.length_map, h.len]
  rcases Nat.eq_zero_or_pos cs.length with h0 | h0
  · have hx : xs = [] := List.eq_nil_of_length_eq_zero (by rw [← h.len]; exact h0)
    rcases h.own.2 with ⟨rfl, _⟩ | ⟨g, cap, cur, rfl, hb, hg, hc, _⟩
    · subst hx
      exact Lies.mk (S := fun b => D ≤ b) (w := w) 3 ⟨#[]⟩ none 0 (cs.map C3.val) [] hlen (Nat.le_refl _) (fun _ => rfl) (by decide) (.inl rfl) kids
    · have := Lies.mk (S := fun b => D ≤ b) (w := w) 3 ⟨#[]⟩ (some ⟨g, 0, none⟩) cap (cs.map C3.val) xs hlen (by rw [← h.len]; exact hc) (fun e => by cases e) (Nat.le_of_lt hn) (.inl hx) kids
      rw [← h.len] at this
      exact this
  · obtain ⟨g, cap, rfl, hD, hlt, hc⟩ := own_form h.own h0
    have hown := h.own
    have := Lies.mk (S := fun b => D ≤ b) (w := w) 3 ⟨#[]⟩ (some ⟨g, 0, none⟩) cap (cs.map C3.val) xs hlen (by rw [← h.len]; exact hc) (fun e => by cases e) (Nat.le_of_lt hn) (.inr ⟨g, 0, rfl, hD, hlt, fun i hi => ?_⟩) kids
    · rw [← h.len] at this
      exact this
    · have hic : i < cs.length := by simpa using hi
      rw [List.getElem_map, Nat.zero_add]
      exact ⟨_, _, _, rfl, (own_cell C3.cells C3.cells_len hown (j := 0) hic (by decide)).trans rfl, (own_cell C3.cells C3.cells_len hown (j := 1) hic (by decide)).trans rfl, (own_cell C3.cells C3.cells_len hown (j := 2) hic (by decide)).trans rfl⟩
end Go.Proofs.Ytephhendkmhggaa

/- The reference's Next by its ways; read where no list begins. -/
namespace Go.Proofs.Ytephhendkmhggaa
open Go.RowKit

theorem rnext_eof (s : ByteArray) (a : Int) (w : World) (hs : s.size ≤ 1000000) (n : Nat) (hn : startI s a = n) (h : (byts s).drop n = []) :
    Calls Try.prog 39 #[.string s, .int .i64 a] w fun e w' => e = .returned (.tuple #[.agg #[.int .i8 0, .string ⟨#[]⟩, .int .i64 0, .int .i64 0], .bool false, .int .i64 0]) ∧ Below w.heap.size w w' :=
  (rnext_ok s a w hs).mono fun e w' ⟨h1, h2⟩ => ⟨(by
    rw [hn] at h1
    rcases h1 with ⟨_, h1⟩ | ⟨h3, _⟩ | ⟨r, t, h3, _⟩
    · exact h1
    · exact absurd h h3
    · rw [h] at h3; cases h3), h2⟩
theorem rnext_bad (s : ByteArray) (a : Int) (w : World) (hs : s.size ≤ 1000000) (n : Nat) (hn : startI s a = n) (h : (byts s).drop n ≠ []) (ht : tok ((byts s).drop n) = none) :
    Calls Try.prog 39 #[.string s, .int .i64 a] w fun e w' => e = .returned (.tuple #[.agg #[.int .i8 0, .string ⟨#[]⟩, .int .i64 n, .int .i64 0], .bool false, .int .i64 20]) ∧ Below w.heap.size w w' :=
  (rnext_ok s a w hs).mono fun e w' ⟨h1, h2⟩ => ⟨(by
    rw [hn] at h1
    rcases h1 with ⟨h3, _⟩ | ⟨_, _, h1⟩ | ⟨r, t, h3, _⟩
    · exact absurd h3 h
    · exact h1
    · rw [ht] at h3; cases h3), h2⟩
theorem rnext_tok (s : ByteArray) (a : Int) (w : World) (hs : s.size ≤ 1000000) (n : Nat) (hn : startI s a = n) (r : Raw) (ht : tok ((byts s).drop n) = some r) :
    Calls Try.prog 39 #[.string s, .int .i64 a] w fun e w' => e = .returned (.tuple #[.agg #[.int .i8 r.k, .string ⟨r.t.toArray⟩, .int .i64 n, .int .i64 (n + r.n)], .bool true, .int .i64 0]) ∧ Below w.heap.size w w' :=
  (rnext_ok s a w hs).mono fun e w' ⟨h1, h2⟩ => ⟨(by
    rw [hn] at h1
    rcases h1 with ⟨h3, _⟩ | ⟨_, h3, _⟩ | ⟨r', t, h3, h4, h1⟩
    · rw [h3] at ht; cases ht
    · rw [ht] at h3; cases h3
    · rw [ht] at h3
      injection h3 with h3
      subst h3
      rw [h1, ← h4, Lib.mk_data]), h2⟩

theorem rnext_tokK (s : ByteArray) (a : Int) (w : World) (hs : s.size ≤ 1000000) (n : Nat) (hn : startI s a = n) (r : Raw) (ht : tok ((byts s).drop n) = some r) (k : Int) (hk : (r.k : Int) = k) (m : Int) (hm : (n : Int) + r.n = m) :
    Calls Try.prog 39 #[.string s, .int .i64 a] w fun e w' => e = .returned (.tuple #[.agg #[.int .i8 k, .string ⟨r.t.toArray⟩, .int .i64 n, .int .i64 m], .bool true, .int .i64 0]) ∧ Below w.heap.size w w' := by
  subst hk hm
  exact rnext_tok s a w hs n hn r ht
theorem next_tokK (s : ByteArray) (a : Int) (w : World) (hs : s.size ≤ 1000000) (n : Nat) (hn : startI s a = n) (r : Raw) (ht : tok ((byts s).drop n) = some r) (k : Int) (hk : (r.k : Int) = k) (m : Int) (hm : (n : Int) + r.n = m) :
    Calls Try.prog 37 #[.string s, .int .i64 a] w fun e w' => e = .returned (.tuple #[.agg #[.int .i8 k, .string ⟨r.t.toArray⟩, .int .i64 n, .int .i64 m], .bool true, .int .i64 0]) ∧ Below w.heap.size w w' := by
  subst hk hm
  exact next_tok s a w hs n hn r ht
def zeroX : Value := .agg #[.int .i8 0, .string ⟨#[]⟩, .slice none 0 0]
/-- What a reader hands over. -/
def RdIs (S : Nat → Prop) (w' : World) (r : Rd) (e : Ending) : Prop := match r with
  | .ok x q => ∃ v, Lies S w' v x ∧ e = .returned (.tuple #[v, .int .i64 q, .int .i64 0])
  | .err q c => e = .returned (.tuple #[zeroX, .int .i64 q, .int .i64 c])
theorem Lies.leaf (S : Nat → Prop) (w : World) (k : Int) (t : List UInt8) : Lies S w (.agg #[.int .i8 k, .string ⟨t.toArray⟩, .slice none 0 0]) (.mk k t []) :=
  Lies.mk (S := S) (w := w) k ⟨t.toArray⟩ none 0 [] [] rfl (Nat.le_refl _) (fun _ => rfl) (by decide) (.inl rfl) (fun i hi => absurd hi (Nat.not_lt_zero _))

theorem blk3 {w : World} {b : Nat} {t : TypeId} {c0 c1 c2 : Value} (h : Blk w b t #[c0, c1, c2]) :
    w.cell? ⟨b, 0, none⟩ = some c0 ∧ w.cell? ⟨b, 1, none⟩ = some c1 ∧ w.cell? ⟨b, 2, none⟩ = some c2 ∧ w.frozen? ⟨b, 0, none⟩ = false ∧ w.frozen? ⟨b, 1, none⟩ = false ∧ w.frozen? ⟨b, 2, none⟩ = false :=
  ⟨h.cell 0, h.cell 1, h.cell 2, h.frozen 0, h.frozen 1, h.frozen 2⟩
theorem Blk.set3 {w : World} {b : Nat} {t : TypeId} {c0 c1 c2 : Value} (h : Blk w b t #[c0, c1, c2]) (d0 d1 d2 : Value) :
    Blk (((w.setCell ⟨b, 0, none⟩ d0).setCell ⟨b, 1, none⟩ d1).setCell ⟨b, 2, none⟩ d2) b t #[d0, d1, d2] := ((h.set_ 0 d0).set_ 1 d1).set_ 2 d2

set_option maxRecDepth 100000 in
theorem read_eof (s : ByteArray) (a : Int) (w : World) (hs : s.size ≤ 1000000) (n : Nat) (hn : startI s a = n) (h : (byts s).drop n = []) :
    Calls Try.prog 26 #[.string s, .int .i64 a] w fun e w' => e = .returned (.tuple #[zeroX, .int .i64 s.size, .int .i64 21]) ∧ Below w.heap.size w w' := by
  have hb0 := Blk.new w 26 #[.int .i8 0, .string ⟨#[]⟩, .slice none 0 0]
  have hB0 : Below w.heap.size w (w.alloc (.cells #[.int .i8 0, .string ⟨#[]⟩, .slice none 0 0] 26)) := (Below.refl _ w).alloc (Nat.le_refl _) _
  go_enter Try.func26, Try.ntmps26
  go_wp2_with (go_at_call 39; refine (rnext_eof s a _ hs n hn h).mono ?_; rintro e w1 ⟨rfl, hb1⟩; have hB := hB0.trans (hb1.mono (by simp)); have hne : w.heap.size ≠ w1.heap.size := Nat.ne_of_lt (Nat.lt_of_lt_of_le (by simp) hb1.size); have hne2 := hne.symm; have hR := (hb0.below hb1 hb0.lt).alloc (.cells #[.int .i8 0, .string ⟨#[]⟩, .int .i64 0, .int .i64 0] 62); obtain ⟨x0, x1, x2, f0, f1, f2⟩ := blk3 hR)
  have hb2 := hR.set3 (.int .i8 0) (.string ⟨#[]⟩) (.slice none 0 0)
  obtain ⟨y0, y1, y2, _⟩ := blk3 hb2
  refine bodyPost_ret (v := .tuple #[zeroX, .int .i64 s.size, .int .i64 21]) ?_ rfl ⟨rfl, ?_⟩
  · simp [zeroX, results, Try.results26, go_sem, y0, y1, y2]
  · have hfin := (((hB.alloc hB.size (.cells #[.int .i8 0, .string ⟨#[]⟩, .int .i64 0, .int .i64 0] 62)).setCell (p := ⟨w.heap.size, 0, none⟩) (Nat.le_refl _) (.int .i8 0)).setCell (p := ⟨w.heap.size, 1, none⟩) (Nat.le_refl _) (.string ⟨#[]⟩)).setCell (p := ⟨w.heap.size, 2, none⟩) (Nat.le_refl _) (.slice none 0 0)
    exact ⟨hfin.os, hfin.tape, hfin.output, hfin.size, hfin.block⟩

set_option maxRecDepth 100000 in
theorem read_bad (s : ByteArray) (a : Int) (w : World) (hs : s.size ≤ 1000000) (n : Nat) (hn : startI s a = n) (h : (byts s).drop n ≠ []) (ht : tok ((byts s).drop n) = none) :
    Calls Try.prog 26 #[.string s, .int .i64 a] w fun e w' => e = .returned (.tuple #[zeroX, .int .i64 n, .int .i64 20]) ∧ Below w.heap.size w w' := by
  have hb0 := Blk.new w 26 #[.int .i8 0, .string ⟨#[]⟩, .slice none 0 0]
  have hB0 : Below w.heap.size w (w.alloc (.cells #[.int .i8 0, .string ⟨#[]⟩, .slice none 0 0] 26)) := (Below.refl _ w).alloc (Nat.le_refl _) _
  go_enter Try.func26, Try.ntmps26
  go_wp2_with (go_at_call 39; refine (rnext_bad s a _ hs n hn h ht).mono ?_; rintro e w1 ⟨rfl, hb1⟩; have hB := hB0.trans (hb1.mono (by simp)); have hne : w.heap.size ≠ w1.heap.size := Nat.ne_of_lt (Nat.lt_of_lt_of_le (by simp) hb1.size); have hne2 := hne.symm; have hR := (hb0.below hb1 hb0.lt).alloc (.cells #[.int .i8 0, .string ⟨#[]⟩, .int .i64 n, .int .i64 0] 62); obtain ⟨x0, x1, x2, f0, f1, f2⟩ := blk3 hR)
  go_region
  go_wp2
  have hb2 := hR.set3 (.int .i8 0) (.string ⟨#[]⟩) (.slice none 0 0)
  obtain ⟨y0, y1, y2, _⟩ := blk3 hb2
  refine bodyPost_ret (v := .tuple #[zeroX, .int .i64 n, .int .i64 20]) ?_ rfl ⟨rfl, ?_⟩
  · simp [zeroX, results, Try.results26, go_sem, y0, y1, y2]
  · have hfin := (((hB.alloc hB.size (.cells #[.int .i8 0, .string ⟨#[]⟩, .int .i64 n, .int .i64 0] 62)).setCell (p := ⟨w.heap.size, 0, none⟩) (Nat.le_refl _) (.int .i8 0)).setCell (p := ⟨w.heap.size, 1, none⟩) (Nat.le_refl _) (.string ⟨#[]⟩)).setCell (p := ⟨w.heap.size, 2, none⟩) (Nat.le_refl _) (.slice none 0 0)
    exact ⟨hfin.os, hfin.tape, hfin.output, hfin.size, hfin.block⟩

set_option maxRecDepth 100000 in
theorem read_close (s : ByteArray) (a : Int) (w : World) (hs : s.size ≤ 1000000) (n : Nat) (hn : startI s a = n) (r : Raw) (ht : tok ((byts s).drop n) = some r) (hk : r.k = 1) :
    Calls Try.prog 26 #[.string s, .int .i64 a] w fun e w' => e = .returned (.tuple #[zeroX, .int .i64 n, .int .i64 20]) ∧ Below w.heap.size w w' := by
  obtain ⟨m, hm⟩ : ∃ m : Int, (n : Int) + r.n = m := ⟨_, rfl⟩
  have hb0 := Blk.new w 26 #[.int .i8 0, .string ⟨#[]⟩, .slice none 0 0]
  have hB0 : Below w.heap.size w (w.alloc (.cells #[.int .i8 0, .string ⟨#[]⟩, .slice none 0 0] 26)) := (Below.refl _ w).alloc (Nat.le_refl _) _
  go_enter Try.func26, Try.ntmps26
  go_wp2_with (go_at_call 39; refine (rnext_tokK s a _ hs n hn r ht 1 (by rw [hk]; rfl) m hm).mono ?_; rintro e w1 ⟨rfl, hb1⟩; have hB := hB0.trans (hb1.mono (by simp)); have hne : w.heap.size ≠ w1.heap.size := Nat.ne_of_lt (Nat.lt_of_lt_of_le (by simp) hb1.size); have hne2 := hne.symm; have hR := (hb0.below hb1 hb0.lt).alloc (.cells #[.int .i8 1, .string ⟨r.t.toArray⟩, .int .i64 n, .int .i64 m] 62); obtain ⟨x0, x1, x2, f0, f1, f2⟩ := blk3 hR)
  go_region
  go_wp2
  have hb2 := hR.set3 (.int .i8 0) (.string ⟨#[]⟩) (.slice none 0 0)
  obtain ⟨y0, y1, y2, _⟩ := blk3 hb2
  refine bodyPost_ret (v := .tuple #[zeroX, .int .i64 n, .int .i64 20]) ?_ rfl ⟨rfl, ?_⟩
  · simp [zeroX, results, Try.results26, go_sem, y0, y1, y2]
  · have hfin := (((hB.alloc hB.size (.cells #[.int .i8 1, .string ⟨r.t.toArray⟩, .int .i64 n, .int .i64 m] 62)).setCell (p := ⟨w.heap.size, 0, none⟩) (Nat.le_refl _) (.int .i8 0)).setCell (p := ⟨w.heap.size, 1, none⟩) (Nat.le_refl _) (.string ⟨#[]⟩)).setCell (p := ⟨w.heap.size, 2, none⟩) (Nat.le_refl _) (.slice none 0 0)
    exact ⟨hfin.os, hfin.tape, hfin.output, hfin.size, hfin.block⟩
end Go.Proofs.Ytephhendkmhggaa

/- read at a leaf. -/
namespace Go.Proofs.Ytephhendkmhggaa
open Go.RowKit

theorem blk4 {w : World} {b : Nat} {t : TypeId} {c0 c1 c2 c3 : Value} (h : Blk w b t #[c0, c1, c2, c3]) :
    w.cell? ⟨b, 0, none⟩ = some c0 ∧ w.cell? ⟨b, 1, none⟩ = some c1 ∧ w.cell? ⟨b, 2, none⟩ = some c2 ∧ w.cell? ⟨b, 3, none⟩ = some c3 :=
  ⟨h.cell 0, h.cell 1, h.cell 2, h.cell 3⟩

set_option maxHeartbeats 1000000 in
set_option maxRecDepth 100000 in
theorem read_leaf (s : ByteArray) (a : Int) (w : World) (hs : s.size ≤ 1000000) (n : Nat) (hn : startI s a = n) (r : Raw) (ht : tok ((byts s).drop n) = some r) (h0 : r.k ≠ 0) (h1 : r.k ≠ 1) :
    Calls Try.prog 26 #[.string s, .int .i64 a] w fun e w' => e = .returned (.tuple #[.agg #[.int .i8 (leafK r.k), .string ⟨r.t.toArray⟩, .slice none 0 0], .int .i64 (n + r.n : Nat), .int .i64 0]) ∧ Below w.heap.size w w' := by
  rw [Int.natCast_add]
  obtain ⟨m, hm⟩ : ∃ m : Int, (n : Int) + r.n = m := ⟨_, rfl⟩
  have b1 : ((r.k : Int) == 1) = false := beq_eq_false_iff_ne.2 (by omega)
  have b0 : ((r.k : Int) != 0) = true := bne_iff_ne.2 (by omega)
  rw [hm]
  have hb0 := Blk.new w 26 #[.int .i8 0, .string ⟨#[]⟩, .slice none 0 0]
  have hB0 : Below w.heap.size w (w.alloc (.cells #[.int .i8 0, .string ⟨#[]⟩, .slice none 0 0] 26)) := (Below.refl _ w).alloc (Nat.le_refl _) _
  go_enter Try.func26, Try.ntmps26
  go_wp2_with (go_at_call 39; refine (rnext_tokK s a _ hs n hn r ht r.k rfl m hm).mono ?_; rintro e w1 ⟨rfl, hb1⟩; have hB := hB0.trans (hb1.mono (by simp)); have hne : w.heap.size ≠ w1.heap.size := Nat.ne_of_lt (Nat.lt_of_lt_of_le (by simp) hb1.size); have hne2 := hne.symm; have hR := (hb0.below hb1 hb0.lt).alloc (.cells #[.int .i8 r.k, .string ⟨r.t.toArray⟩, .int .i64 n, .int .i64 m] 62); obtain ⟨x0, x1, x2, f0, f1, f2⟩ := blk3 hR; have hT := Blk.new w1 62 #[.int .i8 r.k, .string ⟨r.t.toArray⟩, .int .i64 n, .int .i64 m]; obtain ⟨z0, z1, z2, z3⟩ := blk4 hT)
  go_region_with (go_at_call 40; refine (leaf_ok r.k ⟨r.t.toArray⟩ n m).mono ?_; rintro e w2 ⟨rfl, hb2⟩; have hR2 : Blk w2 w.heap.size 26 #[.int .i8 0, .string ⟨#[]⟩, .slice none 0 0] := (hb2.block _ hR.lt).trans hR; have hT2 : Blk w2 w1.heap.size 62 #[.int .i8 r.k, .string ⟨r.t.toArray⟩, .int .i64 n, .int .i64 m] := (hb2.block _ hT.lt).trans hT; obtain ⟨x0, x1, x2, f0, f1, f2⟩ := blk3 hR2; obtain ⟨z0, z1, z2, z3⟩ := blk4 hT2; have hB2 : Below w.heap.size w w2 := (hB.alloc hB.size (.cells #[.int .i8 r.k, .string ⟨r.t.toArray⟩, .int .i64 n, .int .i64 m] 62)).trans ⟨hb2.os, hb2.tape, hb2.output, hb2.size, fun k hk => hb2.block k (Nat.lt_of_lt_of_le hk (hB.alloc hB.size _).size)⟩)
  all_goals go_wp2
  all_goals
    have hb3 := hR2.set3 (.int .i8 (leafK r.k)) (.string ⟨r.t.toArray⟩) (.slice none 0 0)
    obtain ⟨y0, y1, y2, _⟩ := blk3 hb3
    refine bodyPost_ret (v := .tuple #[.agg #[.int .i8 (leafK r.k), .string ⟨r.t.toArray⟩, .slice none 0 0], .int .i64 m, .int .i64 0]) ?_ rfl ⟨rfl, ?_⟩
    · simp [results, Try.results26, go_sem, y0, y1, y2]
    · have hfin := ((hB2.setCell (p := ⟨w.heap.size, 0, none⟩) (Nat.le_refl _) (.int .i8 (leafK r.k))).setCell (p := ⟨w.heap.size, 1, none⟩) (Nat.le_refl _) (.string ⟨r.t.toArray⟩)).setCell (p := ⟨w.heap.size, 2, none⟩) (Nat.le_refl _) (.slice none 0 0)
      exact ⟨hfin.os, hfin.tape, hfin.output, hfin.size, hfin.block⟩
end Go.Proofs.Ytephhendkmhggaa

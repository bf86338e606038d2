/- A step read: the walk. -/
import Derived.Test.YtiklliiamljogaaGreatDoorPfW
import Derived.Test.YtiklliiamljogaaGreatDoorQuiet
import Derived.Deep.RegionHeld3
namespace Go.Proofs.YtiklliiamljogaaGreatDoor
open Go.RowKit
open Go.Maps (Keyed)
attribute [local go_sem] Oper.semAt_some

theorem sym_lie (S : Nat → Prop) (w : World) (s : ByteArray) : Lies S w (.agg #[.int .i8 0, .string s, .slice none 0 0]) (symS (byts s)) :=
  Lies.mk (S := S) (w := w) 0 s none 0 [] [] rfl (Nat.le_refl _) (fun _ => rfl) (by decide) (.inl rfl) (fun i hi => absurd hi (Nat.not_lt_zero _))
theorem head_empty (k : Int) (t : List UInt8) : Sx.head (.mk k t []) = [] := by
  unfold Sx.head
  dsimp only
  exact ite_self _
/-- x.L[1:n+1]. -/
theorem kids_mid {b off : Nat} {l : List Sx} {c n : Nat} (h : l.length = n + 2) (hc : l.length ≤ c) : (∀ W, (Instr.sliceAt 26 (.slice (some ⟨b, off, none⟩) l.length c) (some (.int .i64 1)) (some (.int .i64 ((n : Int) + 1))) none).run Tryz.prog W = .ok (.slice (some ⟨b, off + 3, none⟩) n (c - 1)) W) ∧
    ∀ S W, Kids S W (some ⟨b, off, none⟩) l → Kids S W (some ⟨b, off + 3, none⟩) (l.tail.take n) := by
  refine ⟨fun W => ?_, fun S W hk i hi => ?_⟩
  · have t1 : (0 : Int) ≤ (n : Int) + 1 := by omega
    have t2 : (n : Int) + 1 ≤ (c : Int) := by omega
    have t3 : (1 : Int) ≤ (n : Int) + 1 := by omega
    have t4 : c ≠ 1 := by omega
    simp [go_sem, t2, t3, t4]
  · rw [List.length_take, List.length_tail] at hi
    obtain ⟨b', off', k, t, B, m, d, e, hS, hlt, h0, h1, h2, hy⟩ := hk (i + 1) (by omega)
    injection e with e
    injection e with e1 e2
    subst e1 e2
    rw [show off + (i + 1) * 3 = off + 3 + i * 3 by omega] at h0 h1 h2
    refine ⟨b, off + 3, k, t, B, m, d, rfl, hS, hlt, h0, h1, h2, ?_⟩
    rw [List.getElem_take, List.getElem_tail]
    exact hy
theorem headD_get : ∀ (l : List Sx) (h : 0 < l.length), l.headD noSx = l[0]
  | [], h => absurd h (Nat.lt_irrefl 0)
  | _ :: _, _ => rfl
theorem sym_of (S : Nat → Prop) (w : World) (H : List UInt8) : Lies S w (.agg #[.int .i8 0, .string ⟨H.toArray⟩, .slice none 0 0]) (symS H) := by
  have := sym_lie S w ⟨H.toArray⟩
  rwa [show byts (⟨H.toArray⟩ : ByteArray) = H by simp [byts]] at this
theorem head_is {v : Value} {w : World} {H : List UInt8} (h : Calls Tryz.prog 59 #[v] w fun e w' => (∃ s, e = .returned (.string s) ∧ byts s = H) ∧ Below w.heap.size w w') : Calls Tryz.prog 59 #[v] w fun e w' => e = .returned (.string ⟨H.toArray⟩) ∧ Below w.heap.size w w' := by
  refine h.mono ?_
  rintro e w' ⟨⟨s, rfl, hs⟩, hb⟩
  refine ⟨?_, hb⟩
  rw [← hs]
theorem step_cells {w w1 : World} {b off g : Nat} {c0 c1 c2 d0 d1 d2 : Value} {P : Prop} (h : w1.cell? ⟨g, 0, none⟩ = some d0 ∧ w1.cell? ⟨g, 1, none⟩ = some d1 ∧ w1.cell? ⟨g, 2, none⟩ = some d2 ∧ P) (hlt : b < w.heap.size) (hb : Below w.heap.size w w1)
    (h0 : w.cell? ⟨b, off, none⟩ = some c0) (h1 : w.cell? ⟨b, off + 1, none⟩ = some c1) (h2 : w.cell? ⟨b, off + 2, none⟩ = some c2) :
    w1.cell? ⟨g, 0, none⟩ = some d0 ∧ w1.cell? ⟨g, 1, none⟩ = some d1 ∧ w1.cell? ⟨g, 2, none⟩ = some d2 ∧ w1.cell? ⟨b, off, none⟩ = some c0 ∧ w1.cell? ⟨b, off + 1, none⟩ = some c1 ∧ w1.cell? ⟨b, off + 2, none⟩ = some c2 :=
  ⟨h.1, h.2.1, h.2.2.1, (hb.cell (p := ⟨b, off, none⟩) hlt).trans h0, (hb.cell (p := ⟨b, off + 1, none⟩) hlt).trans h1, (hb.cell (p := ⟨b, off + 2, none⟩) hlt).trans h2⟩
def zeroC4 : C4 := ⟨0, 0, 0, none, 0, 0⟩
/-- What step hands over. -/
def StepIs (D : Nat) (o : Option Stp) (w' : World) (e : Ending) : Prop := match o with
  | some s => ∃ y : C4, e = .returned (.tuple #[y.val, .bool true]) ∧ Is4 w' y s ∧ ∀ p, y.A = some p → D ≤ p.block ∧ p.block < w'.heap.size
  | none => ∃ y : C4, e = .returned (.tuple #[y.val, .bool false])
def StepOut (x : Sx) (w w' : World) (e : Ending) : Prop := StepIs w.heap.size (stepP x) w' e ∧ Below w.heap.size w w'
theorem StepOut.no {x : Sx} {w w' : World} {e : Ending} (h : stepP x = none) (y : C4) (he : e = .returned (.tuple #[y.val, .bool false])) (hb : Below w.heap.size w w') : StepOut x w w' e := ⟨by rw [h]; exact ⟨y, he⟩, hb⟩

theorem kinds_look {w : World} {b : Nat} (h : MapAt Tryz.prog 9 w b 6 kindF) (s : ByteArray) (hs : s.size ≤ maxLen) :
    (Instr.lookup 86 (.map (some b)) (.string s) true).run Tryz.prog w = .ok (.tuple #[.int .i8 ((kindT (byts s)).getD 0), .bool (kindT (byts s)).isSome]) w := by
  have hz : (zeroValue 25).run Tryz.prog w = .ok (.int .i8 0) w := by kernel_rfl
  refine (h.look K9 Tryz.underlying86 hz (str_key hs) true).trans ?_
  unfold kindF
  dsimp only
  cases kindT (byts s) <;> rfl
theorem form_n {q : Nat} (h : q < 6) : formCells[q * 2 + 1]? = some (.int .i64 (manyK q)) := by
  have : q = 0 ∨ q = 1 ∨ q = 2 ∨ q = 3 ∨ q = 4 ∨ q = 5 := by omega
  rcases this with rfl | rfl | rfl | rfl | rfl | rfl <;> rfl

theorem Blk.set4 {w : World} {b : Nat} {t : TypeId} {c0 c1 c2 c3 : Value} (h : Blk w b t #[c0, c1, c2, c3]) (d0 d1 d2 d3 : Value) :
    Blk ((((w.setCell ⟨b, 0, none⟩ d0).setCell ⟨b, 1, none⟩ d1).setCell ⟨b, 2, none⟩ d2).setCell ⟨b, 3, none⟩ d3) b t #[d0, d1, d2, d3] := (((h.set_ 0 d0).set_ 1 d1).set_ 2 d2).set_ 3 d3
theorem blk4f {w : World} {b : Nat} {t : TypeId} {c0 c1 c2 c3 : Value} (h : Blk w b t #[c0, c1, c2, c3]) :
    w.frozen? ⟨b, 0, none⟩ = false ∧ w.frozen? ⟨b, 1, none⟩ = false ∧ w.frozen? ⟨b, 2, none⟩ = false ∧ w.frozen? ⟨b, 3, none⟩ = false :=
  ⟨h.frozen 0, h.frozen 1, h.frozen 2, h.frozen 3⟩
/-- The end without a step. -/
theorem step_end {X : Sx} {w w0 W w1 : World} (h0 : w0.heap.size = w.heap.size + 1) (hb : Below w.heap.size w W) (h1 : Below W.heap.size W w1) (hr : Blk w1 w0.heap.size 46 #[.int .i8 0, .int .i64 0, .int .i64 0, .slice none 0 0]) (hn : stepP X = none) :
    w1.cell? ⟨w0.heap.size, 0, none⟩ = some (.int .i8 0) ∧ w1.cell? ⟨w0.heap.size, 1, none⟩ = some (.int .i64 0) ∧ w1.cell? ⟨w0.heap.size, 2, none⟩ = some (.int .i64 0) ∧ w1.cell? ⟨w0.heap.size, 3, none⟩ = some (.slice none 0 0) ∧
    w1.frozen? ⟨w0.heap.size, 0, none⟩ = false ∧ w1.frozen? ⟨w0.heap.size, 1, none⟩ = false ∧ w1.frozen? ⟨w0.heap.size, 2, none⟩ = false ∧ w1.frozen? ⟨w0.heap.size, 3, none⟩ = false ∧
    ∃ w2, ((((w1.setCell ⟨w0.heap.size, 0, none⟩ (.int .i8 0)).setCell ⟨w0.heap.size, 1, none⟩ (.int .i64 0)).setCell ⟨w0.heap.size, 2, none⟩ (.int .i64 0)).setCell ⟨w0.heap.size, 3, none⟩ (.slice none 0 0)) = w2 ∧
      Blk w2 w0.heap.size 46 #[.int .i8 0, .int .i64 0, .int .i64 0, .slice none 0 0] ∧ StepOut X w w2 (.returned (.tuple #[.agg #[.int .i8 0, .int .i64 0, .int .i64 0, .slice none 0 0], .bool false])) := by
  obtain ⟨c0, c1, c2, c3⟩ := blk4 hr
  obtain ⟨f0, f1, f2, f3⟩ := blk4f hr
  refine ⟨c0, c1, c2, c3, f0, f1, f2, f3, _, rfl, hr.set4 _ _ _ _, StepOut.no hn zeroC4 rfl ?_⟩
  have hb1 : Below w.heap.size w w1 := below_then hb (Nat.le_refl _) h1
  exact ((((hb1.setCell (p := ⟨w0.heap.size, 0, none⟩) (by simp; omega) _).setCell (p := ⟨w0.heap.size, 1, none⟩) (by simp; omega) _).setCell (p := ⟨w0.heap.size, 2, none⟩) (by simp; omega) _).setCell (p := ⟨w0.heap.size, 3, none⟩) (by simp; omega) _)
/-- Where the numbers are told. -/
structure MidAt (w w0 W w7 w8 wp wq : World) (c0 c1 c2 : Value) (q : Int) : Prop where
  size : wq.heap.size = w7.heap.size + 2
  big : w.heap.size + 2 ≤ w7.heap.size
  at_ : w0.heap.size = w.heap.size + 1
  sp : w8.heap.size = w7.heap.size
  sq : wp.heap.size = w7.heap.size + 1
  box : Blk wq w.heap.size 28 #[c0, c1, c2]
  x2 : wq.cell? ⟨w.heap.size, 2, none⟩ = some c2
  res : Blk wq w0.heap.size 46 #[.int .i8 q, .int .i64 0, .int .i64 0, .slice none 0 0]
  ptr : Blk wq w7.heap.size 89 #[.pointer (some ⟨w0.heap.size, 1, none⟩), .pointer (some ⟨w0.heap.size, 2, none⟩)]
  ab : Blk wq (w7.heap.size + 1) 90 #[.slice (some ⟨w7.heap.size, 0, none⟩) 2 2]
  below : Below w0.heap.size W wq
theorem step_mid {w w0 W w7 : World} {c0 c1 c2 : Value} (h0 : w0.heap.size = w.heap.size + 1) (h2 : W.heap.size = w.heap.size + 2) (h7 : Below W.heap.size W w7) (hr : Blk w7 w0.heap.size 46 #[.int .i8 0, .int .i64 0, .int .i64 0, .slice none 0 0]) (hx : Blk w7 w.heap.size 28 #[c0, c1, c2]) (q : Int) :
    ∃ w8 wp wq, w7.setCell ⟨w0.heap.size, 0, none⟩ (.int .i8 q) = w8 ∧ w8.alloc (.cells #[.pointer (some ⟨w0.heap.size, 1, none⟩), .pointer (some ⟨w0.heap.size, 2, none⟩)] 89) = wp ∧ wp.alloc (.cells #[.slice (some ⟨w8.heap.size, 0, none⟩) 2 2] 90) = wq ∧ MidAt w w0 W w7 w8 wp wq c0 c1 c2 q := by
  refine ⟨_, _, _, rfl, rfl, rfl, ?_⟩
  have hs := h7.size
  have s8 : (w7.setCell ⟨w0.heap.size, 0, none⟩ (.int .i8 q)).heap.size = w7.heap.size := by simp [World.setCell]
  have h8 := hr.set_ 0 (.int .i8 q)
  have hx8 := hx.far (p := ⟨w0.heap.size, 0, none⟩) (show w.heap.size ≠ w0.heap.size by omega) (.int .i8 q)
  have h7' : Below w0.heap.size W w7 := h7.mono (by omega)
  have b8 : Below w0.heap.size W (w7.setCell ⟨w0.heap.size, 0, none⟩ (.int .i8 q)) := h7'.setCell (p := ⟨w0.heap.size, 0, none⟩) (Nat.le_refl _) _
  generalize w7.setCell ⟨w0.heap.size, 0, none⟩ (.int .i8 q) = w8 at *
  refine ⟨by simp; omega, by omega, h0, s8, by simp; omega, (hx8.alloc _).alloc _, ((hx8.alloc _).alloc _).cell 2, (h8.alloc _).alloc _, ?_, ?_, (b8.alloc (by omega) _).alloc (by simp; omega) _⟩
  · exact (Blk.new_at s8 _ _).alloc _
  · have := Blk.new_at (w := w8.alloc (.cells #[.pointer (some ⟨w0.heap.size, 1, none⟩), .pointer (some ⟨w0.heap.size, 2, none⟩)] 89)) (n := w7.heap.size + 1) (by simp; omega) 90 #[.slice (some ⟨w8.heap.size, 0, none⟩) 2 2]
    rw [s8] at this ⊢
    exact this
/-- The first loop's state; the result's cells lie at H1, the pointers at G, their slice's box at G + 1, the iterator's at G + 2, the loop's blocks behind. -/
structure S1 (w : World) (H1 G : Nat) (c0 c1 c2 sb : Value) (r : Loop) (q a b : Int) (ab : Value) (W : World) : Prop where
  loop : LoopAt W (G + 4) (G + 3) r
  sl : Blk W (G + 2) 26 #[sb]
  ab : Blk W (G + 1) 90 #[ab]
  ptr : Blk W G 89 #[.pointer (some ⟨H1, 1, none⟩), .pointer (some ⟨H1, 2, none⟩)]
  res : Blk W H1 46 #[.int .i8 q, .int .i64 a, .int .i64 b, .slice none 0 0]
  box : Blk W w.heap.size 28 #[c0, c1, c2]
  lt : w.heap.size < H1 ∧ H1 < G
  below : Below w.heap.size w W
theorem S1.keep {w W W' : World} {H1 G : Nat} {c0 c1 c2 sb ab : Value} {r : Loop} {q a b : Int} (h : S1 w H1 G c0 c1 c2 sb r q a b ab W) (hb : Below W.heap.size W W') : S1 w H1 G c0 c1 c2 sb r q a b ab W' :=
  ⟨h.loop.kept (Kept.of_below (S := fun _ => False) hb) (fun h => h) (fun h => h), h.sl.below hb h.sl.lt, h.ab.below hb h.ab.lt, h.ptr.below hb h.ptr.lt, h.res.below hb h.res.lt, h.box.below hb h.box.lt, h.lt, below_then h.below (Nat.le_refl _) hb⟩
theorem S1.put {w W : World} {H1 G : Nat} {c0 c1 c2 sb ab : Value} {r : Loop} {q a b : Int} (h : S1 w H1 G c0 c1 c2 sb r q a b ab W) (r' : Loop) : S1 w H1 G c0 c1 c2 sb r' q a b ab (W.putObj (G + 4) (.loop r')) := by
  have hk := Kept.putObj W (G + 4) (.loop r')
  have := h.loop.lt
  have := h.lt
  have := h.below.size
  exact ⟨h.loop.put r', h.sl.kept hk (by omega), h.ab.kept hk (by omega), h.ptr.kept hk (by omega), h.res.kept hk (by omega), h.box.kept hk (by omega), h.lt, h.below.trans (hk.below (by omega) (fun k hk => by omega))⟩
theorem S1.set_a {w W : World} {H1 G : Nat} {c0 c1 c2 sb ab : Value} {r : Loop} {q a b : Int} (h : S1 w H1 G c0 c1 c2 sb r q a b ab W) (x : Int) (ab' : Value) : S1 w H1 G c0 c1 c2 sb r q x b ab' ((W.setCell ⟨H1, 1, none⟩ (.int .i64 x)).setCell ⟨G + 1, 0, none⟩ ab') := by
  have hk : Kept (fun i => i = H1 ∨ i = G + 1) W ((W.setCell ⟨H1, 1, none⟩ (.int .i64 x)).setCell ⟨G + 1, 0, none⟩ ab') := ((Kept.refl _ W).setCell (p := ⟨H1, 1, none⟩) (.inl (.inl rfl)) _).setCell (p := ⟨G + 1, 0, none⟩) (.inl (.inr rfl)) _
  have := h.loop.lt
  have := h.lt
  have := h.below.size
  refine ⟨h.loop.kept hk (by omega) (by omega), h.sl.kept hk (by omega), ?_, h.ptr.kept hk (by omega), ?_, h.box.kept hk (by omega), h.lt, h.below.trans (hk.below (by omega) (fun k hk => by omega))⟩
  · exact (h.ab.far (p := ⟨H1, 1, none⟩) (show G + 1 ≠ H1 by omega) _).set_ 0 _
  · exact (h.res.set_ 1 _).far (p := ⟨G + 1, 0, none⟩) (show H1 ≠ G + 1 by omega) _
theorem S1.set_b {w W : World} {H1 G : Nat} {c0 c1 c2 sb ab : Value} {r : Loop} {q a b : Int} (h : S1 w H1 G c0 c1 c2 sb r q a b ab W) (x : Int) (ab' : Value) : S1 w H1 G c0 c1 c2 sb r q a x ab' ((W.setCell ⟨H1, 2, none⟩ (.int .i64 x)).setCell ⟨G + 1, 0, none⟩ ab') := by
  have hk : Kept (fun i => i = H1 ∨ i = G + 1) W ((W.setCell ⟨H1, 2, none⟩ (.int .i64 x)).setCell ⟨G + 1, 0, none⟩ ab') := ((Kept.refl _ W).setCell (p := ⟨H1, 2, none⟩) (.inl (.inl rfl)) _).setCell (p := ⟨G + 1, 0, none⟩) (.inl (.inr rfl)) _
  have := h.loop.lt
  have := h.lt
  have := h.below.size
  refine ⟨h.loop.kept hk (by omega) (by omega), h.sl.kept hk (by omega), ?_, h.ptr.kept hk (by omega), ?_, h.box.kept hk (by omega), h.lt, h.below.trans (hk.below (by omega) (fun k hk => by omega))⟩
  · exact (h.ab.far (p := ⟨H1, 2, none⟩) (show G + 1 ≠ H1 by omega) _).set_ 0 _
  · exact (h.res.set_ 2 _).far (p := ⟨G + 1, 0, none⟩) (show H1 ≠ G + 1 by omega) _
theorem S1.new {w w0 W w7 w8 wp wq : World} {c0 c1 c2 sb : Value} {q : Int} (h : MidAt w w0 W w7 w8 wp wq c0 c1 c2 q) (hb : Below w.heap.size w W) (r : Loop) : S1 w w0.heap.size w7.heap.size c0 c1 c2 sb r q 0 0 (.slice (some ⟨w7.heap.size, 0, none⟩) 2 2) (((wq.alloc (.cells #[sb] 26)).alloc (.deferred (some []))).alloc (.loop r)) := by
  have h1 := h.size
  have h2 := h.big
  have h3 := h.at_
  have hl := LoopAt.new (wq.alloc (.cells #[sb] 26)) r
  rw [show (wq.alloc (.cells #[sb] 26)).heap.size = w7.heap.size + 3 by simp; omega] at hl
  refine ⟨hl, ((Blk.new_at h1 _ _).alloc _).alloc _, ((h.ab.alloc _).alloc _).alloc _, ((h.ptr.alloc _).alloc _).alloc _, ((h.res.alloc _).alloc _).alloc _, ((h.box.alloc _).alloc _).alloc _, ⟨by omega, by omega⟩, ?_⟩
  exact (((hb.trans (h.below.mono (by omega))).alloc (by omega) _).alloc (by simp; omega) _).alloc (by simp; omega) _
/-- The second loop's state. -/
structure S2 (w : World) (H1 G G2 : Nat) (sb : Value) (r : Loop) (q a b : Int) (L : List Int) (W : World) : Prop where
  loop : LoopAt W (G2 + 2) (G2 + 1) r
  def1 : W.heap[G + 3]? = some (.deferred (some []))
  sl : Blk W G2 26 #[sb]
  own : ∃ lv, Blk W H1 46 #[.int .i8 q, .int .i64 a, .int .i64 b, lv] ∧ W.ownsRow (G + 5) 3 1 lv L.length (L.map (Value.int .i64))
  lt : w.heap.size < H1 ∧ H1 < G ∧ G + 5 ≤ G2
  below : Below w.heap.size w W
theorem S2.keep {w W W' : World} {H1 G G2 : Nat} {sb : Value} {r : Loop} {q a b : Int} {L : List Int} (h : S2 w H1 G G2 sb r q a b L W) (hb : Below W.heap.size W W') : S2 w H1 G G2 sb r q a b L W' := by
  obtain ⟨lv, h1, h2⟩ := h.own
  exact ⟨h.loop.kept (Kept.of_below (S := fun _ => False) hb) (fun h => h) (fun h => h), (hb.block _ (Array.getElem?_eq_some_iff.1 h.def1).1).trans h.def1, h.sl.below hb h.sl.lt, ⟨lv, h1.below hb h1.lt, own_kept h2 (Kept.of_below (S := fun _ => False) hb) (fun _ _ h => h)⟩, h.lt, below_then h.below (Nat.le_refl _) hb⟩
theorem S2.put {w W : World} {H1 G G2 : Nat} {sb : Value} {r : Loop} {q a b : Int} {L : List Int} (h : S2 w H1 G G2 sb r q a b L W) (r' : Loop) : S2 w H1 G G2 sb r' q a b L (W.putObj (G2 + 2) (.loop r')) := by
  obtain ⟨lv, h1, h2⟩ := h.own
  have hk := Kept.putObj W (G2 + 2) (.loop r')
  have := h.loop.lt
  have := h.lt
  have := h.below.size
  exact ⟨h.loop.put r', (hk.block _ (Array.getElem?_eq_some_iff.1 h.def1).1 (by omega)).trans h.def1, h.sl.kept hk (by omega), ⟨lv, h1.kept hk (by omega), own_kept h2 hk (fun g hg e => own_obj_ne h2 h.loop.rec_ (fun _ _ _ h => by cases h) (e ▸ hg))⟩, h.lt, h.below.trans (hk.below (by omega) (fun k hk => by omega))⟩
theorem S2.push {w W w1 : World} {H1 G G2 g cap : Nat} {sb lv : Value} {r : Loop} {q a b x : Int} {L : List Int} (h : S2 w H1 G G2 sb r q a b L W) (hb : Blk W H1 46 #[.int .i8 q, .int .i64 a, .int .i64 b, lv]) (ho : W.ownsRow (G + 5) 3 1 lv L.length (L.map (Value.int .i64)))
    (hown : w1.ownsRow (G + 5) 3 1 (.slice (some ⟨g, 0, none⟩) (L.length + 1) cap) (L.length + 1) (L.map (Value.int .i64) ++ [.int .i64 x])) (hg : (W.alloc (.cells #[.int .i64 x] 3)).grownBy w1 lv.ownBlock) :
    S2 w H1 G G2 sb r q a b (L ++ [x]) (w1.setCell ⟨H1, 3, none⟩ (.slice (some ⟨g, 0, none⟩) (L.length + 1) cap)) := by
  have b1 := (hb.alloc (.cells #[.int .i64 x] 3)).grown hg (fun e => own_blk_ne ho hb (by decide) e.symm)
  have k5 : Kept (fun i => i = H1 ∨ lv.ownBlock = some i) W (w1.setCell ⟨H1, 3, none⟩ (.slice (some ⟨g, 0, none⟩) (L.length + 1) cap)) :=
    (((Kept.refl _ W).alloc _).grown hg (fun k hk => .inl (.inr hk))).setCell (p := ⟨H1, 3, none⟩) (.inl (.inl rfl)) _
  have hl := h.lt
  have := h.loop.lt
  have := h.below.size
  have hobj : ∀ {i : Nat} {o : Obj}, W.heap[i]? = some o → (∀ c t f, o ≠ .cells c t f) → i ≠ H1 → ¬ (i = H1 ∨ lv.ownBlock = some i) := fun ho' hn hne hc => by
    rcases hc with hc | hc
    · exact hne hc
    · exact own_obj_ne ho ho' hn hc
  refine ⟨h.loop.kept k5 (hobj h.loop.rec_ (fun _ _ _ h => by cases h) (by omega)) (hobj h.loop.def_ (fun _ _ _ h => by cases h) (by omega)), (k5.block _ (Array.getElem?_eq_some_iff.1 h.def1).1 (hobj h.def1 (fun _ _ _ h => by cases h) (by omega))).trans h.def1, h.sl.kept k5 ?_, ⟨_, b1.set_ 3 _, ?_⟩, hl, h.below.trans (k5.below (by omega) (fun k hk => ?_))⟩
  · rintro (hc | hc)
    · omega
    · exact own_blk_ne ho h.sl (by decide) hc
  · rw [List.length_append, List.length_singleton, List.map_append]
    exact own_kept hown (Kept.set1 w1 H1 3 _) (fun k hk e => own_blk_ne hown b1 (by decide) (e ▸ hk))
  · rcases hk with hk | hk
    · omega
    · have := (ho.lt k hk).1; omega
theorem S2.new {w W : World} {H1 G : Nat} {c0 c1 c2 sb sb' ab : Value} {r : Loop} {q a b : Int} (h : S1 w H1 G c0 c1 c2 sb r q a b ab W) (r' : Loop) : S2 w H1 G W.heap.size sb' r' q a b [] (((W.alloc (.cells #[sb'] 26)).alloc (.deferred (some []))).alloc (.loop r')) := by
  have hl := LoopAt.new (W.alloc (.cells #[sb'] 26)) r'
  rw [show (W.alloc (.cells #[sb'] 26)).heap.size = W.heap.size + 1 by simp] at hl
  have h1 := h.loop.lt
  have h2 := h.lt
  have h3 := h.below.size
  have hb : Below W.heap.size W (((W.alloc (.cells #[sb'] 26)).alloc (.deferred (some []))).alloc (.loop r')) := (((Below.refl _ W).alloc (Nat.le_refl _) _).alloc (by simp) _).alloc (by simp; omega) _
  exact ⟨hl, (hb.block _ (by omega)).trans h.loop.def_, ((Blk.new W _ _).alloc _).alloc _, ⟨_, h.res.below hb h.res.lt, World.ownsRow_nil _ _ _ _⟩, ⟨h2.1, h2.2, by omega⟩, below_then h.below (Nat.le_refl _) hb⟩
theorem S2.finish {w W : World} {H1 G G2 : Nat} {sb lv : Value} {r : Loop} {q a b : Int} {L : List Int} (h : S2 w H1 G G2 sb r q a b L W) (hb : Blk W H1 46 #[.int .i8 q, .int .i64 a, .int .i64 b, lv]) (ho : W.ownsRow (G + 5) 3 1 lv L.length (L.map (Value.int .i64))) :
    ((((W.setCell ⟨H1, 0, none⟩ (.int .i8 q)).setCell ⟨H1, 1, none⟩ (.int .i64 a)).setCell ⟨H1, 2, none⟩ (.int .i64 b)).setCell ⟨H1, 3, none⟩ lv).heap[G2 + 1]? = some (.deferred (some [])) ∧
    (((((W.setCell ⟨H1, 0, none⟩ (.int .i8 q)).setCell ⟨H1, 1, none⟩ (.int .i64 a)).setCell ⟨H1, 2, none⟩ (.int .i64 b)).setCell ⟨H1, 3, none⟩ lv).putObj (G2 + 1) (.deferred none)).heap[G + 3]? = some (.deferred (some [])) ∧
    Blk ((((((W.setCell ⟨H1, 0, none⟩ (.int .i8 q)).setCell ⟨H1, 1, none⟩ (.int .i64 a)).setCell ⟨H1, 2, none⟩ (.int .i64 b)).setCell ⟨H1, 3, none⟩ lv).putObj (G2 + 1) (.deferred none)).putObj (G + 3) (.deferred none)) H1 46 #[.int .i8 q, .int .i64 a, .int .i64 b, lv] ∧
    ((((((W.setCell ⟨H1, 0, none⟩ (.int .i8 q)).setCell ⟨H1, 1, none⟩ (.int .i64 a)).setCell ⟨H1, 2, none⟩ (.int .i64 b)).setCell ⟨H1, 3, none⟩ lv).putObj (G2 + 1) (.deferred none)).putObj (G + 3) (.deferred none)).ownsRow (G + 5) 3 1 lv L.length (L.map (Value.int .i64)) ∧
    Below w.heap.size w ((((((W.setCell ⟨H1, 0, none⟩ (.int .i8 q)).setCell ⟨H1, 1, none⟩ (.int .i64 a)).setCell ⟨H1, 2, none⟩ (.int .i64 b)).setCell ⟨H1, 3, none⟩ lv).putObj (G2 + 1) (.deferred none)).putObj (G + 3) (.deferred none)) := by
  have hE : Kept (fun i => i = H1) W ((((W.setCell ⟨H1, 0, none⟩ (.int .i8 q)).setCell ⟨H1, 1, none⟩ (.int .i64 a)).setCell ⟨H1, 2, none⟩ (.int .i64 b)).setCell ⟨H1, 3, none⟩ lv) :=
    Kept.setCell (S := fun i => i = H1) (p := ⟨H1, 3, none⟩) (Kept.setCell (S := fun i => i = H1) (p := ⟨H1, 2, none⟩) (Kept.setCell (S := fun i => i = H1) (p := ⟨H1, 1, none⟩) (Kept.setCell (S := fun i => i = H1) (p := ⟨H1, 0, none⟩) (Kept.refl _ W) (.inl rfl) _) (.inl rfl) _) (.inl rfl) _) (.inl rfl) _
  have hB := hb.set4 (.int .i8 q) (.int .i64 a) (.int .i64 b) lv
  generalize (((W.setCell ⟨H1, 0, none⟩ (.int .i8 q)).setCell ⟨H1, 1, none⟩ (.int .i64 a)).setCell ⟨H1, 2, none⟩ (.int .i64 b)).setCell ⟨H1, 3, none⟩ lv = E at *
  have hl := h.lt
  have hll := h.loop.lt
  have hsz := h.below.size
  have hd2 : E.heap[G2 + 1]? = some (.deferred (some [])) := (hE.block _ (by omega) (by omega)).trans h.loop.def_
  have hd1 : E.heap[G + 3]? = some (.deferred (some [])) := (hE.block _ (Array.getElem?_eq_some_iff.1 h.def1).1 (by omega)).trans h.def1
  have ho1 := own_kept ho hE (fun g hg e => own_blk_ne ho hb (by decide) (e ▸ hg))
  have hes := hE.size
  have hbE : Below w.heap.size w E := h.below.trans (hE.below hsz (fun k hk => by omega))
  have hk2 := Kept.putObj E (G2 + 1) (.deferred none)
  have hd1' := (hk2.block _ (by omega) (by omega)).trans hd1
  have hB2 := hB.kept hk2 (by omega)
  have ho2 := own_kept ho1 hk2 (fun g hg e => own_obj_ne ho1 hd2 (fun _ _ _ h => by cases h) (e ▸ hg))
  have hbE2 : Below w.heap.size w (E.putObj (G2 + 1) (.deferred none)) := hbE.trans (hk2.below (by omega) (fun k hk => by omega))
  have hs2 := hk2.size
  generalize E.putObj (G2 + 1) (.deferred none) = E2 at *
  have hk1 := Kept.putObj E2 (G + 3) (.deferred none)
  exact ⟨hd2, hd1', hB2.kept hk1 (by omega), own_kept ho2 hk1 (fun g hg e => own_obj_ne ho2 hd1' (fun _ _ _ h => by cases h) (e ▸ hg)), hbE2.trans (hk1.below (by omega) (fun k hk => by omega))⟩
theorem take_snoc (L : List Int) (j : Nat) (h : j < L.length) : L.take j ++ [L.getD j 0] = L.take (j + 1) := by
  rw [List.take_succ_eq_append_getElem h, List.getD_eq_getElem?_getD, List.getElem?_eq_getElem h]
  rfl
theorem Lies.kids_of {S : Nat → Prop} {w : World} {B : Option Addr} {n c : Nat} {k : Int} {t : ByteArray} {x : Sx} (h : Lies S w (.agg #[.int .i8 k, .string t, .slice B n c]) x) : n = x.kids.length ∧ Kids S w B x.kids := by
  obtain ⟨k', T, l⟩ := x
  obtain ⟨t', A', c', hv, _, _, _, _, hk⟩ := h.open_
  injection hv with e
  injection e with e
  injection e with _ e
  injection e with _ e
  injection e with e2 e
  injection e2 with a1 a2 a3
  subst a1
  exact ⟨a2, hk⟩
theorem row_of_own {w : World} {base : Nat} {A : Option Addr} {c : Nat} {L : List Int} (h : w.ownsRow base 3 1 (.slice A L.length c) L.length (L.map (Value.int .i64))) (hl : L.length ≤ 1000000) : Row .i64 w A L ∧ L.length ≤ c ∧ (A = none → c = 0) ∧ ∀ p, A = some p → base ≤ p.block ∧ p.block < w.heap.size := by
  rcases own_cases h rfl with ⟨hv, h0⟩ | ⟨g, c', hv, hown, hg, hcap⟩
  · injection hv with a1 a2 a3
    subst a1 a3
    exact ⟨⟨hl, .inl (by rw [h0]; rfl)⟩, by rw [h0]; exact Nat.le_refl _, fun _ => rfl, fun p hp => by cases hp⟩
  · injection hv with a1 a2 a3
    subst a1 a3
    exact ⟨hown.row hl, hcap, fun h => (by cases h), fun p hp => (by injection hp with hp; rw [← hp]; exact ⟨hg, own_lt hown⟩)⟩
theorem step_is {w1 : World} {base : Nat} {LA : Option Addr} {lc : Nat} {L2 : List Int} (q a b : Int) (h : w1.ownsRow base 3 1 (.slice LA L2.length lc) L2.length (L2.map (Value.int .i64))) (hl : L2.length ≤ 1000000) : Is4 w1 ⟨q, a, b, LA, L2.length, lc⟩ ⟨q, a, b, L2⟩ := by
  obtain ⟨h1, h2, h3, _⟩ := row_of_own h hl
  exact ⟨rfl, rfl, rfl, rfl, h2, h3, h1⟩
theorem step_may_at {w1 : World} {base : Nat} {LA : Option Addr} {lc : Nat} {L2 : List Int} (q a b : Int) (h : w1.ownsRow base 3 1 (.slice LA L2.length lc) L2.length (L2.map (Value.int .i64))) (hl : L2.length ≤ 1000000) (hq : q ≤ 127) :
    Calls Tryz.prog 23 #[.agg #[.int .i8 q, .int .i64 a, .int .i64 b, .slice LA L2.length lc]] w1 fun e w' => e = .returned (.bool (Stp.may ⟨q, a, b, L2⟩)) ∧ Below w1.heap.size w1 w' :=
  may_ok ⟨q, a, b, L2⟩ w1 ⟨q, a, b, LA, L2.length, lc⟩ (step_is q a b h hl) hq
theorem StepOut.of {X : Sx} {q a b : Int} {L : List Int} {my : Bool} {w w' : World} {D : Nat} {LA : Option Addr} {lc : Nat} (h : stepP X = if my = true then some (stepS X q) else none) (hs : stepS X q = ⟨q, a, b, L⟩) (ho : w'.ownsRow D 3 1 (.slice LA L.length lc) L.length (L.map (Value.int .i64))) (hl : L.length ≤ 1000000) (hD : w.heap.size ≤ D) (hb : Below w.heap.size w w') :
    StepOut X w w' (.returned (.tuple #[.agg #[.int .i8 q, .int .i64 a, .int .i64 b, .slice LA L.length lc], .bool my])) := by
  refine ⟨?_, hb⟩
  cases my with
  | false => rw [h, if_neg (by decide)]; exact ⟨⟨q, a, b, LA, L.length, lc⟩, rfl⟩
  | true =>
    rw [h, if_pos rfl, hs]
    exact ⟨⟨q, a, b, LA, L.length, lc⟩, rfl, step_is q a b ho hl, fun p hp => ⟨Nat.le_trans hD ((row_of_own ho hl).2.2.2 p hp).1, ((row_of_own ho hl).2.2.2 p hp).2⟩⟩
theorem take_a (L : List Int) : (L.take 1).getD 0 0 = L.getD 0 0 ∧ (L.take 1).getD 1 0 = 0 := by
  cases L with
  | nil => exact ⟨rfl, rfl⟩
  | cons a r => exact ⟨rfl, rfl⟩
theorem take_b (L : List Int) : (L.take 2).getD 0 0 = (L.take 1).getD 0 0 ∧ (L.take 2).getD 1 0 = L.getD 1 0 := by
  rcases L with _ | ⟨a, _ | ⟨b, r⟩⟩ <;> exact ⟨rfl, rfl⟩
theorem map_getD (ns : List Sx) (j : Nat) (h : j < ns.length) : (ns.map numQ).getD j 0 = numQ ns[j] := by
  rw [List.getD_eq_getElem?_getD, List.getElem?_map, List.getElem?_eq_getElem h]
  rfl
theorem mem_mass : ∀ {l : List Sx} {x : Sx}, x ∈ l → x.mass ≤ Sx.masses l
  | y :: r, x, h => by
    rw [Sx.masses]
    rcases List.mem_cons.1 h with rfl | h
    · omega
    · have := mem_mass h; omega
theorem text_mass (x : Sx) : x.text.length + Sx.masses x.kids + 1 ≤ x.mass := by
  obtain ⟨k, t, l⟩ := x
  rw [Sx.mass]
  show t.length + Sx.masses l + 1 ≤ _
  omega
theorem mass_getD : ∀ (l : List Sx) (i : Nat), (l.getD i noSx).mass ≤ Sx.masses l + 1
  | [], i => by rw [Sx.masses]; exact Nat.le_refl _
  | x :: r, 0 => by rw [Sx.masses]; show x.mass ≤ _; omega
  | x :: r, i + 1 => by rw [Sx.masses]; have := mass_getD r i; show (r.getD i noSx).mass ≤ _; omega
theorem mass_len : ∀ l : List Sx, l.length ≤ Sx.masses l
  | [] => Nat.le_refl _
  | x :: r => by have := mass_len r; have := text_mass x; rw [Sx.masses, List.length_cons]; omega
/-- The slice of pointers behind k rounds. -/
def abS (G k : Nat) : Value := .slice (some ⟨G, min k 1, none⟩) (2 - k) (2 - k)
theorem head_len : ∀ x : Sx, x.head.length ≤ x.mass
  | .mk k t l => by
    by_cases h : k = 3
    · subst h
      cases l with
      | nil => exact Nat.zero_le _
      | cons y r =>
        obtain ⟨ky, ty, ly⟩ := y
        rw [head_list, Sx.mass, Sx.masses, Sx.mass]
        split
        · omega
        · exact Nat.zero_le _
    · rw [head_not h]; exact Nat.zero_le _

set_option maxHeartbeats 4000000 in
set_option maxRecDepth 100000 in
theorem step_ok (x : Sx) (hm : x.mass ≤ 1000000) (v : Value) (w : World) (hv : Lies (fun _ => True) w v x) :
    Calls Tryz.prog 36 #[v] w fun e w' => StepOut x w w' e := by
  obtain ⟨k, T, l⟩ := x
  obtain ⟨t, A, c, rfl, rfl, hlc, hnil, hmax, hk⟩ := hv.open_
  obtain ⟨w0, e0⟩ : ∃ w0, w.alloc (.cells #[.int .i8 k, .string t, .slice A l.length c] 28) = w0 := ⟨_, rfl⟩
  obtain ⟨W, eW⟩ : ∃ W, w0.alloc (.cells #[.int .i8 0, .int .i64 0, .int .i64 0, .slice none 0 0] 46) = W := ⟨_, rfl⟩
  have hs0 : w0.heap.size = w.heap.size + 1 := by rw [← e0]; simp
  have hsW : W.heap.size = w.heap.size + 2 := by rw [← eW]; simp; omega
  have b0 : Below w.heap.size w w0 := e0 ▸ (Below.refl _ w).alloc (Nat.le_refl _) _
  have bW : Below w0.heap.size w0 W := eW ▸ (Below.refl _ w0).alloc (Nat.le_refl _) _
  have hbW : Below w.heap.size w W := below_then b0 (Nat.le_refl _) bW
  have hBox : Blk W w.heap.size 28 #[.int .i8 k, .string t, .slice A l.length c] := (e0 ▸ Blk.new w _ _ : Blk w0 _ _ _).below bW (by omega)
  have hRes : Blk W w0.heap.size 46 #[.int .i8 0, .int .i64 0, .int .i64 0, .slice none 0 0] := eW ▸ Blk.new w0 _ _
  have hvW := hv.keep hbW
  have HW := Lib.hid hbW
  have HBOX := Lib.hid (fun w1 (h1 : Below W.heap.size W w1) => hBox.below h1 hBox.lt)
  have HRES := Lib.hid (fun w1 (h1 : Below W.heap.size W w1) => hRes.below h1 hRes.lt)
  have HV := Lib.hid (fun w1 (h1 : Below W.heap.size W w1) => hvW.keep h1)
  have HKI := Lib.hid (fun w1 (h1 : Below W.heap.size W w1) => (hk.keep hbW).keep h1)
  have HM := Lib.hid hm
  have HK0 := Lib.hid hk
  have HSW := Lib.hid hsW
  have HS0 := Lib.hid hs0
  obtain ⟨X, hX⟩ : ∃ X, Sx.mk k (byts t) l = X := ⟨_, rfl⟩
  rw [hX] at HV HM ⊢
  have HHD := Lib.hid (fun w1 (h1 : Below W.heap.size W w1) => headx_ok X w1 _ (HV.out w1 h1))
  have HKD := Lib.hid (fun w1 (h1 : Below W.heap.size W w1) => (kinds_ok w1).mono (fun e w' h => show ∃ b, e = .returned (.map (some b)) ∧ MapAt Tryz.prog 9 w' b 6 kindF ∧ Below w1.heap.size w1 w' from ⟨_, h⟩))
  have HX := Lib.hid hX
  obtain ⟨x0, x1, x2, f0, f1, f2⟩ := blk3 hBox
  clear hv hk hm hsW hs0 b0 bW hbW hBox hRes hvW hX
  refine callsIn_wide.1 (callsIn_of_wp_marks (n := 2) Tryz.func36 rfl trivial (wpIn_wide.2 ?_) rfl)
  simp only [Tryz.ntmps36, List.size_toArray, List.length_cons, List.length_nil, Nat.reduceAdd, Nat.reduceSub, Array.replicate_succ, Array.replicate_zero, List.push_toArray, List.append_toArray, List.nil_append, List.cons_append]
  go_wp2
  obtain ⟨H, hH⟩ : ∃ H, X.head = H := ⟨_, rfl⟩
  rw [hH] at HHD
  have HH := Lib.hid hH
  clear hH
  go_cut [3, 4] from 9 to 15 (fun okv kv wc => okv = .bool (kindT H).isSome ∧ kv = .int .i8 ((kindT H).getD 0) ∧ Below W.heap.size W wc)
  case first =>
    --FIRST
    have hWd : Below W.heap.size W W.drew := ⟨rfl, rfl, rfl, Nat.le_refl _, fun _ _ => rfl⟩
    have HWd := Lib.hid hWd
    have HHL := Lib.hid (fun (s : ByteArray) (h : byts s = H) => show s.size ≤ maxLen by
      rw [← byts_len, h]; have := head_len X; have := HM.out; unfold maxLen; rw [← HH.out]; omega)
    clear hWd
    go_region_held3 (fun w' => w'.cell? ⟨w.heap.size, 0, none⟩ = some (.int .i8 k) ∧ w'.cell? ⟨w.heap.size, 1, none⟩ = some (.string t) ∧ w'.cell? ⟨w.heap.size, 2, none⟩ = some (.slice A l.length c)) (go_keep)
      (first
      | (go_at_call 58; (with_reducible refine (HKD.out W.drew HWd.out).mono ?_); rintro e w1 ⟨bm, rfl, hm1, hb1⟩; have HM1 := Lib.hid hm1; have HB1 := Lib.hid (HWd.out.trans hb1); obtain ⟨y0, y1, y2, _⟩ := blk3 (HBOX.out w1 HB1.out); clear hm1 hb1)
      | (go_at_call 59; (with_reducible refine (HHD.out w1 HB1.out).mono ?_); rintro e w3 ⟨⟨s, rfl, hs⟩, hb3⟩; have HSE := Lib.hid hs; have lk := kinds_look (HM1.out.below hb3 HM1.out.lt) s (HHL.out s hs); rw [hs] at lk; have HB3 := Lib.hid (below_then HB1.out (Nat.le_refl _) hb3); obtain ⟨z0, z1, z2, _⟩ := blk3 (HBOX.out w3 HB3.out); clear hs hb3))
    go_wp2
    go_meet
    exact ⟨rfl, rfl, HB3.out⟩
    --ENDFIRST
  case rest =>
    obtain ⟨rfl, rfl, hB⟩ := hcut
    have hbd : Below W.heap.size W wc.drew := ⟨hB.os, hB.tape, hB.output, hB.size, hB.block⟩
    have HB := Lib.hid hB
    have HBd := Lib.hid hbd
    clear x0 x1 x2 f0 f1 f2 hB hbd
    obtain ⟨x0, x1, x2, _⟩ := blk3 (HBOX.out wc HB.out)
    have HENDF := Lib.hid (fun (w1 : World) (h1 : Below W.heap.size W w1) (h : stepP X = none) => step_end HS0.out HW.out h1 (HRES.out w1 h1) h)
    cases hkq : kindT H with
    | none =>
      simp only [Option.isSome_none, Option.getD_none]
      have HNO := Lib.hid (stepP_none (x := X) (by rw [HH.out]; exact hkq))
      clear hkq
      go_wp2
      go_quiet (fail)
      obtain ⟨r0, r1, r2, r3, f0, f1, f2, f3, w2, e2, hb2, hend⟩ := HENDF.out (wc.drewN nq) (below_drewN HB.out nq) HNO.out
      have HE := Lib.hid hend
      clear hend
      go_wp2
      obtain ⟨v0, v1, v2, v3⟩ := blk4 hb2
      refine ⟨.tuple #[.agg #[.int .i8 0, .int .i64 0, .int .i64 0, .slice none 0 0], .bool false], ?_, HE.out⟩
      simp [results, Tryz.results36, go_sem, v0, v1, v2, v3]
    | some q =>
      simp only [Option.isSome_some, Option.getD_some]
      have HKT := Lib.hid (show kindT X.head = some q by rw [HH.out]; exact hkq)
      obtain ⟨hkH, hq0, hq6⟩ := kindT_eq hkq
      have HKH := Lib.hid hkH
      clear hkq hkH
      cases hl : isList X with
      | false =>
        have HNO := Lib.hid (stepP_not (x := X) HKT.out (by unfold shapeP; rw [hl, Bool.false_and]))
        have HL := Lib.hid (fun (w1 : World) (h1 : Below W.heap.size W w1) => list_ok X _ w1 (HV.out w1 h1))
        rw [hl] at HL
        clear hl
        have HKP := Lib.hid (fun (w1 : World) (h1 : Below W.heap.size W w1) => blk3 (HBOX.out w1 h1))
        go_wp2
        refine wp_region_quiet (C := fun w' => Below W.heap.size W w') (by kernel_rfl) (by kernel_rfl) (HBd.out) ?_
        refine QW.lit ?_
        refine qw_want rfl (.bool true) (fun w' hw' => ?_) ?_
        · unfold Oper.quietAt
          go_simp
        simp only [Act.put, List.setIfInBounds_toArray, List.set_cons_succ, List.set_cons_zero]
        refine qw_want rfl (.bool false) (fun w' hw' => ?_) ?_
        · unfold Oper.quietAt
          go_simp
        simp only [Act.put, List.setIfInBounds_toArray, List.set_cons_succ, List.set_cons_zero]
        refine qw_want rfl (.bool false) (fun w' hw' => ?_) ?_
        · unfold Oper.quietAt
          go_simp
        simp only [Act.put, List.setIfInBounds_toArray, List.set_cons_succ, List.set_cons_zero]
        refine qw_want rfl ?_ (fun w' hw' => ?_) ?_
        rotate_left
        · obtain ⟨y0, y1, y2, _⟩ := HKP.out w' hw'
          unfold Oper.quietAt
          go_simp
          exact rfl
        simp only [Act.put, List.setIfInBounds_toArray, List.set_cons_succ, List.set_cons_zero]
        refine qw_want rfl (.bool false) (fun w' hw' => ?_) ?_
        · unfold Oper.quietAt
          go_simp
          refine (HL.out w' hw').mono ?_
          rintro e w2 ⟨rfl, hb⟩
          have hz := below_then hw' (Nat.le_refl _) hb
          exact ⟨rfl, by simpa using hz⟩
        simp only [Act.put, List.setIfInBounds_toArray, List.set_cons_succ, List.set_cons_zero]
        refine qw_want rfl (.bool true) (fun w' hw' => ?_) ?_
        · unfold Oper.quietAt
          go_simp
        simp only [Act.put, List.setIfInBounds_toArray, List.set_cons_succ, List.set_cons_zero]
        refine qw_want rfl (.bool true) (fun w' hw' => ?_) ?_
        · unfold Oper.quietAt
          go_simp
        simp only [Act.put, List.setIfInBounds_toArray, List.set_cons_succ, List.set_cons_zero]
        refine qw_want rfl (.bool true) (fun w' hw' => ?_) ?_
        · unfold Oper.quietAt
          go_simp
        simp only [Act.put, List.setIfInBounds_toArray, List.set_cons_succ, List.set_cons_zero]
        refine qw_skip (by rfl) ?_
        simp only [Act.put, List.setIfInBounds_toArray, List.set_cons_succ, List.set_cons_zero]
        refine qw_skip (by rfl) ?_
        simp only [Act.put, List.setIfInBounds_toArray, List.set_cons_succ, List.set_cons_zero]
        refine qw_skip (by rfl) ?_
        simp only [Act.put, List.setIfInBounds_toArray, List.set_cons_succ, List.set_cons_zero]
        refine qw_skip (by rfl) ?_
        simp only [Act.put, List.setIfInBounds_toArray, List.set_cons_succ, List.set_cons_zero]
        refine qw_skip (by rfl) ?_
        simp only [Act.put, List.setIfInBounds_toArray, List.set_cons_succ, List.set_cons_zero]
        refine qw_skip (by rfl) ?_
        simp only [Act.put, List.setIfInBounds_toArray, List.set_cons_succ, List.set_cons_zero]
        refine qw_skip (by rfl) ?_
        simp only [Act.put, List.setIfInBounds_toArray, List.set_cons_succ, List.set_cons_zero]
        refine qw_skip (by rfl) ?_
        simp only [Act.put, List.setIfInBounds_toArray, List.set_cons_succ, List.set_cons_zero]
        refine qw_skip (by rfl) ?_
        simp only [Act.put, List.setIfInBounds_toArray, List.set_cons_succ, List.set_cons_zero]
        refine qw_want rfl (.bool true) (fun w' hw' => ?_) ?_
        · unfold Oper.quietAt
          go_simp
        simp only [Act.put, List.setIfInBounds_toArray, List.set_cons_succ, List.set_cons_zero]
        refine qw_end (fun w5 hb5 => ?_)
        have HB5 := Lib.hid hb5
        clear hb5
        obtain ⟨r0, r1, r2, r3, f0, f1, f2, f3, w2, e2, hb2, hend⟩ := HENDF.out w5 HB5.out HNO.out
        have HE := Lib.hid hend
        clear hend
        go_wp2
        obtain ⟨v0, v1, v2, v3⟩ := blk4 hb2
        refine ⟨.tuple #[.agg #[.int .i8 0, .int .i64 0, .int .i64 0, .slice none 0 0], .bool false], ?_, HE.out⟩
        simp [results, Tryz.results36, go_sem, v0, v1, v2, v3]
      | true =>
        have HL := Lib.hid (fun (w1 : World) (h1 : Below W.heap.size W w1) => list_ok X _ w1 (HV.out w1 h1))
        rw [hl] at HL
        have hlpos : 0 < l.length := by
          rcases l with _ | ⟨y, r⟩
          · exfalso
            have h1 := HKT.out
            rw [← HX.out, head_empty] at h1
            cases h1
          · simp
        obtain ⟨b, off, k1, t1, B1, n1, m1, rfl, _, hlt, z0, z1, z2, hy⟩ := HKI.out W (Below.refl _ _) 0 hlpos
        rw [Nat.zero_mul, Nat.add_zero] at z0 z1 z2
        obtain ⟨Y0, hY0⟩ : ∃ Y0, l[0] = Y0 := ⟨_, rfl⟩
        rw [hY0] at hy
        have HY0 := Lib.hid (show l.headD noSx = Y0 by rw [← hY0]; exact headD_get l hlpos)
        have HC := Lib.hid (fun (w1 : World) (h1 : Below W.heap.size W w1) => hy.keep h1)
        have HKP := Lib.hid (fun (w1 : World) (h1 : Below W.heap.size W w1) => step_cells (blk3 (HBOX.out w1 h1)) hlt h1 z0 z1 z2)
        have HHD2 := Lib.hid (fun (w1 : World) (h1 : Below W.heap.size W w1) => head_is (HHD.out w1 h1))
        have HSY := Lib.hid (fun (w1 : World) (h1 : Below W.heap.size W w1) => sym_ok ⟨H.toArray⟩ w1)
        have HSA := Lib.hid (fun (w1 : World) (h1 : Below W.heap.size W w1) => same_at Y0 (symS H) _ _ w1 (HC.out w1 h1) (sym_of _ w1 H))
        obtain ⟨sm, hsm⟩ : ∃ sm, Y0.same (symS H) = sm := ⟨_, rfl⟩
        rw [hsm] at HSA
        have HLP := Lib.hid hlpos
        have hlz : (0 : Int) < (l.length : Int) := by omega
        have HL1 := Lib.hid hl
        have HSM := Lib.hid hsm
        have HY := Lib.hid hy
        clear hy z0 z1 z2 hlt hl hsm hY0
        go_wp2
        refine wp_region_quiet (C := fun w' => Below W.heap.size W w') (by kernel_rfl) (by kernel_rfl) (HBd.out) ?_
        refine QW.lit ?_
        refine qw_want rfl (.bool true) (fun w' hw' => ?_) ?_
        · unfold Oper.quietAt
          go_simp
        simp only [Act.put, List.setIfInBounds_toArray, List.set_cons_succ, List.set_cons_zero]
        refine qw_want rfl (.bool false) (fun w' hw' => ?_) ?_
        · unfold Oper.quietAt
          go_simp
        simp only [Act.put, List.setIfInBounds_toArray, List.set_cons_succ, List.set_cons_zero]
        refine qw_want rfl (.bool false) (fun w' hw' => ?_) ?_
        · unfold Oper.quietAt
          go_simp
        simp only [Act.put, List.setIfInBounds_toArray, List.set_cons_succ, List.set_cons_zero]
        refine qw_want rfl ?_ (fun w' hw' => ?_) ?_
        rotate_left
        · obtain ⟨y0, y1, y2, y3, y4, y5⟩ := HKP.out w' hw'
          unfold Oper.quietAt
          go_simp
          exact rfl
        simp only [Act.put, List.setIfInBounds_toArray, List.set_cons_succ, List.set_cons_zero]
        refine qw_want rfl (.bool true) (fun w' hw' => ?_) ?_
        · unfold Oper.quietAt
          go_simp
          refine (HL.out w' hw').mono ?_
          rintro e w2 ⟨rfl, hb⟩
          have hz := below_then hw' (Nat.le_refl _) hb
          exact ⟨rfl, by simpa using hz⟩
        simp only [Act.put, List.setIfInBounds_toArray, List.set_cons_succ, List.set_cons_zero]
        refine qw_want rfl (.bool false) (fun w' hw' => ?_) ?_
        · unfold Oper.quietAt
          go_simp
        simp only [Act.put, List.setIfInBounds_toArray, List.set_cons_succ, List.set_cons_zero]
        refine qw_want rfl (.bool false) (fun w' hw' => ?_) ?_
        · unfold Oper.quietAt
          go_simp
        simp only [Act.put, List.setIfInBounds_toArray, List.set_cons_succ, List.set_cons_zero]
        refine qw_want rfl (.bool false) (fun w' hw' => ?_) ?_
        · unfold Oper.quietAt
          go_simp
        simp only [Act.put, List.setIfInBounds_toArray, List.set_cons_succ, List.set_cons_zero]
        refine qw_want rfl ?_ (fun w' hw' => ?_) ?_
        rotate_left
        · obtain ⟨y0, y1, y2, y3, y4, y5⟩ := HKP.out w' hw'
          unfold Oper.quietAt
          go_simp
          exact rfl
        simp only [Act.put, List.setIfInBounds_toArray, List.set_cons_succ, List.set_cons_zero]
        refine qw_want rfl ?_ (fun w' hw' => ?_) ?_
        rotate_left
        · obtain ⟨y0, y1, y2, y3, y4, y5⟩ := HKP.out w' hw'
          unfold Oper.quietAt
          go_simp
          exact rfl
        simp only [Act.put, List.setIfInBounds_toArray, List.set_cons_succ, List.set_cons_zero]
        refine qw_want rfl ?_ (fun w' hw' => ?_) ?_
        rotate_left
        · obtain ⟨y0, y1, y2, y3, y4, y5⟩ := HKP.out w' hw'
          unfold Oper.quietAt
          go_simp
          exact rfl
        simp only [Act.put, List.setIfInBounds_toArray, List.set_cons_succ, List.set_cons_zero]
        refine qw_want rfl ?_ (fun w' hw' => ?_) ?_
        rotate_left
        · obtain ⟨y0, y1, y2, y3, y4, y5⟩ := HKP.out w' hw'
          unfold Oper.quietAt
          go_simp
          exact rfl
        simp only [Act.put, List.setIfInBounds_toArray, List.set_cons_succ, List.set_cons_zero]
        refine qw_want rfl ?_ (fun w' hw' => ?_) ?_
        rotate_left
        · obtain ⟨y0, y1, y2, y3, y4, y5⟩ := HKP.out w' hw'
          unfold Oper.quietAt
          go_simp
          exact rfl
        simp only [Act.put, List.setIfInBounds_toArray, List.set_cons_succ, List.set_cons_zero]
        refine qw_want rfl (.string ⟨H.toArray⟩) (fun w' hw' => ?_) ?_
        · unfold Oper.quietAt
          go_simp
          refine (HHD2.out w' hw').mono ?_
          rintro e w2 ⟨rfl, hb⟩
          have hz := below_then hw' (Nat.le_refl _) hb
          exact ⟨rfl, by simpa using hz⟩
        simp only [Act.put, List.setIfInBounds_toArray, List.set_cons_succ, List.set_cons_zero]
        refine qw_want rfl (.agg #[.int .i8 0, .string ⟨H.toArray⟩, .slice none 0 0]) (fun w' hw' => ?_) ?_
        · unfold Oper.quietAt
          go_simp
          refine (HSY.out w' hw').mono ?_
          rintro e w2 ⟨rfl, hb⟩
          have hz := below_then hw' (Nat.le_refl _) hb
          exact ⟨rfl, by simpa using hz⟩
        simp only [Act.put, List.setIfInBounds_toArray, List.set_cons_succ, List.set_cons_zero]
        refine qw_want rfl (.bool sm) (fun w' hw' => ?_) ?_
        · unfold Oper.quietAt
          go_simp
          refine (HSA.out w' hw').mono ?_
          rintro e w2 ⟨rfl, hb⟩
          have hz := below_then hw' (Nat.le_refl _) hb
          exact ⟨rfl, by simpa using hz⟩
        simp only [Act.put, List.setIfInBounds_toArray, List.set_cons_succ, List.set_cons_zero]
        refine qw_want rfl (.bool (!sm)) (fun w' hw' => ?_) ?_
        · unfold Oper.quietAt
          go_simp
        simp only [Act.put, List.setIfInBounds_toArray, List.set_cons_succ, List.set_cons_zero]
        refine qw_want rfl (.bool (!sm)) (fun w' hw' => ?_) ?_
        · unfold Oper.quietAt
          go_simp
        simp only [Act.put, List.setIfInBounds_toArray, List.set_cons_succ, List.set_cons_zero]
        refine qw_end (fun w5 hb5 => ?_)
        have HB5 := Lib.hid hb5
        clear hb5
        cases hsm : sm with
        | false =>
          have HNO := Lib.hid (stepP_not (x := X) HKT.out (by
            unfold shapeP
            rw [show X.kids = l by rw [← HX.out]; rfl, HY0.out, HH.out, HSM.out, hsm, Bool.false_and, Bool.and_false]))
          clear hsm
          obtain ⟨r0, r1, r2, r3, f0, f1, f2, f3, w2, e2, hb2, hend⟩ := HENDF.out w5 HB5.out HNO.out
          have HE := Lib.hid hend
          clear hend
          go_wp2
          obtain ⟨v0, v1, v2, v3⟩ := blk4 hb2
          refine ⟨.tuple #[.agg #[.int .i8 0, .int .i64 0, .int .i64 0, .slice none 0 0], .bool false], ?_, HE.out⟩
          simp [results, Tryz.results36, go_sem, v0, v1, v2, v3]
        | true =>
          subst hsm
          obtain ⟨qn, rfl⟩ : ∃ n : Nat, q = n := ⟨q.toNat, by omega⟩
          have hqn : qn < 6 := by omega
          obtain ⟨n, hn⟩ : ∃ n, manyK (qn : Int) = n := ⟨_, rfl⟩
          have hn2 : n ≤ 2 := hn ▸ many_le _
          have hn2z : (n : Int) ≤ 2 := by omega
          have hfc := form_n hqn
          rw [hn] at hfc
          have HFC := Lib.hid hfc
          have HN := Lib.hid hn
          clear hfc hn
          by_cases hlen : l.length = n + 2
          · have d5 : ((l.length : Int) != (n : Int) + 2) = false := bne_eq_false_iff_eq.2 (by omega)
            have hi1 : n + 1 < l.length := by omega
            have hi1z : (n : Int) + 1 < (l.length : Int) := by omega
            obtain ⟨hsl, hkm⟩ := kids_mid (b := b) (off := off) hlen hlc
            have HKM := Lib.hid (fun (w1 : World) (h1 : Below W.heap.size W w1) => hkm _ w1 (HKI.out w1 h1))
            obtain ⟨b', off', k2, t2, B2, n2, m2, hA, _, hlt2, z0, z1, z2, hy2⟩ := HK0.out (n + 1) hi1
            injection hA with hA
            injection hA with hA1 hA2
            subst hA1 hA2
            have HKP2 := Lib.hid (fun (w1 : World) (h1 : Below W.heap.size W w1) => step_cells (blk3 (HBOX.out w1 h1)) hlt2 (below_then HW.out (Nat.le_refl _) h1) z0 z1 z2)
            have HKP3 := Lib.hid (fun (w1 : World) (h1 : Below w.heap.size w w1) => (h1.cell (p := ⟨b, off + (n + 1) * 3 + 2, none⟩) hlt2).trans z2)
            obtain ⟨Y1, hY1⟩ : ∃ Y1, l[n + 1] = Y1 := ⟨_, rfl⟩
            rw [hY1] at hy2
            have HY1 := Lib.hid (show l.getD (n + 1) noSx = Y1 by rw [← hY1, List.getD_eq_getElem?_getD, List.getElem?_eq_getElem hi1]; rfl)
            have HL2 := Lib.hid (fun (w1 : World) (h1 : Below W.heap.size W w1) => list_ok Y1 _ w1 (hy2.keep (below_then HW.out (Nat.le_refl _) h1)))
            obtain ⟨rfl, _⟩ := hy2.kids_of
            have HKY := Lib.hid (fun (w1 : World) (h1 : Below w.heap.size w w1) => (hy2.keep h1).kids_of.2)
            have HLEN := Lib.hid hlen
            clear hlen hkm z0 z1 z2 hlt2 hY1 hy2
            cases hl2 : isList Y1 with
            | false =>
              have HNO := Lib.hid (stepP_not (x := X) HKT.out (by
                unfold shapeP
                rw [show X.kids = l by rw [← HX.out]; rfl, HN.out, HY1.out, hl2, Bool.and_false, Bool.and_false, Bool.and_false]))
              rw [hl2] at HL2
              clear hl2
              go_wp2_with (first
                | (go_at_call 41; refine (forms_ok w5).mono ?_; rintro e w6 ⟨rfl, hF6, hb6⟩; have HF6 := Lib.hid hF6; have HB6 := Lib.hid (below_then HB5.out (Nat.le_refl _) hb6); have p1 := (hF6.cell (qn * 2 + 1)).trans HFC.out; obtain ⟨y0, y1, y2, y3, y4, y5⟩ := HKP2.out w6 HB6.out; clear hF6 hb6)
                | (go_at_call 34; refine (HL2.out w6 HB6.out).mono ?_; rintro e w7 ⟨rfl, hb7⟩; have HB7 := Lib.hid (below_then HB6.out (Nat.le_refl _) hb7); obtain ⟨r0, r1, r2, r3, f0, f1, f2, f3, w2, e2, hb2, hend⟩ := HENDF.out w7 HB7.out HNO.out; have HE := Lib.hid hend; clear hend hb7))
              obtain ⟨v0, v1, v2, v3⟩ := blk4 hb2
              refine ⟨.tuple #[.agg #[.int .i8 0, .int .i64 0, .int .i64 0, .slice none 0 0], .bool false], ?_, HE.out⟩
              simp [results, Tryz.results36, go_sem, v0, v1, v2, v3]
            | true =>
              have HSH := Lib.hid (show shapeP X (qn : Int) = true by
                unfold shapeP
                rw [show X.kids = l by rw [← HX.out]; rfl, HN.out, HY1.out, hl2, HL1.out, HY0.out, HH.out, HSM.out, HLEN.out, decide_eq_true rfl]
                rfl)
              rw [hl2] at HL2
              clear hl2
              go_wp2_with (first
                | (go_at_call 41; refine (forms_ok w5).mono ?_; rintro e w6 ⟨rfl, hF6, hb6⟩; have HF6 := Lib.hid hF6; have HB6 := Lib.hid (below_then HB5.out (Nat.le_refl _) hb6); have p1 := (hF6.cell (qn * 2 + 1)).trans HFC.out; obtain ⟨y0, y1, y2, y3, y4, y5⟩ := HKP2.out w6 HB6.out; clear hF6 hb6)
                | (go_at_call 34; refine (HL2.out w6 HB6.out).mono ?_; rintro e w7 ⟨rfl, hb7⟩; have HB7 := Lib.hid (below_then HB6.out (Nat.le_refl _) hb7); clear hb7; obtain ⟨w8, wp, wq, e8, ep, eq, ht8⟩ := step_mid HS0.out HSW.out HB7.out (HRES.out w7 HB7.out) (HBOX.out w7 HB7.out) (qn : Int); obtain ⟨r0, r1, r2, r3⟩ := blk4 (HRES.out w7 HB7.out); obtain ⟨f0, f1, f2, f3⟩ := blk4f (HRES.out w7 HB7.out); have HT8 := Lib.hid ht8; have x8 := ht8.x2; clear ht8)
                | (go_at_call 60; refine (numbers_fn _ _ _).mono ?_; rintro e wn ⟨rfl, en⟩))
              clear en e8 ep eq r0 r1 r2 r3 f0 f1 f2 f3 x8 x0 x1 x2 p1 y0 y1 y2 y3 y4 y5
              have hT := HT8.out
              have hG0 := fun r => S1.new (sb := .slice (some ⟨b, off + 3, none⟩) n (c - 1)) hT HW.out r
              have hwp := hT.sq
              have hwq := hT.size
              clear hT
              obtain ⟨G, hG⟩ : ∃ G, w7.heap.size = G := ⟨_, rfl⟩
              obtain ⟨H1, hH1⟩ : ∃ H1, w0.heap.size = H1 := ⟨_, rfl⟩
              rw [hG] at hG0 hwp hwq
              rw [hH1] at hG0
              rw [hwp, hwq, hH1]
              obtain ⟨wn, hwn⟩ : ∃ wn, wq.alloc (.cells #[.slice (some ⟨b, off + 3, none⟩) n (c - 1)] 26) = wn := ⟨_, rfl⟩
              have hsn : wn.heap.size = G + 3 := by rw [← hwn]; simp; omega
              rw [hwn] at hG0 ⊢
              obtain ⟨ns, hns⟩ : ∃ ns, l.tail.take n = ns := ⟨_, rfl⟩
              have hnl : ns.length = n := by rw [← hns, List.length_take, List.length_tail]; have := HLEN.out; omega
              have HNS := Lib.hid hns
              have HNL := Lib.hid hnl
              refine wpIn_wide.1 (rangeFunc_wide (n := 2) (gf := 73) rfl (fun _ _ => by simp [invoke, go_sem]) fun fn r hr => ?_)
              rw [hsn]
              have hx0 := hG0 r
              have hml : Sx.masses l + 1 ≤ 1000000 := by have := HM.out; rw [← HX.out, Sx.mass] at this; omega
              have HKW := Lib.hid (fun (w1 : World) (h1 : Below w.heap.size w w1) => (kids_mid HLEN.out hlc).2 _ w1 (HK0.out.keep h1))
              refine callsIn_wide.2 ((numbers_iter (G + 3 + 1) (G + 2) ns (some ⟨b, off + 3, none⟩) (c - 1) (fun _ => True)
                (fun j W => j ≤ n ∧ S1 w H1 G (.int .i8 k) (.string t) (.slice (some ⟨b, off, none⟩) l.length c) (.slice (some ⟨b, off + 3, none⟩) n (c - 1)) r qn (((ns.map numQ).take j).getD 0 0) (((ns.map numQ).take j).getD 1 0) (abS G j) W)
                (by omega) ?_ ?_ ?_ ?_ _ ?_).mono ?_)
              · intro x hx
                have h1 := mem_mass (List.mem_of_mem_tail (List.mem_of_mem_take (HNS.out ▸ hx)))
                have h2 := text_mass x
                omega
              · exact fun j W1 W2 hx hb => ⟨hx.1, hx.2.keep hb⟩
              · intro j W1 hx
                refine ⟨?_, ?_⟩
                · rw [← HNS.out]; exact HKW.out W1 hx.2.below
                · rw [HNL.out]; exact hx.2.sl
              · intro j W1 hj hx
                have e1 := congrArg Loop.tmps hr
                have e2 := congrArg Loop.params hr
                have e3 := congrArg Loop.assign hr
                have e4 := congrArg Loop.body hr
                have e5 := congrArg Loop.state hr
                have e6 := congrArg Loop.pending hr
                simp only [loopRec] at e1 e2 e3 e4 e5 e6
                refine ⟨_, _, _, _, run_yield hx.2.loop.rec_ (by rw [e2]; rfl), ?_⟩
                rw [e1, e2, e3, e4]
                clear e1 e2 e3 e4 hr
                refine roundIn_of_wpIn trivial ?_
                simp only [List.zip_toArray, List.zip_cons_cons, List.zip_nil_right, List.foldl_toArray', List.foldl_cons, List.foldl_nil, List.setIfInBounds_toArray, List.set_cons_succ, List.set_cons_zero]
                have hjn : j < n := HNL.out ▸ hj
                have hmj := map_getD ns j hj
                obtain ⟨L, hL⟩ : ∃ L, ns.map numQ = L := ⟨_, rfl⟩
                obtain ⟨v, hv⟩ : ∃ v, numQ ns[j] = v := ⟨_, rfl⟩
                have hbr := Lib.hid (hx.2.loop.begin_ (P := Tryz.prog) e5)
                have hx2 := hx.2.put (busyRec r)
                rw [hv] at hmj ⊢
                simp only [hL] at hmj hx2 ⊢
                generalize W1.putObj (G + 4) (.loop (busyRec r)) = W2 at *
                have b0 := hx2.ab.cell 0
                have g0 := hx2.ab.frozen 0
                have p0 := hx2.ptr.cell 0
                have p1 := hx2.ptr.cell 1
                obtain ⟨f0, f1, f2, f3⟩ := blk4f hx2.res
                obtain ⟨r0, r1, r2, r3⟩ := blk4 hx2.res
                simp only [List.getElem?_toArray, List.getElem?_cons_zero, List.getElem?_cons_succ] at b0 p0 p1
                have hne : H1 ≠ G + 1 := by have := hx2.lt; omega
                have HX2 := Lib.hid hx2
                have HMJ := Lib.hid hmj
                clear hx hx2 hx0 hG0 hmj hv hL
                rcases (by omega : j = 0 ∨ j = 1) with rfl | rfl
                · have H5 := HX2.out.set_a v (.slice (some ⟨G, 1, none⟩) 1 1)
                  replace b0 : W2.cell? ⟨G + 1, 0, none⟩ = some (.slice (some ⟨G, 0, none⟩) 2 2) := b0
                  gi_wp2
                  refine ⟨W2, hbr.out, ?_⟩
                  gi_wp2
                  refine ⟨_, _, H5.loop.end_ e5 e6, rfl, ⟨by omega, ?_⟩⟩
                  have h6 := H5.put r
                  rw [(take_a L).1, (take_a L).2, HMJ.out]
                  exact h6
                · have H5 := HX2.out.set_b v (.slice (some ⟨G, 1, none⟩) 0 0)
                  replace b0 : W2.cell? ⟨G + 1, 0, none⟩ = some (.slice (some ⟨G, 1, none⟩) 1 1) := b0
                  gi_wp2
                  refine ⟨W2, hbr.out, ?_⟩
                  gi_wp2
                  refine ⟨_, _, H5.loop.end_ e5 e6, rfl, ⟨by omega, ?_⟩⟩
                  have h6 := H5.put r
                  rw [(take_b L).1, (take_b L).2, HMJ.out]
                  exact h6
              · exact ⟨Nat.zero_le _, hx0⟩
              · have e5 := congrArg Loop.state hr
                have e6 := congrArg Loop.pending hr
                simp only [loopRec] at e5 e6
                clear hr
                rintro e W' ⟨rfl, _, hx⟩
                rw [HNL.out, List.take_of_length_le (by rw [List.length_map, HNL.out]; exact Nat.le_refl _)] at hx
                refine ⟨none, _, hx.loop.over_ e5 e6, ?_⟩
                have hx7 := hx.put (overRec r)
                generalize W'.putObj (G + 4) (.loop (overRec r)) = Wa at *
                have x2 := hx7.box.cell 2
                have z2 := HKP3.out Wa hx7.below
                simp only [List.getElem?_toArray, List.getElem?_cons_zero, List.getElem?_cons_succ] at x2
                have hN0 := fun r' => S2.new (sb' := .slice B2 Y1.kids.length m2) hx7 r'
                have HX7 := Lib.hid hx7
                clear hx hx7 hx0 hG0 e5 e6
                go_wp2_with (go_at_call 60; refine (numbers_fn _ _ _).mono ?_; rintro e wn ⟨rfl, en⟩)
                clear en x2 z2
                obtain ⟨G2, hG2⟩ : ∃ G2, Wa.heap.size = G2 := ⟨_, rfl⟩
                rw [hG2] at hN0 ⊢
                obtain ⟨wn2, hwn2⟩ : ∃ wn2, Wa.alloc (.cells #[.slice B2 Y1.kids.length m2] 26) = wn2 := ⟨_, rfl⟩
                have hsn2 : wn2.heap.size = G2 + 1 := by rw [← hwn2]; simp; omega
                rw [hwn2] at hN0 ⊢
                clear hwn2
                obtain ⟨L1, hL1⟩ : ∃ L1, ns.map numQ = L1 := ⟨_, rfl⟩
                obtain ⟨L2, hL2⟩ : ∃ L2, Y1.kids.map numQ = L2 := ⟨_, rfl⟩
                rw [hL1] at hN0
                have HL1M := Lib.hid hL1
                have HL2M := Lib.hid hL2
                have hkn : ∀ x ∈ Y1.kids, x.text.length ≤ 100000000 := fun x hx => by
                  have h1 := mem_mass hx
                  have h2 := text_mass x
                  have h3 := mass_getD l (n + 1)
                  rw [HY1.out] at h3
                  have h4 := text_mass Y1
                  omega
                have hkl : Y1.kids.length ≤ 1000000 := by
                  have h1 := mass_len Y1.kids
                  have h3 := mass_getD l (n + 1)
                  rw [HY1.out] at h3
                  have h4 := text_mass Y1
                  omega
                have HKN := Lib.hid hkn
                clear hkn hL1 hG2 hsn hnl hns hwp hwq hwn hG hH1
                obtain ⟨i0, hi0, hz0, hz1, hz2⟩ := info_parts int_info
                refine wpIn_wide.1 (rangeFunc_wide (n := 2) (gf := 73) rfl (fun _ _ => by simp [invoke, go_sem]) fun fn2 r2 hr => ?_)
                rw [hsn2]
                have hx0 := hN0 r2
                have HL2L := Lib.hid (show L2.length = Y1.kids.length by rw [← hL2, List.length_map])
                have hL2k : L2.length ≤ 1000000 := by have := HL2L.out; omega
                refine callsIn_wide.2 ((numbers_iter (G2 + 1 + 1) G2 Y1.kids B2 m2 (fun _ => True)
                  (fun j W => j ≤ L2.length ∧ S2 w H1 G G2 (.slice B2 Y1.kids.length m2) r2 qn (L1.getD 0 0) (L1.getD 1 0) (L2.take j) W)
                  (by omega) HKN.out ?_ ?_ ?_ _ ?_).mono ?_)
                · exact fun j W1 W2 hx hb => ⟨hx.1, hx.2.keep hb⟩
                · intro j W1 hx
                  exact ⟨HKY.out W1 hx.2.below, hx.2.sl⟩
                · intro j W1 hj hx
                  have e1 := congrArg Loop.tmps hr
                  have e2 := congrArg Loop.params hr
                  have e3 := congrArg Loop.assign hr
                  have e4 := congrArg Loop.body hr
                  have e5 := congrArg Loop.state hr
                  have e6 := congrArg Loop.pending hr
                  simp only [loopRec] at e1 e2 e3 e4 e5 e6
                  refine ⟨_, _, _, _, run_yield hx.2.loop.rec_ (by rw [e2]; rfl), ?_⟩
                  rw [e1, e2, e3, e4]
                  clear e1 e2 e3 e4 hr
                  refine roundIn_of_wpIn trivial ?_
                  simp only [List.zip_toArray, List.zip_cons_cons, List.zip_nil_right, List.foldl_toArray', List.foldl_cons, List.foldl_nil, List.setIfInBounds_toArray, List.set_cons_succ, List.set_cons_zero]
                  have hmj := map_getD Y1.kids j hj
                  rw [hL2] at hmj
                  obtain ⟨v, hv⟩ : ∃ v, numQ Y1.kids[j] = v := ⟨_, rfl⟩
                  have hbr := Lib.hid (hx.2.loop.begin_ (P := Tryz.prog) e5)
                  have hx2 := hx.2.put (busyRec r2)
                  rw [hv] at hmj ⊢
                  generalize W1.putObj (G2 + 2) (.loop (busyRec r2)) = W2 at *
                  have hjl : j < L2.length := by have := HL2L.out; omega
                  have htl : (L2.take j).length = j := by rw [List.length_take]; omega
                  have HTS := Lib.hid (take_snoc L2 j hjl)
                  obtain ⟨K, hK⟩ : ∃ K, L2.take j = K := ⟨_, rfl⟩
                  rw [hK] at htl hx2 HTS
                  clear hK
                  obtain ⟨lv, hbl, hol⟩ := hx2.own
                  obtain ⟨LA, lc, rfl⟩ := own_slice hol
                  obtain ⟨f0, f1, f2, f3⟩ := blk4f hbl
                  obtain ⟨r0, r1, r2c, r3⟩ := blk4 hbl
                  have hG5 : G + 5 ≤ W2.heap.size := by have := hx2.loop.lt; have := hx2.lt; omega
                  have HX2 := Lib.hid hx2
                  have HBL := Lib.hid hbl
                  have HOL := Lib.hid hol
                  have HMJ := Lib.hid hmj
                  have HTL := Lib.hid htl
                  clear hx hx2 hx0 hN0 hmj hv hbl hol htl
                  gi_wp2
                  refine ⟨W2, hbr.out, ?_⟩
                  gi_wp2_with (gi_at_builtin; refine listIn_push _ rfl (.tmp 86) (.tmp 88) 44 rfl (G + 5) 3 i0 (.int .i64 0) 1 8 Tryz.underlying44 hi0 hz0 hz1 hz2 rfl (by decide) (.slice LA K.length lc) K.length _ rfl (HOL.out.alloc _) W2.heap.size #[.int .i64 v] rfl (Blk.new _ _ _) rfl (by simp [Value.oneCell']) (by have := HTL.out; omega) (by omega) (by omega) (fun g2 cap2 w1 hown1 hgrow hat hlt1 => ?_); have b1 := (HBL.out.alloc (.cells #[.int .i64 v] 3)).grown hgrow (fun e => own_blk_ne HOL.out HBL.out (by decide) e.symm); obtain ⟨f0, f1, f2, f3⟩ := blk4f b1; obtain ⟨c0, c1, c2, c3⟩ := blk4 b1)
                  have H5 := HX2.out.push HBL.out HOL.out hown1 hgrow
                  refine ⟨_, _, H5.loop.end_ e5 e6, rfl, ⟨by omega, ?_⟩⟩
                  have h6 := H5.put r2
                  rw [← HMJ.out, HTS.out] at h6
                  exact h6
                · exact ⟨Nat.zero_le _, hx0⟩
                · have e5 := congrArg Loop.state hr
                  have e6 := congrArg Loop.pending hr
                  simp only [loopRec] at e5 e6
                  clear hr
                  rintro e W' ⟨rfl, _, hx⟩
                  rw [List.take_of_length_le (by have := HL2L.out; omega)] at hx
                  refine ⟨none, _, hx.loop.over_ e5 e6, ?_⟩
                  have hx7 := hx.put (overRec r2)
                  generalize W'.putObj (G2 + 2) (.loop (overRec r2)) = Wb at *
                  obtain ⟨lv, hbl, hol⟩ := hx7.own
                  obtain ⟨LA, lc, rfl⟩ := own_slice hol
                  obtain ⟨f0, f1, f2, f3⟩ := blk4f hbl
                  obtain ⟨r0, r1, r2c, r3⟩ := blk4 hbl
                  have hss : stepS X (qn : Int) = ⟨qn, L1.getD 0 0, L1.getD 1 0, L2⟩ := by
                    unfold stepS
                    rw [HN.out, show X.kids = l by rw [← HX.out]; rfl, HNS.out, HY1.out, HL1M.out, HL2M.out]
                    rfl
                  have hmay := fun (w1 : World) (h1 : w1.ownsRow (G + 5) 3 1 (.slice LA L2.length lc) L2.length (L2.map (Value.int .i64))) => step_may_at (qn : Int) (L1.getD 0 0) (L1.getD 1 0) h1 (by omega) (by omega)
                  rw [← hss] at hmay
                  have HMAY := Lib.hid hmay
                  have HSS := Lib.hid hss
                  have HX7 := Lib.hid hx7
                  have HBL := Lib.hid hbl
                  have HOL := Lib.hid hol
                  have hyes := stepP_yes HKT.out HSH.out
                  have HYES := Lib.hid hyes
                  obtain ⟨my, hmy⟩ : ∃ my, (stepS X (qn : Int)).may = my := ⟨_, rfl⟩
                  rw [hmy] at HMAY HYES
                  obtain ⟨a1, ha1⟩ : ∃ a1, L1.getD 0 0 = a1 := ⟨_, rfl⟩
                  obtain ⟨a2, ha2⟩ : ∃ a2, L1.getD 1 0 = a2 := ⟨_, rfl⟩
                  simp only [ha1, ha2] at r1 r2c HMAY HSS HX7 HBL
                  clear hx hx7 hx0 hN0 hbl hol hss hmay hyes hmy ha1 ha2 hL2
                  have hd := HX7.out.keep ((Below.refl _ Wb).drew)
                  have HD := Lib.hid hd
                  have HOD := Lib.hid (own_kept HOL.out (Kept.of_below (S := fun _ => False) ((Below.refl _ Wb).drew)) (fun _ _ h => h))
                  have HBD := Lib.hid (HBL.out.below ((Below.refl _ Wb).drew) HBL.out.lt)
                  clear hd
                  go_wp2
                  go_region_held3 (fun w' => w'.cell? ⟨H1, 0, none⟩ = some (.int .i8 qn) ∧ w'.cell? ⟨H1, 1, none⟩ = some (.int .i64 a1) ∧ w'.cell? ⟨H1, 2, none⟩ = some (.int .i64 a2) ∧ w'.cell? ⟨H1, 3, none⟩ = some (.slice LA L2.length lc)) (first | go_keep | exact HS4.out)
                    ((go_at_call 23; (with_reducible refine (HMAY.out Wb.drew HOD.out).mono ?_); rintro e w9 ⟨rfl, hb9⟩; have h9 := HBD.out.below hb9 HBD.out.lt; have HS4 := Lib.hid (blk4 (h9.set4 (.int .i8 qn) (.int .i64 a1) (.int .i64 a2) (.slice LA L2.length lc))); obtain ⟨s0, s1, s2, s3⟩ := blk4 h9; obtain ⟨u0, u1, u2, u3⟩ := blk4f h9; have HFIN := Lib.hid ((HD.out.keep hb9).finish h9 (own_kept HOD.out (Kept.of_below (S := fun _ => False) hb9) (fun _ _ h => h))); clear h9 hb9))
                  all_goals
                    go_wp2
                    obtain ⟨k1, k2, k3, k4, k5⟩ := HFIN.out
                    obtain ⟨v0, v1, v2, v3⟩ := blk4 k3
                    refine ⟨by simp, .inl ⟨_, _, rfl, run_takeDeferred k1, ?_⟩⟩
                    refine ⟨by simp, .inl ⟨_, _, rfl, run_takeDeferred k2, ?_⟩⟩
                    refine ⟨.tuple #[.agg #[.int .i8 qn, .int .i64 a1, .int .i64 a2, .slice LA L2.length lc], .bool my], by simp [results, Tryz.results36, go_sem, v0, v1, v2, v3], ?_⟩
                    exact StepOut.of HYES.out HSS.out k4 (by omega) (by have := HX7.out.lt; omega) k5
          · have HNO := Lib.hid (stepP_not (x := X) HKT.out (by
              unfold shapeP
              rw [show X.kids = l by rw [← HX.out]; rfl, HN.out, decide_eq_false hlen, Bool.false_and, Bool.and_false, Bool.and_false]))
            have d5 : ((l.length : Int) != (n : Int) + 2) = true := bne_iff_ne.2 (by omega)
            clear hlen
            go_wp2_with (go_at_call 41; refine (forms_ok w5).mono ?_; rintro e w6 ⟨rfl, hF6, hb6⟩; have HF6 := Lib.hid hF6; have HB6 := Lib.hid (below_then HB5.out (Nat.le_refl _) hb6); have p1 := (hF6.cell (qn * 2 + 1)).trans HFC.out; obtain ⟨y0, y1, y2, y3, y4, y5⟩ := HKP.out w6 HB6.out; obtain ⟨r0, r1, r2, r3, f0, f1, f2, f3, w2, e2, hb2, hend⟩ := HENDF.out w6 HB6.out HNO.out; have HE := Lib.hid hend; clear hend hF6 hb6)
            obtain ⟨v0, v1, v2, v3⟩ := blk4 hb2
            refine ⟨.tuple #[.agg #[.int .i8 0, .int .i64 0, .int .i64 0, .slice none 0 0], .bool false], ?_, HE.out⟩
            simp [results, Tryz.results36, go_sem, v0, v1, v2, v3]
end Go.Proofs.YtiklliiamljogaaGreatDoor

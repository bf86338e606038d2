/- The readers of tokens: brackets, names, keywords. -/
import Derived.Test.YtpmdgjihgiieoaaLexE
namespace Go.Proofs.Ytpmdgjihgiieoaa
open Go.RowKit

theorem raw_some {k : Nat} {t : List UInt8} {n : Nat} : (raw k t n).isSome = decide (t.length ≤ 100) := by
  unfold raw
  split
  · rename_i h; simp [h]
  · rename_i h; simp; omega
theorem raw_eq {k : Nat} {t : List UInt8} {n : Nat} {r : Raw} (h : raw k t n = some r) : r = ⟨k, t, n⟩ := by
  unfold raw at h
  split at h
  · injection h with h; exact h.symm
  · cases h

theorem below_box {w w1 : World} (a b : Obj) (h : Below ((w.alloc a).alloc b).heap.size ((w.alloc a).alloc b) w1) : Below w.heap.size w w1 :=
  (((Below.refl _ w).alloc (Nat.le_refl _) a).alloc (by simp) b).trans (h.mono (by simp; omega))
theorem blk_box {w w1 : World} (a b : Obj) (t : TypeId) (cs : Array Value) (h : Below ((w.alloc a).alloc b).heap.size ((w.alloc a).alloc b) w1) (hb : b = .cells cs t) : Blk w1 (w.heap.size + 1) t cs := by
  subst hb
  refine Blk.below (w := (w.alloc a).alloc (.cells cs t)) ?_ h (by simp)
  have := Blk.new (w.alloc a) t cs
  rwa [World.size_alloc] at this
theorem blk_box0 {w w1 : World} (a b : Obj) (t : TypeId) (cs : Array Value) (h : Below ((w.alloc a).alloc b).heap.size ((w.alloc a).alloc b) w1) (ha : a = .cells cs t) : Blk w1 w.heap.size t cs := by
  subst ha
  exact Blk.below (w := (w.alloc (.cells cs t)).alloc b) ((Blk.new w t cs).alloc _) h (by simp; omega)

theorem cells4 {w : World} {g : Nat} {t : TypeId} {a b c d : Value} (h : Blk w g t #[a, b, c, d]) :
    (w.cell? ⟨g, 0, none⟩ = some a ∧ w.cell? ⟨g, 1, none⟩ = some b ∧ w.cell? ⟨g, 2, none⟩ = some c ∧ w.cell? ⟨g, 3, none⟩ = some d) ∧
    (w.frozen? ⟨g, 0, none⟩ = false ∧ w.frozen? ⟨g, 1, none⟩ = false ∧ w.frozen? ⟨g, 2, none⟩ = false ∧ w.frozen? ⟨g, 3, none⟩ = false) :=
  ⟨⟨h.cell 0, h.cell 1, h.cell 2, h.cell 3⟩, ⟨h.frozen 0, h.frozen 1, h.frozen 2, h.frozen 3⟩⟩
/-- A token's block written whole. -/
theorem put4 {w : World} {g : Nat} {t : TypeId} {a b c d : Value} (h : Blk w g t #[a, b, c, d]) (a' b' c' d' : Value) :
    Blk ((((w.setCell ⟨g, 0, none⟩ a').setCell ⟨g, 1, none⟩ b').setCell ⟨g, 2, none⟩ c').setCell ⟨g, 3, none⟩ d') g t #[a', b', c', d'] := by
  have := (((h.set_ 0 a').set_ 1 b').set_ 2 c').set_ 3 d'
  simpa using this
theorem below4 {B : Nat} {w w1 : World} {g : Nat} (h : Below B w w1) (hg : B ≤ g) (a' b' c' d' : Value) :
    Below B w ((((w1.setCell ⟨g, 0, none⟩ a').setCell ⟨g, 1, none⟩ b').setCell ⟨g, 2, none⟩ c').setCell ⟨g, 3, none⟩ d') :=
  (((h.setCell hg _).setCell hg _).setCell hg _).setCell hg _

theorem open_ok (s : ByteArray) (p : Nat) (w : World) (hp : p ≤ 1000000) :
    Calls Try.prog 17 #[.agg #[.string s, .int .i64 p]] w fun e w' => Reads p (raw 0 [] 1) e ∧ Below w.heap.size w w' := by
  go_enter Try.func17, Try.ntmps17
  go_wp2_with (go_at_call 30; refine (token_ok s p _ _ 1 _ hp (by omega) (by decide)).mono ?_; rintro e w1 ⟨rfl, hb1⟩; have hbk := blk_box _ _ _ _ hb1 rfl; obtain ⟨⟨c0, c1, c2, c3⟩, ⟨f0, f1, f2, f3⟩⟩ := cells4 hbk; have hbl := Lib.hid (below_box _ _ hb1); clear hb1)
  have hput := put4 hbk (.int .i8 0) (.string ⟨#[]⟩) (.int .i64 p) (.int .i64 (p + 1))
  have hbl2 := below4 hbl.out (Nat.le_succ _) (.int .i8 0) (.string ⟨#[]⟩) (.int .i64 p) (.int .i64 (p + 1))
  clear hbk hbl c0 c1 c2 c3 f0 f1 f2 f3
  generalize (((w1.setCell ⟨w.heap.size + 1, 0, none⟩ (.int .i8 0)).setCell ⟨w.heap.size + 1, 1, none⟩ (.string ⟨#[]⟩)).setCell ⟨w.heap.size + 1, 2, none⟩ (.int .i64 p)).setCell ⟨w.heap.size + 1, 3, none⟩ (.int .i64 (p + 1)) = w2 at *
  obtain ⟨⟨c0, c1, c2, c3⟩, -⟩ := cells4 hput
  refine bodyPost_ret (v := .tuple #[.agg #[.int .i8 0, .string ⟨#[]⟩, .int .i64 p, .int .i64 (p + 1)], .bool true]) ?_ rfl ⟨⟨0, ⟨#[]⟩, p, p + 1, rfl, ?_⟩, hbl2⟩
  · simp [results, Try.results17, go_sem, c0, c1, c2, c3]
  · intro r hr
    rw [raw_eq hr]
    exact ⟨rfl, rfl, rfl, rfl⟩

theorem close_ok (s : ByteArray) (p : Nat) (w : World) (hp : p ≤ 1000000) :
    Calls Try.prog 18 #[.agg #[.string s, .int .i64 p]] w fun e w' => Reads p (raw 1 [] 1) e ∧ Below w.heap.size w w' := by
  go_enter Try.func18, Try.ntmps18
  go_wp2_with (go_at_call 30; refine (token_ok s p _ _ 1 _ hp (by omega) (by decide)).mono ?_; rintro e w1 ⟨rfl, hb1⟩; have hbk := blk_box _ _ _ _ hb1 rfl; obtain ⟨⟨c0, c1, c2, c3⟩, ⟨f0, f1, f2, f3⟩⟩ := cells4 hbk; have hbl := Lib.hid (below_box _ _ hb1); clear hb1)
  have hput := put4 hbk (.int .i8 1) (.string ⟨#[]⟩) (.int .i64 p) (.int .i64 (p + 1))
  have hbl2 := below4 hbl.out (Nat.le_succ _) (.int .i8 1) (.string ⟨#[]⟩) (.int .i64 p) (.int .i64 (p + 1))
  clear hbk hbl c0 c1 c2 c3 f0 f1 f2 f3
  generalize (((w1.setCell ⟨w.heap.size + 1, 0, none⟩ (.int .i8 1)).setCell ⟨w.heap.size + 1, 1, none⟩ (.string ⟨#[]⟩)).setCell ⟨w.heap.size + 1, 2, none⟩ (.int .i64 p)).setCell ⟨w.heap.size + 1, 3, none⟩ (.int .i64 (p + 1)) = w2 at *
  obtain ⟨⟨c0, c1, c2, c3⟩, -⟩ := cells4 hput
  refine bodyPost_ret (v := .tuple #[.agg #[.int .i8 1, .string ⟨#[]⟩, .int .i64 p, .int .i64 (p + 1)], .bool true]) ?_ rfl ⟨⟨1, ⟨#[]⟩, p, p + 1, rfl, ?_⟩, hbl2⟩
  · simp [results, Try.results18, go_sem, c0, c1, c2, c3]
  · intro r hr
    rw [raw_eq hr]
    exact ⟨rfl, rfl, rfl, rfl⟩
end Go.Proofs.Ytpmdgjihgiieoaa

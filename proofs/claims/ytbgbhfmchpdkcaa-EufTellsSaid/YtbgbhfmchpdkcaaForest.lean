/- The forest in memory. -/
import Derived.Test.YtbgbhfmchpdkcaaPaths
import Derived.Test.YtbgbhfmchpdkcaaClip
import Derived.Lib.Hide
import Derived.Test.YtbgbhfmchpdkcaaOpen
import Derived.BigQuiet
namespace Go.Proofs.Ytbgbhfmchpdkcaa
open Go.RowKit
open Go.Maps (Keyed)

/-- Who is near a node, in order. -/
def seenBy (j : Jn) (x : Int) : List (Int × Int) := (if j.a = x then [(j.b, j.r)] else []) ++ (if j.b = x then [(j.a, j.r)] else [])
def nearOf (J : List Jn) (x : Int) : List (Int × Int) := J.flatMap fun j => seenBy j x
theorem nearOf_snoc (J : List Jn) (j : Jn) (x : Int) : nearOf (J ++ [j]) x = nearOf J x ++ seenBy j x := by simp [nearOf]
theorem mem_near {J : List Jn} {x y r : Int} : (y, r) ∈ nearOf J x ↔ Edge J x y r := by
  unfold nearOf Edge
  rw [List.mem_flatMap]
  constructor
  · rintro ⟨j, hj, h⟩
    refine ⟨j, hj, ?_⟩
    unfold seenBy at h
    rcases List.mem_append.1 h with h | h
    · split at h
      · rename_i e
        simp at h
        exact .inl ⟨e, h.1.symm, h.2.symm⟩
      · cases h
    · split at h
      · rename_i e
        simp at h
        exact .inr ⟨e, h.1.symm, h.2.symm⟩
      · cases h
  · rintro ⟨j, hj, h⟩
    refine ⟨j, hj, ?_⟩
    unfold seenBy
    rcases h with ⟨e1, e2, e3⟩ | ⟨e1, e2, e3⟩
    · rw [if_pos e1, e2, e3]
      simp
    · rw [if_pos e1, e2, e3]
      simp

def joinCells (j : Jn) : List Value := [.int .i64 j.a, .int .i64 j.b, .int .i64 j.r]
def edgeCells (p : Int × Int) : List Value := [.int .i64 p.1, .int .i64 p.2]
theorem joinCells_len (j : Jn) : (joinCells j).length = 3 := rfl
theorem edgeCells_len (p : Int × Int) : (edgeCells p).length = 2 := rfl
def pairKey (x y : Int) : Value := .agg #[.int .i64 x, .int .i64 y]

/-- The forest: its block, its joins, who is near whom, who was found to be one. m: at most so many entries in each map. -/
structure FR (w : World) (B bf bn bp : Nat) (lj : Value) (N : Int → Value) (n : Int) (J : List Jn) (m : Nat) : Prop where
  blk : Blk w bf 86 #[.int .i64 n, lj, .map (some bn), .map (some bp)]
  own : clipRow w B 113 3 lj J.length (J.flatMap joinCells)
  near : ∃ f, MapAt Try.prog 3 w bn m f ∧ ∀ x, f (.int .i64 x) = some (N x) ∨ (f (.int .i64 x) = none ∧ N x = .slice none 0 0)
  rows : ∀ x, clipRow w B 108 2 (N x) (nearOf J x).length ((nearOf J x).flatMap edgeCells)
  apart : ∀ x y g, x ≠ y → (N x).ownBlock = some g → (N y).ownBlock ≠ some g
  pairs : ∃ f, MapAt Try.prog 97 w bp m f ∧ ∀ x y, f (pairKey x y) = none ∨ (f (pairKey x y) = some (.bool true) ∧ Conn J x y)
  hbf : B ≤ bf
  hbn : B ≤ bn
  hbp : B ≤ bp
  ne : bn ≠ bp
  fine : Fine n J
  h0 : 0 ≤ n
  hn : n ≤ 4096
  len : J.length ≤ m

theorem map_blk_ne {P : Program} {k : TypeId} {w : World} {b n g : Nat} {f : Value → Option Value} {t : TypeId} {cs : Array Value} (h : MapAt P k w b n f) (hg : Blk w g t cs) : b ≠ g := fun e => by
  obtain ⟨es, c, ho⟩ := h.obj
  exact hg.obj_ne ho (fun _ _ _ h => by cases h) e.symm
theorem map_own_ne {P : Program} {k : TypeId} {w : World} {b n : Nat} {f : Value → Option Value} {base : Nat} {e : TypeId} {size n' : Nat} {v : Value} {xs : List Value} (h : MapAt P k w b n f) (ho : w.ownsRow base e size v n' xs) : v.ownBlock ≠ some b := by
  obtain ⟨es, c, hob⟩ := h.obj
  exact own_obj_ne ho hob (fun _ _ _ h => by cases h)

section
variable {w w' : World} {B bf bn bp m : Nat} {lj : Value} {N : Int → Value} {n : Int} {J : List Jn}
theorem FR.keep {S : Nat → Prop} (h : FR w B bf bn bp lj N n J m) (hk : Kept S w w') (h1 : ¬ S bf) (h2 : ¬ S bn) (h3 : ¬ S bp) (h4 : ∀ g, lj.ownBlock = some g → ¬ S g) (h5 : ∀ x g, (N x).ownBlock = some g → ¬ S g) : FR w' B bf bn bp lj N n J m := by
  obtain ⟨f, hf, hf2⟩ := h.near
  obtain ⟨q, hq, hq2⟩ := h.pairs
  exact { blk := h.blk.kept hk h1, own := clip_kept h.own hk h4, near := ⟨f, hf.kept hk h2, hf2⟩, rows := fun x => clip_kept (h.rows x) hk (h5 x), apart := h.apart, pairs := ⟨q, hq.kept hk h3, hq2⟩, hbf := h.hbf, hbn := h.hbn, hbp := h.hbp, ne := h.ne, fine := h.fine, h0 := h.h0, hn := h.hn, len := h.len }
theorem FR.below (h : FR w B bf bn bp lj N n J m) (hb : Below w.heap.size w w') : FR w' B bf bn bp lj N n J m :=
  h.keep (Kept.of_below (S := fun _ => False) hb) (fun h => h) (fun h => h) (fun h => h) (fun _ _ h => h) (fun _ _ _ h => h)
theorem FR.lt (h : FR w B bf bn bp lj N n J m) : bf < w.heap.size := h.blk.lt

theorem forest_info : (Try.prog.info? 86).map (fun i => (i.size, i.bytes)) = some (4, 48) := by kernel_rfl

theorem new_ok (n : Int) (h0 : 0 ≤ n) (hn : n ≤ 4096) (w : World) :
    Calls Try.prog 48 #[.int .i64 n] w fun e w' => ∃ bf bn bp, e = .returned (.pointer (some ⟨bf, 0, none⟩)) ∧ FR w' w.heap.size bf bn bp (.slice none 0 0) (fun _ => .slice none 0 0) n [] 0 ∧ Below w.heap.size w w' := by
  have d1 : decide (n < 0) = false := by simpa using h0
  have d2 : decide (4096 < n) = false := by simpa using hn
  have hmm := @run_makeMap Try.prog
  go_enter Try.func48, Try.ntmps48
  go_wp2
  go_ret
  refine ⟨w.heap.size + 1 + 1, w.heap.size, w.heap.size + 1, rfl, ?_, ((((Below.refl _ w).alloc (Nat.le_refl _) _).alloc (by simp) _).alloc (by simp; omega) _)⟩
  have hp : MapAt Try.prog 97 ((w.alloc (.map #[] 0)).alloc (.map #[] 0)) (w.heap.size + 1) 0 (fun _ => none) := by
    have := MapAt.made Try.prog 97 (w.alloc (.map #[] 0))
    rwa [World.size_alloc] at this
  exact { blk := Blk.new_at (by simp) _ _, own := clip_nil _ _ _ _, near := ⟨_, ((MapAt.made Try.prog 3 w).alloc _).alloc _, fun _ => .inr ⟨rfl, rfl⟩⟩, rows := fun _ => clip_nil _ _ _ _, apart := (fun _ _ _ _ h => by cases h), pairs := ⟨_, hp.alloc _, fun _ _ => .inl rfl⟩, hbf := by omega, hbn := Nat.le_refl _, hbp := by omega, ne := by omega, fine := ⟨.nil, (fun _ h => by cases h)⟩, h0 := h0, hn := hn, len := Nat.le_refl _ }
theorem new_nil (n : Int) (hn : n < 0 ∨ 4096 < n) (w : World) :
    Calls Try.prog 48 #[.int .i64 n] w fun e w' => e = .returned (.pointer none) ∧ w = w' := by
  by_cases h0 : n < 0
  · have d1 : decide (n < 0) = true := by simpa using h0
    go_enter Try.func48, Try.ntmps48
    go_wp2
    go_ret
    exact ⟨rfl, rfl⟩
  · have d1 : decide (n < 0) = false := by simpa using h0
    have d2 : decide (4096 < n) = true := by simp; omega
    go_enter Try.func48, Try.ntmps48
    go_wp2
    go_ret
    exact ⟨rfl, rfl⟩
theorem is_ok (h : FR w B bf bn bp lj N n J m) (x : Int) :
    Calls Try.prog 51 #[.pointer (some ⟨bf, 0, none⟩), .int .i64 x] w fun e w' => e = .returned (.bool (decide (0 ≤ x ∧ x < n))) ∧ w = w' := by
  have c0 := h.blk.cell 0
  simp only [List.getElem?_toArray, List.getElem?_cons_zero] at c0
  clear h
  by_cases h0 : 0 ≤ x
  · by_cases h1 : x < n
    · have d1 : decide (0 ≤ x) = true := by simpa using h0
      have d2 : decide (x < n) = true := by simpa using h1
      rw [show decide (0 ≤ x ∧ x < n) = true by simp; omega]
      go_enter Try.func51, Try.ntmps51
      go_wp2
      go_ret
      exact ⟨rfl, rfl⟩
    · have d1 : decide (0 ≤ x) = true := by simpa using h0
      have d2 : decide (x < n) = false := by simpa using h1
      rw [show decide (0 ≤ x ∧ x < n) = false by simp; omega]
      go_enter Try.func51, Try.ntmps51
      go_wp2
      go_ret
      exact ⟨rfl, rfl⟩
  · have d1 : decide (0 ≤ x) = false := by simpa using h0
    rw [show decide (0 ≤ x ∧ x < n) = false by simp; omega]
    go_enter Try.func51, Try.ntmps51
    go_wp2
    go_ret
    exact ⟨rfl, rfl⟩
theorem walk_ok (v : Value) (x : Int) (hv : v = .pointer none ∨ ∃ a, v = .pointer (some a)) :
    Calls Try.prog 69 #[v, .int .i64 x] w fun e w' => e = .returned (.func (.func 76) #[] #[.pointer (some ⟨w.heap.size + 1, 0, none⟩), .pointer (some ⟨w.heap.size, 0, none⟩)]) ∧
      (w.alloc (.cells #[v] 42)).alloc (.cells #[.int .i64 x] 3) = w' := by
  rcases hv with rfl | ⟨a, rfl⟩
  · go_enter Try.func69, Try.ntmps69
    go_wp2
    go_ret
    exact ⟨rfl, rfl⟩
  · go_enter Try.func69, Try.ntmps69
    go_wp2
    go_ret
    exact ⟨rfl, rfl⟩
end
end Go.Proofs.Ytbgbhfmchpdkcaa

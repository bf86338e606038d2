/- The reference's step read. -/
import Derived.Test.YtiklliiamljogaaGreatDoorPfX
import Derived.Test.YtiklliiamljogaaGreatDoorPfD
namespace Go.Proofs.YtiklliiamljogaaGreatDoor
open Go.RowKit

/-- Does an expression begin as a step of kind j, and has it as many parts? -/
def Hit (X : Sx) (j : Int) : Prop := X.kids.headD noSx = symS (headK j) ∧ X.kids.length = manyK j + 2
theorem hit_of {X : Sx} {s : Stp} (h : stepP X = some s) : ∃ j : Nat, j < 6 ∧ Hit X j := by
  obtain ⟨q, hq, hs⟩ := stepP_some h
  obtain ⟨r, rfl, hr, _⟩ := shape_form hq hs
  obtain ⟨_, h0, h6⟩ := kindT_eq hq
  obtain ⟨n, rfl⟩ := Int.eq_ofNat_of_zero_le h0
  exact ⟨n, by omega, rfl, by show r.length + 1 = _; rw [hr]⟩
theorem no_hit {X : Sx} (h : ∀ j : Nat, j < 6 → ¬ Hit X j) : stepP X = none := by
  cases hx : stepP X with
  | none => rfl
  | some s => obtain ⟨j, h1, h2⟩ := hit_of hx; exact absurd h2 (h j h1)
theorem hit_kind {X : Sx} {j : Nat} (h : Hit X j) (hl : isList X = true) (hj : j < 6) : kindT X.head = some (j : Int) := by
  obtain ⟨k, t, l⟩ := X
  obtain ⟨rfl, rfl⟩ := isList_eq hl
  obtain ⟨h1, h2⟩ := h
  cases l with
  | nil => cases h2
  | cons y r =>
    have : y = symS (headK j) := h1
    subst this
    unfold symS
    rw [head_list, if_pos rfl]
    exact head_kind (by omega) (by omega)
theorem hit_shape {X : Sx} {j : Nat} (h : Hit X j) (hl : isList X = true) (hj : j < 6) : shapeP X j = isList (X.kids.getD (manyK j + 1) noSx) := by
  have hk := hit_kind h hl hj
  unfold shapeP
  rw [hl, h.1, decide_eq_true h.2, (kindT_eq hk).1, (Sx.same_eq _ _).2 rfl]
  rfl
theorem num_is {x : Sx} {v : Int} (h : numP x = some v) : (parseN x.text).1 = v ∧ numQ x = v := by
  refine ⟨?_, by unfold numQ; rw [h]; rfl⟩
  obtain ⟨k, t, l⟩ := x
  unfold numP at h
  dsimp only at h
  split at h
  · injection h
  · cases h
theorem num_no {x : Sx} (h : numP x = none) : numQ x = -1 := by unfold numQ; rw [h]; rfl
/-- What the reference takes of the numbers ahead. -/
structure NumsAt (ns : List Sx) (a b : Int) (o f : Bool) : Prop where
  ok : (o && f) = (allP numP ns).isSome
  a : (o && f) = true → a = (ns.map numQ).getD 0 0
  b : (o && f) = true → b = (ns.map numQ).getD 1 0
theorem nums_0 : NumsAt [] 0 0 true true := ⟨rfl, fun _ => rfl, fun _ => rfl⟩
theorem nums_1 (x : Sx) : NumsAt [x] (parseN x.text).1 0 (numP x).isSome true := by
  cases h : numP x with
  | none => exact ⟨by rw [allP, h]; rfl, fun h => (by cases h), fun h => (by cases h)⟩
  | some v =>
    obtain ⟨h1, h2⟩ := num_is h
    exact ⟨by rw [allP, h]; rfl, fun _ => by rw [h1]; show v = numQ x; rw [h2], fun _ => rfl⟩
theorem nums_2 (x y : Sx) : NumsAt [x, y] (parseN x.text).1 (parseN y.text).1 (numP x).isSome (numP y).isSome := by
  cases h : numP x with
  | none => exact ⟨by rw [allP, h]; rfl, fun h => (by cases h), fun h => (by cases h)⟩
  | some v =>
    obtain ⟨h1, h2⟩ := num_is h
    cases h' : numP y with
    | none => exact ⟨by rw [allP, h, allP, h']; rfl, fun h => (by cases h), fun h => (by cases h)⟩
    | some u =>
      obtain ⟨h3, h4⟩ := num_is h'
      exact ⟨by rw [allP, h, allP, h']; rfl, fun _ => by rw [h1]; show v = numQ x; rw [h2], fun _ => by rw [h3]; show u = numQ y; rw [h4]⟩
theorem none_fit {l : List Sx} (h : allP numP l = none) : (l.map numQ).all fitN = false := by
  rcases numQ_all l with ⟨r, h1, _⟩ | ⟨_, h2⟩
  · rw [h] at h1; cases h1
  · exact h2
theorem may_fit {q : Int} {ns ls : List Int} (h2 : ns.length ≤ 2) (hc : ns.all fitN = false ∨ ls.all fitN = false) : (stepOf q ns ls).may = false := by
  cases hm : (stepOf q ns ls).may with
  | false => rfl
  | true =>
    obtain ⟨_, _, _, ha, hb, hls, _⟩ := (may_iff _).1 hm
    rcases hc with hc | hc
    · rw [ns_fit ns h2 ha hb] at hc; cases hc
    · rw [show (stepOf q ns ls).l = ls from rfl, hc] at hls; cases hls
theorem step_no_nums {X : Sx} {q : Int} (hq : kindT X.head = some q) (hs : shapeP X q = true) (h : allP numP (X.kids.tail.take (manyK q)) = none) : stepP X = none := by
  rw [stepP_yes hq hs, if_neg]
  unfold stepS
  rw [may_fit (by have := many_le q; rw [List.length_map, List.length_take]; omega) (.inl (none_fit h))]
  decide
theorem step_no_lits {X : Sx} {q : Int} (hq : kindT X.head = some q) (hs : shapeP X q = true) (h : allP numP (X.kids.getD (manyK q + 1) noSx).kids = none) : stepP X = none := by
  rw [stepP_yes hq hs, if_neg]
  unfold stepS
  rw [may_fit (by have := many_le q; rw [List.length_map, List.length_take]; omega) (.inr (none_fit h))]
  decide
theorem list_no {k : Int} {t : List UInt8} {l : List Sx} (h : k ≠ 3 ∨ t ≠ []) : isList (.mk k t l) = false := by
  cases hl : isList (.mk k t l) with
  | false => rfl
  | true =>
    obtain ⟨h1, h2⟩ := isList_eq hl
    rcases h with h | h
    · exact absurd h1 h
    · exact absurd h2 h
theorem step_no_list {X : Sx} (h : isList X = false) : stepP X = none := by
  cases hx : stepP X with
  | none => rfl
  | some s =>
    obtain ⟨q, _, hs⟩ := stepP_some hx
    unfold shapeP at hs
    rw [h] at hs
    cases hs
theorem step_no_len {X : Sx} (h : X.kids.length < 2) : stepP X = none := no_hit fun j _ hh => by have := hh.2; omega

/-- One of the parts, as it lies. -/
structure KidAt (w : World) (b off i : Nat) (y : Sx) (k : Int) (t : ByteArray) (B : Option Addr) (n m : Nat) : Prop where
  cells : ∀ w1, Below w.heap.size w w1 → w1.cell? ⟨b, off + i * 3, none⟩ = some (.int .i8 k) ∧ w1.cell? ⟨b, off + i * 3 + 1, none⟩ = some (.string t) ∧ w1.cell? ⟨b, off + i * 3 + 2, none⟩ = some (.slice B n m)
  lies : ∀ w1, Below w.heap.size w w1 → Lies (fun _ => True) w1 (.agg #[.int .i8 k, .string t, .slice B n m]) y
theorem kid_at {w : World} {b off : Nat} {l : List Sx} (h : Kids (fun _ => True) w (some ⟨b, off, none⟩) l) {i : Nat} (hi : i < l.length) : ∃ k t B n m, KidAt w b off i l[i] k t B n m := by
  obtain ⟨b', off', k, t, B, n, m, e, _, hlt, h0, h1, h2, hy⟩ := h i hi
  injection e with e
  injection e with e1 e2
  subst e1 e2
  exact ⟨k, t, B, n, m, fun w1 hb => ⟨(hb.cell (p := ⟨b, off + i * 3, none⟩) hlt).trans h0, (hb.cell (p := ⟨b, off + i * 3 + 1, none⟩) hlt).trans h1, (hb.cell (p := ⟨b, off + i * 3 + 2, none⟩) hlt).trans h2⟩, fun w1 hb => hy.keep hb⟩

theorem step_no_nums2 {X : Sx} {q : Int} (hq : kindT X.head = some q) (h : allP numP (X.kids.tail.take (manyK q)) = none) : stepP X = none := by
  cases hs : shapeP X q with
  | true => exact step_no_nums hq hs h
  | false => exact stepP_not hq hs
theorem Lies.form {S : Nat → Prop} {w : World} {B : Option Addr} {n c : Nat} {k : Int} {t : ByteArray} {x : Sx} (h : Lies S w (.agg #[.int .i8 k, .string t, .slice B n c]) x) : ∃ ls, x = .mk k (byts t) ls ∧ n = ls.length ∧ Kids S w B ls := by
  obtain ⟨k', T, l⟩ := x
  obtain ⟨t', A', c', hv, hT, _, _, _, hk⟩ := h.open_
  injection hv with e
  injection e with e
  injection e with e0 e
  injection e with e1 e
  injection e with e2 e
  injection e0 with _ e0
  injection e1 with e1
  injection e2 with a1 a2 a3
  subst a1 e0 e1
  exact ⟨l, by rw [hT], a2, hk⟩
theorem blk8 {w : World} {b : Nat} {t : TypeId} {c0 c1 c2 c3 : Value} (h : Blk w b t #[c0, c1, c2, c3]) :
    w.cell? ⟨b, 0, none⟩ = some c0 ∧ w.cell? ⟨b, 1, none⟩ = some c1 ∧ w.cell? ⟨b, 2, none⟩ = some c2 ∧ w.cell? ⟨b, 3, none⟩ = some c3 ∧ w.frozen? ⟨b, 0, none⟩ = false ∧ w.frozen? ⟨b, 1, none⟩ = false ∧ w.frozen? ⟨b, 2, none⟩ = false ∧ w.frozen? ⟨b, 3, none⟩ = false :=
  ⟨h.cell 0, h.cell 1, h.cell 2, h.cell 3, h.frozen 0, h.frozen 1, h.frozen 2, h.frozen 3⟩
/-- The literals' loop: the step at S8, the last part at lb. -/
structure R2 (W : World) (S8 lb : Nat) (q a b k2 : Int) (t2 : ByteArray) (B2 : Option Addr) (n2 m2 : Nat) (L : List Int) (wx : World) : Prop where
  below : Below W.heap.size W wx
  st : ∃ lv, Blk wx S8 46 #[.int .i8 q, .int .i64 a, .int .i64 b, lv] ∧ wx.ownsRow (lb + 1) 3 1 lv L.length (L.map (Value.int .i64))
  last : Blk wx lb 28 #[.int .i8 k2, .string t2, .slice B2 n2 m2]
  lt : W.heap.size ≤ S8 ∧ S8 < lb
theorem R2.keep {W w w' : World} {S8 lb : Nat} {q a b k2 : Int} {t2 : ByteArray} {B2 : Option Addr} {n2 m2 : Nat} {L : List Int} (h : R2 W S8 lb q a b k2 t2 B2 n2 m2 L w) (hb : Below w.heap.size w w') : R2 W S8 lb q a b k2 t2 B2 n2 m2 L w' := by
  obtain ⟨lv, h1, h2⟩ := h.st
  exact ⟨below_then h.below (Nat.le_refl _) hb, ⟨lv, h1.below hb h1.lt, own_kept h2 (Kept.of_below (S := fun _ => False) hb) (fun _ _ h => h)⟩, h.last.below hb h.last.lt, h.lt⟩
theorem R2.push {W w w1 : World} {S8 lb g cap : Nat} {q a b k2 x : Int} {t2 : ByteArray} {B2 : Option Addr} {n2 m2 : Nat} {L : List Int} {lv : Value} (h : R2 W S8 lb q a b k2 t2 B2 n2 m2 L w) (hb : Blk w S8 46 #[.int .i8 q, .int .i64 a, .int .i64 b, lv]) (ho : w.ownsRow (lb + 1) 3 1 lv L.length (L.map (Value.int .i64)))
    (hown : w1.ownsRow (lb + 1) 3 1 (.slice (some ⟨g, 0, none⟩) (L.length + 1) cap) (L.length + 1) (L.map (Value.int .i64) ++ [.int .i64 x])) (hg : (w.alloc (.cells #[.int .i64 x] 3)).grownBy w1 lv.ownBlock) :
    R2 W S8 lb q a b k2 t2 B2 n2 m2 (L ++ [x]) (w1.setCell ⟨S8, 3, none⟩ (.slice (some ⟨g, 0, none⟩) (L.length + 1) cap)) := by
  have b1 := (hb.alloc (.cells #[.int .i64 x] 3)).grown hg (fun e => own_blk_ne ho hb (by decide) e.symm)
  have k5 : Kept (fun i => i = S8 ∨ lv.ownBlock = some i) w (w1.setCell ⟨S8, 3, none⟩ (.slice (some ⟨g, 0, none⟩) (L.length + 1) cap)) :=
    (((Kept.refl _ w).alloc _).grown hg (fun k hk => .inl (.inr hk))).setCell (p := ⟨S8, 3, none⟩) (.inl (.inl rfl)) _
  have hl := h.lt
  have := h.below.size
  refine ⟨h.below.trans (k5.below (by omega) (fun k hk => ?_)), ⟨_, b1.set_ 3 _, ?_⟩, h.last.kept k5 ?_, hl⟩
  · rcases hk with hk | hk
    · omega
    · have := (ho.lt k hk).1; omega
  · rw [List.length_append, List.length_singleton, List.map_append]
    exact own_kept hown (Kept.set1 w1 S8 3 _) (fun k hk e => own_blk_ne hown b1 (by decide) (e ▸ hk))
  · rintro (hc | hc)
    · omega
    · exact own_blk_ne ho h.last (by decide) hc
theorem rstep_s8 {w : World} {S8 H1 : Nat} {c0 c1 c2 c3 : Value} (hne : S8 ≠ H1) (h : Blk w S8 46 #[c0, c1, c2, c3]) (d0 d1 d2 d3 : Value) :
    ((((w.setCell ⟨H1, 0, none⟩ d0).setCell ⟨H1, 1, none⟩ d1).setCell ⟨H1, 2, none⟩ d2).setCell ⟨H1, 3, none⟩ d3).cell? ⟨S8, 0, none⟩ = some c0 ∧ ((((w.setCell ⟨H1, 0, none⟩ d0).setCell ⟨H1, 1, none⟩ d1).setCell ⟨H1, 2, none⟩ d2).setCell ⟨H1, 3, none⟩ d3).cell? ⟨S8, 1, none⟩ = some c1 ∧
    ((((w.setCell ⟨H1, 0, none⟩ d0).setCell ⟨H1, 1, none⟩ d1).setCell ⟨H1, 2, none⟩ d2).setCell ⟨H1, 3, none⟩ d3).cell? ⟨S8, 2, none⟩ = some c2 ∧ ((((w.setCell ⟨H1, 0, none⟩ d0).setCell ⟨H1, 1, none⟩ d1).setCell ⟨H1, 2, none⟩ d2).setCell ⟨H1, 3, none⟩ d3).cell? ⟨S8, 3, none⟩ = some c3 :=
  blk4 ((((h.far (p := ⟨H1, 0, none⟩) hne d0).far (p := ⟨H1, 1, none⟩) hne d1).far (p := ⟨H1, 2, none⟩) hne d2).far (p := ⟨H1, 3, none⟩) hne d3)
theorem rstep_fin {X : Sx} {w W wr w9 : World} {H1 D : Nat} {q a b : Int} {M : List Int} {my : Bool} {LA : Option Addr} {lc : Nat} {c0 c1 c2 c3 : Value} (hW : Below w.heap.size w W) (hr : Below W.heap.size W wr) (h9 : Below wr.drew.heap.size wr.drew w9) (hH : Blk w9 H1 46 #[c0, c1, c2, c3])
    (hy : stepP X = if my = true then some (stepS X q) else none) (hs : stepS X q = ⟨q, a, b, M⟩) (ho : wr.drew.ownsRow D 3 1 (.slice LA M.length lc) M.length (M.map (Value.int .i64))) (hl : M.length ≤ 1000000) (hH1 : w.heap.size ≤ H1) (hD : w.heap.size ≤ D) :
    Blk ((((w9.setCell ⟨H1, 0, none⟩ (.int .i8 q)).setCell ⟨H1, 1, none⟩ (.int .i64 a)).setCell ⟨H1, 2, none⟩ (.int .i64 b)).setCell ⟨H1, 3, none⟩ (.slice LA M.length lc)) H1 46 #[.int .i8 q, .int .i64 a, .int .i64 b, .slice LA M.length lc] ∧
    StepOut X w ((((w9.setCell ⟨H1, 0, none⟩ (.int .i8 q)).setCell ⟨H1, 1, none⟩ (.int .i64 a)).setCell ⟨H1, 2, none⟩ (.int .i64 b)).setCell ⟨H1, 3, none⟩ (.slice LA M.length lc)) (.returned (.tuple #[.agg #[.int .i8 q, .int .i64 a, .int .i64 b, .slice LA M.length lc], .bool my])) := by
  have hbd : Below w.heap.size w wr.drew := (below_then hW (Nat.le_refl _) hr).drew
  have hb := below_then hbd (Nat.le_refl _) h9
  have ho9 := own_kept ho (Kept.of_below (S := fun _ => False) h9) (fun _ _ h => h)
  have hE : Kept (fun i => i = H1) w9 ((((w9.setCell ⟨H1, 0, none⟩ (.int .i8 q)).setCell ⟨H1, 1, none⟩ (.int .i64 a)).setCell ⟨H1, 2, none⟩ (.int .i64 b)).setCell ⟨H1, 3, none⟩ (.slice LA M.length lc)) :=
    Kept.setCell (S := fun i => i = H1) (p := ⟨H1, 3, none⟩) (Kept.setCell (S := fun i => i = H1) (p := ⟨H1, 2, none⟩) (Kept.setCell (S := fun i => i = H1) (p := ⟨H1, 1, none⟩) (Kept.setCell (S := fun i => i = H1) (p := ⟨H1, 0, none⟩) (Kept.refl _ w9) (.inl rfl) _) (.inl rfl) _) (.inl rfl) _) (.inl rfl) _
  refine ⟨hH.set4 _ _ _ _, StepOut.of hy hs (own_kept ho9 hE (fun g hg e => own_blk_ne ho9 hH (by decide) (e ▸ hg))) hl hD (hb.trans (hE.below hb.size (fun k hk => by omega)))⟩
theorem rstep_mid {W wc : World} {S8 : Nat} {q : Int} (hb : Below W.heap.size W wc) (hS : Blk wc S8 46 #[.int .i8 q, .int .i64 0, .int .i64 0, .slice none 0 0]) (h8 : S8 < wc.heap.size) (h0 : W.heap.size ≤ S8) (a b k2 : Int) (t2 : ByteArray) (B2 : Option Addr) (n2 m2 : Nat) :
    ∃ wS wL, (wc.setCell ⟨S8, 1, none⟩ (.int .i64 a)).setCell ⟨S8, 2, none⟩ (.int .i64 b) = wS ∧ wS.alloc (.cells #[.int .i8 k2, .string t2, .slice B2 n2 m2] 28) = wL ∧ wS.heap.size = wc.heap.size ∧ (∀ g i, g ≠ S8 → wS.cell? ⟨g, i, none⟩ = wc.cell? ⟨g, i, none⟩) ∧ R2 W S8 wc.heap.size q a b k2 t2 B2 n2 m2 [] wL := by
  refine ⟨_, _, rfl, rfl, by simp [World.setCell], fun g i hg => ?_, ?_⟩
  · rw [World.cell?_of_block (Below.heap_setCell _ ⟨S8, 2, none⟩ _ g hg), World.cell?_of_block (Below.heap_setCell _ ⟨S8, 1, none⟩ _ g hg)]
  have hb2 : Below W.heap.size W ((wc.setCell ⟨S8, 1, none⟩ (.int .i64 a)).setCell ⟨S8, 2, none⟩ (.int .i64 b)) := (hb.setCell (p := ⟨S8, 1, none⟩) h0 _).setCell (p := ⟨S8, 2, none⟩) h0 _
  have hs2 := (hS.set_ 1 (.int .i64 a)).set_ 2 (.int .i64 b)
  have hsz : ((wc.setCell ⟨S8, 1, none⟩ (.int .i64 a)).setCell ⟨S8, 2, none⟩ (.int .i64 b)).heap.size = wc.heap.size := by simp [World.setCell]
  generalize (wc.setCell ⟨S8, 1, none⟩ (.int .i64 a)).setCell ⟨S8, 2, none⟩ (.int .i64 b) = wS at *
  exact ⟨hb2.alloc hb2.size _, ⟨_, hs2.alloc _, World.ownsRow_nil _ _ _ _⟩, Blk.new_at hsz _ _, h0, h8⟩
theorem kid_at2 {w : World} {A : Option Addr} {l : List Sx} (h : Kids (fun _ => True) w A l) {i : Nat} (hi : i < l.length) : ∃ k t B n m, ∃ b off, A = some ⟨b, off, none⟩ ∧ KidAt w b off i l[i] k t B n m := by
  obtain ⟨b, off, _, _, _, _, _, rfl, _⟩ := h i hi
  obtain ⟨k, t, B, n, m, hk⟩ := kid_at h hi
  exact ⟨k, t, B, n, m, b, off, rfl, hk⟩
/-- A number ahead, or none. -/
def First (n : Nat) (y : Sx) (m : Nat) (a : Int) (o : Bool) : Prop := (n ≤ m ∧ a = 0 ∧ o = true) ∨ (m < n ∧ a = (parseN y.text).1 ∧ o = (numP y).isSome)
theorem First.no {n m : Nat} {y : Sx} (h : n ≤ m) : First n y m 0 true := .inl ⟨h, rfl, rfl⟩
theorem First.yes {n m : Nat} {y : Sx} (h : m < n) : First n y m (parseN y.text).1 (numP y).isSome := .inr ⟨h, rfl, rfl⟩
theorem nums_at {l : List Sx} {n : Nat} {a b : Int} {o f : Bool} (h : l.length = n + 2) (hn : n ≤ 2) (h1 : First n (l.getD 1 noSx) 0 a o) (h2 : First n (l.getD 2 noSx) 1 b f) : NumsAt (l.tail.take n) a b o f := by
  rcases h1 with ⟨g1, rfl, rfl⟩ | ⟨g1, rfl, rfl⟩
  · obtain rfl : n = 0 := by omega
    rcases h2 with ⟨g2, rfl, rfl⟩ | ⟨g2, _⟩
    · rw [List.take_zero]; exact nums_0
    · omega
  · rcases h2 with ⟨g2, rfl, rfl⟩ | ⟨g2, rfl, rfl⟩
    · obtain rfl : n = 1 := by omega
      rcases l with _ | ⟨a, _ | ⟨b, r⟩⟩
      · cases h
      · cases h
      · exact nums_1 b
    · obtain rfl : n = 2 := by omega
      rcases l with _ | ⟨a, _ | ⟨b, _ | ⟨d, r⟩⟩⟩
      · cases h
      · cases h
      · cases h
      · exact nums_2 b d
set_option maxHeartbeats 1000000 in
set_option maxRecDepth 100000 in
theorem rstep_ok (x : Sx) (hm : x.mass ≤ 100000) (v : Value) (w : World) (hv : Lies (fun _ => True) w v x) :
    Calls Tryz.prog 37 #[v] w fun e w' => StepOut x w w' e := by
  obtain ⟨k, T, l⟩ := x
  obtain ⟨t, A, c, rfl, rfl, hlc, hnil, hmax, hk⟩ := hv.open_
  obtain ⟨w0, e0⟩ : ∃ w0, w.alloc (.cells #[.int .i8 k, .string t, .slice A l.length c] 28) = w0 := ⟨_, rfl⟩
  obtain ⟨W, eW⟩ : ∃ W, w0.alloc (.cells #[.int .i8 0, .int .i64 0, .int .i64 0, .slice none 0 0] 46) = W := ⟨_, rfl⟩
  have hs0 : w0.heap.size = w.heap.size + 1 := by rw [← e0]; simp
  have hsW : W.heap.size = w.heap.size + 2 := by rw [← eW]; simp; omega
  have b0 : Below w.heap.size w w0 := e0 ▸ (Below.refl _ w).alloc (Nat.le_refl _) _
  have bW : Below w0.heap.size w0 W := eW ▸ (Below.refl _ w0).alloc (Nat.le_refl _) _
  have hbW : Below w.heap.size w W := below_then b0 (Nat.le_refl _) bW
  have hBox : Blk W w.heap.size 28 #[.int .i8 k, .string t, .slice A l.length c] := (e0 ▸ Blk.new w _ _ : Blk w0 _ _ _).below bW (by omega)
  have hRes : Blk W w0.heap.size 46 #[.int .i8 0, .int .i64 0, .int .i64 0, .slice none 0 0] := eW ▸ Blk.new w0 _ _
  have HW := Lib.hid hbW
  have HBOX := Lib.hid (fun w1 (h1 : Below W.heap.size W w1) => hBox.below h1 hBox.lt)
  have HRES := Lib.hid (fun w1 (h1 : Below W.heap.size W w1) => hRes.below h1 hRes.lt)
  have HK0 := Lib.hid hk
  have HM := Lib.hid hm
  have HSW := Lib.hid hsW
  have HS0 := Lib.hid hs0
  obtain ⟨X, hX⟩ : ∃ X, Sx.mk k (byts t) l = X := ⟨_, rfl⟩
  rw [hX] at HM ⊢
  have HX := Lib.hid hX
  have HENDF := Lib.hid (fun (w1 : World) (h1 : Below W.heap.size W w1) (h : stepP X = none) => step_end (X := X) hs0 hbW h1 (hRes.below h1 hRes.lt) h)
  obtain ⟨x0, x1, x2, f0, f1, f2⟩ := blk3 hBox
  clear hv hk hm hsW hs0 b0 bW hbW hBox hRes hX
  go_enter Tryz.func37, Tryz.ntmps37
  by_cases hk3 : k = 3
  · subst hk3
    by_cases hl2 : l.length < 2
    · have d2 : decide ((l.length : Int) < 2) = true := decide_eq_true (by omega)
      have HNO := Lib.hid (step_no_len (X := X) (by rw [← HX.out]; exact hl2))
      clear hl2
      obtain ⟨r0, r1, r2, r3, f0, f1, f2, f3, w2, e2, hb2, hend⟩ := HENDF.out W (Below.refl _ _) HNO.out
      have HE := Lib.hid hend
      clear hend
      go_wp2
      obtain ⟨v0, v1, v2, v3⟩ := blk4 hb2
      refine bodyPost_ret (v := .tuple #[.agg #[.int .i8 0, .int .i64 0, .int .i64 0, .slice none 0 0], .bool false]) ?_ rfl HE.out
      simp [results, Tryz.results37, go_sem, v0, v1, v2, v3]
    · have d2 : decide ((l.length : Int) < 2) = false := decide_eq_false (by omega)
      by_cases ht : byts t = []
      · obtain rfl : t = ⟨#[]⟩ := byts_one ht
        have hlz : (0 : Int) < (l.length : Int) := by omega
        have hlpos : 0 < l.length := by omega
        have HLI := Lib.hid (show isList X = true by rw [← HX.out]; rfl)
        clear ht hl2
        go_wp2
        have hAb : ∃ b off, A = some ⟨b, off, none⟩ := by
          obtain ⟨b, off, _, _, _, _, _, e, _⟩ := HK0.out 0 hlpos
          exact ⟨b, off, e⟩
        obtain ⟨b, off, rfl⟩ := hAb
        go_loopw [4] (fun d wx => ∃ i : Nat, i ≤ 6 ∧ d = .int .i8 i ∧ Below W.heap.size W wx ∧ ∀ j : Nat, j < i → ¬ Hit X j) (fun d _ => (6 - intOf d).toNat)
        case atStart => exact ⟨0, by omega, rfl, Below.refl _ _, fun j h => absurd h (Nat.not_lt_zero _)⟩
        case round =>
          obtain ⟨i, hi, rfl, hB, hnh⟩ := hrel
          have HB := Lib.hid hB
          have HNH := Lib.hid hnh
          clear hB hnh
          by_cases hi6 : i = 6
          · subst hi6
            have HNO := Lib.hid (no_hit HNH.out)
            obtain ⟨r0, r1, r2, r3, f0, f1, f2, f3, w2, e2, hb2, hend⟩ := HENDF.out wr HB.out HNO.out
            have HE := Lib.hid hend
            clear hend
            go_wp2
            obtain ⟨v0, v1, v2, v3⟩ := blk4 hb2
            refine bodyPost_ret (v := .tuple #[.agg #[.int .i8 0, .int .i64 0, .int .i64 0, .slice none 0 0], .bool false]) ?_ rfl HE.out
            simp [results, Tryz.results37, go_sem, v0, v1, v2, v3]
          · have hi5 : i < 6 := by omega
            have d3 : decide ((i : Int) ≤ 5) = true := decide_eq_true (by omega)
            have hi6z : (i : Int) < 6 := by omega
            have hHD := fun w1 => rhead_ok (i : Int) (by omega) (by omega) w1
            have hMN := rmany_ok (i : Int) (by omega) (by omega) wr
            obtain ⟨n, hn⟩ : ∃ n, manyK (i : Int) = n := ⟨_, rfl⟩
            have hn2 : n ≤ 2 := hn ▸ many_le _
            have hn2z : (n : Int) ≤ 2 := by omega
            rw [hn] at hMN
            have HN := Lib.hid hn
            have HHD := Lib.hid hHD
            have HMN := Lib.hid hMN
            obtain ⟨b', off', k1, t1, B1, n1, m1, hA, _, hlt, z0, z1, z2, hy⟩ := HK0.out 0 hlpos
            injection hA with hA
            injection hA with hA1 hA2
            subst hA1 hA2
            rw [Nat.zero_mul, Nat.add_zero] at z0 z1 z2
            obtain ⟨Y0, hY0⟩ : ∃ Y0, l[0] = Y0 := ⟨_, rfl⟩
            rw [hY0] at hy
            have HY0 := Lib.hid (show l.headD noSx = Y0 by rw [← hY0]; exact headD_get l hlpos)
            have HKP := Lib.hid (fun (w1 : World) (h1 : Below W.heap.size W w1) => step_cells (blk3 (HBOX.out w1 h1)) hlt (below_then HW.out (Nat.le_refl _) h1) z0 z1 z2)
            have HSY := Lib.hid (fun (w1 : World) => rsym_ok ⟨(headK (i : Int)).toArray⟩ w1)
            have HSA := Lib.hid (fun (w1 : World) (h1 : Below W.heap.size W w1) => rsame_at Y0 (symS (headK (i : Int))) _ _ w1 (hy.keep (below_then HW.out (Nat.le_refl _) h1)) (sym_of _ w1 (headK (i : Int))))
            obtain ⟨sm, hsm⟩ : ∃ sm, Y0.same (symS (headK (i : Int))) = sm := ⟨_, rfl⟩
            rw [hsm] at HSA
            have HSM := Lib.hid hsm
            obtain ⟨hb, hhb⟩ : ∃ hb : ByteArray, (⟨(headK (i : Int)).toArray⟩ : ByteArray) = hb := ⟨_, rfl⟩
            rw [hhb] at HHD HSY HSA
            have hbd : Below W.heap.size W wr.drew := ⟨HB.out.os, HB.out.tape, HB.out.output, HB.out.size, HB.out.block⟩
            have HBd := Lib.hid hbd
            obtain ⟨x0, x1, x2, _⟩ := blk3 (HBOX.out wr HB.out)
            clear hn hHD hMN hlt z0 z1 z2 hY0 hy hsm hhb hi6 hbd
            cases hsm : sm with
            | false =>
              have HNH2 := Lib.hid (show ∀ j : Nat, j < i + 1 → ¬ Hit X j from fun j hj hh => by
                rcases Nat.lt_or_ge j i with h | h
                · exact HNH.out j h hh
                · obtain rfl : j = i := by omega
                  have h1 := hh.1
                  rw [show X.kids = l by rw [← HX.out]; rfl, HY0.out] at h1
                  have h2 := HSM.out
                  rw [h1, (Sx.same_eq _ _).2 rfl, hsm] at h2
                  cases h2)
              rw [hsm] at HSA
              clear hsm
              go_wp2_with (go_at_call 53; refine HMN.out.mono ?_; rintro e w1 ⟨rfl, rfl⟩)
              refine wp_region_quiet (C := fun w' => Below W.heap.size W w') (by kernel_rfl) (by kernel_rfl) (HBd.out) ?_
              refine QW.lit ?_
              refine qw_want rfl ?_ (fun w' hw' => ?_) ?_
              rotate_left
              · unfold Oper.quietAt
                go_simp
                exact rfl
              simp only [Act.put, List.setIfInBounds_toArray, List.set_cons_succ, List.set_cons_zero]
              refine qw_want rfl ?_ (fun w' hw' => ?_) ?_
              rotate_left
              · obtain ⟨y0, y1, y2, y3, y4, y5⟩ := HKP.out w' hw'
                unfold Oper.quietAt
                go_simp
                exact rfl
              simp only [Act.put, List.setIfInBounds_toArray, List.set_cons_succ, List.set_cons_zero]
              refine qw_want rfl ?_ (fun w' hw' => ?_) ?_
              rotate_left
              · obtain ⟨y0, y1, y2, y3, y4, y5⟩ := HKP.out w' hw'
                unfold Oper.quietAt
                go_simp
                exact rfl
              simp only [Act.put, List.setIfInBounds_toArray, List.set_cons_succ, List.set_cons_zero]
              refine qw_want rfl ?_ (fun w' hw' => ?_) ?_
              rotate_left
              · obtain ⟨y0, y1, y2, y3, y4, y5⟩ := HKP.out w' hw'
                unfold Oper.quietAt
                go_simp
                exact rfl
              simp only [Act.put, List.setIfInBounds_toArray, List.set_cons_succ, List.set_cons_zero]
              refine qw_want rfl ?_ (fun w' hw' => ?_) ?_
              rotate_left
              · unfold Oper.quietAt
                go_simp
                exact rfl
              simp only [Act.put, List.setIfInBounds_toArray, List.set_cons_succ, List.set_cons_zero]
              refine qw_want rfl (.string hb) (fun w' hw' => ?_) ?_
              · unfold Oper.quietAt
                go_simp
                refine (HHD.out w').mono ?_
                rintro e w2 ⟨rfl, rfl⟩
                exact ⟨rfl, hw'⟩
              simp only [Act.put, List.setIfInBounds_toArray, List.set_cons_succ, List.set_cons_zero]
              refine qw_want rfl (.agg #[.int .i8 0, .string hb, .slice none 0 0]) (fun w' hw' => ?_) ?_
              · unfold Oper.quietAt
                go_simp
                refine (HSY.out w').mono ?_
                rintro e w2 ⟨rfl, hb⟩
                have hz := below_then hw' (Nat.le_refl _) hb
                exact ⟨rfl, by simpa using hz⟩
              simp only [Act.put, List.setIfInBounds_toArray, List.set_cons_succ, List.set_cons_zero]
              refine qw_want rfl (.bool false) (fun w' hw' => ?_) ?_
              · unfold Oper.quietAt
                go_simp
                refine (HSA.out w' hw').mono ?_
                rintro e w2 ⟨rfl, hb⟩
                have hz := below_then hw' (Nat.le_refl _) hb
                exact ⟨rfl, by simpa using hz⟩
              simp only [Act.put, List.setIfInBounds_toArray, List.set_cons_succ, List.set_cons_zero]
              refine qw_want rfl (.bool true) (fun w' hw' => ?_) ?_
              · unfold Oper.quietAt
                go_simp
              simp only [Act.put, List.setIfInBounds_toArray, List.set_cons_succ, List.set_cons_zero]
              refine qw_want rfl (.bool true) (fun w' hw' => ?_) ?_
              · unfold Oper.quietAt
                go_simp
              simp only [Act.put, List.setIfInBounds_toArray, List.set_cons_succ, List.set_cons_zero]
              refine qw_skip (by rfl) ?_
              simp only [Act.put, List.setIfInBounds_toArray, List.set_cons_succ, List.set_cons_zero]
              refine qw_skip (by rfl) ?_
              simp only [Act.put, List.setIfInBounds_toArray, List.set_cons_succ, List.set_cons_zero]
              refine qw_skip (by rfl) ?_
              simp only [Act.put, List.setIfInBounds_toArray, List.set_cons_succ, List.set_cons_zero]
              refine qw_skip (by rfl) ?_
              simp only [Act.put, List.setIfInBounds_toArray, List.set_cons_succ, List.set_cons_zero]
              refine qw_skip (by rfl) ?_
              simp only [Act.put, List.setIfInBounds_toArray, List.set_cons_succ, List.set_cons_zero]
              refine qw_skip (by rfl) ?_
              simp only [Act.put, List.setIfInBounds_toArray, List.set_cons_succ, List.set_cons_zero]
              refine qw_want rfl (.bool true) (fun w' hw' => ?_) ?_
              · unfold Oper.quietAt
                go_simp
              simp only [Act.put, List.setIfInBounds_toArray, List.set_cons_succ, List.set_cons_zero]
              refine qw_end (fun w5 hb5 => ?_)
              have HB5 := Lib.hid hb5
              clear hb5
              go_wp2
              go_roundw
              case rel => exact ⟨i + 1, by omega, by go_num, HB5.out, HNH2.out⟩
              case measure => simp only [intOf]; omega
            | true =>
              rw [hsm] at HSA HSM
              clear hsm
              have hwr : IntKind.i64.wrap ((n : Int) + 2) = (n : Int) + 2 := by rw [IntKind.wrap_i64]; omega
              by_cases hlen : l.length = n + 2
              · have d5 : ((l.length : Int) != (n : Int) + 2) = false := bne_eq_false_iff_eq.2 (by omega)
                have HIT := Lib.hid (show Hit X i from ⟨by rw [show X.kids = l by rw [← HX.out]; rfl, HY0.out]; exact (Sx.same_eq _ _).1 HSM.out, by rw [show X.kids = l by rw [← HX.out]; rfl, HN.out]; exact hlen⟩)
                have HKT := Lib.hid (hit_kind HIT.out HLI.out hi5)
                have hshp := hit_shape HIT.out HLI.out hi5
                rw [show X.kids = l by rw [← HX.out]; rfl, HN.out] at hshp
                have HSHP := Lib.hid hshp
                have HLEN := Lib.hid hlen
                clear hshp hlen
                go_wp2_with (go_at_call 53; refine HMN.out.mono ?_; rintro e w1 ⟨rfl, rfl⟩)
                refine wp_region_quiet (C := fun w' => Below W.heap.size W w') (by kernel_rfl) (by kernel_rfl) (HBd.out) ?_
                refine QW.lit ?_
                refine qw_want rfl ?_ (fun w' hw' => ?_) ?_
                rotate_left
                · unfold Oper.quietAt
                  go_simp
                  exact rfl
                simp only [Act.put, List.setIfInBounds_toArray, List.set_cons_succ, List.set_cons_zero]
                refine qw_want rfl ?_ (fun w' hw' => ?_) ?_
                rotate_left
                · obtain ⟨y0, y1, y2, y3, y4, y5⟩ := HKP.out w' hw'
                  unfold Oper.quietAt
                  go_simp
                  exact rfl
                simp only [Act.put, List.setIfInBounds_toArray, List.set_cons_succ, List.set_cons_zero]
                refine qw_want rfl ?_ (fun w' hw' => ?_) ?_
                rotate_left
                · obtain ⟨y0, y1, y2, y3, y4, y5⟩ := HKP.out w' hw'
                  unfold Oper.quietAt
                  go_simp
                  exact rfl
                simp only [Act.put, List.setIfInBounds_toArray, List.set_cons_succ, List.set_cons_zero]
                refine qw_want rfl ?_ (fun w' hw' => ?_) ?_
                rotate_left
                · obtain ⟨y0, y1, y2, y3, y4, y5⟩ := HKP.out w' hw'
                  unfold Oper.quietAt
                  go_simp
                  exact rfl
                simp only [Act.put, List.setIfInBounds_toArray, List.set_cons_succ, List.set_cons_zero]
                refine qw_want rfl ?_ (fun w' hw' => ?_) ?_
                rotate_left
                · unfold Oper.quietAt
                  go_simp
                  exact rfl
                simp only [Act.put, List.setIfInBounds_toArray, List.set_cons_succ, List.set_cons_zero]
                refine qw_want rfl (.string hb) (fun w' hw' => ?_) ?_
                · unfold Oper.quietAt
                  go_simp
                  refine (HHD.out w').mono ?_
                  rintro e w2 ⟨rfl, rfl⟩
                  exact ⟨rfl, hw'⟩
                simp only [Act.put, List.setIfInBounds_toArray, List.set_cons_succ, List.set_cons_zero]
                refine qw_want rfl (.agg #[.int .i8 0, .string hb, .slice none 0 0]) (fun w' hw' => ?_) ?_
                · unfold Oper.quietAt
                  go_simp
                  refine (HSY.out w').mono ?_
                  rintro e w2 ⟨rfl, hb⟩
                  have hz := below_then hw' (Nat.le_refl _) hb
                  exact ⟨rfl, by simpa using hz⟩
                simp only [Act.put, List.setIfInBounds_toArray, List.set_cons_succ, List.set_cons_zero]
                refine qw_want rfl (.bool true) (fun w' hw' => ?_) ?_
                · unfold Oper.quietAt
                  go_simp
                  refine (HSA.out w' hw').mono ?_
                  rintro e w2 ⟨rfl, hb⟩
                  have hz := below_then hw' (Nat.le_refl _) hb
                  exact ⟨rfl, by simpa using hz⟩
                simp only [Act.put, List.setIfInBounds_toArray, List.set_cons_succ, List.set_cons_zero]
                refine qw_want rfl (.bool false) (fun w' hw' => ?_) ?_
                · unfold Oper.quietAt
                  go_simp
                simp only [Act.put, List.setIfInBounds_toArray, List.set_cons_succ, List.set_cons_zero]
                refine qw_want rfl (.bool false) (fun w' hw' => ?_) ?_
                · unfold Oper.quietAt
                  go_simp
                simp only [Act.put, List.setIfInBounds_toArray, List.set_cons_succ, List.set_cons_zero]
                refine qw_want rfl ?_ (fun w' hw' => ?_) ?_
                rotate_left
                · obtain ⟨y0, y1, y2, y3, y4, y5⟩ := HKP.out w' hw'
                  unfold Oper.quietAt
                  go_simp
                  exact rfl
                simp only [Act.put, List.setIfInBounds_toArray, List.set_cons_succ, List.set_cons_zero]
                refine qw_want rfl ?_ (fun w' hw' => ?_) ?_
                rotate_left
                · obtain ⟨y0, y1, y2, y3, y4, y5⟩ := HKP.out w' hw'
                  unfold Oper.quietAt
                  go_simp
                  exact rfl
                simp only [Act.put, List.setIfInBounds_toArray, List.set_cons_succ, List.set_cons_zero]
                refine qw_want rfl ?_ (fun w' hw' => ?_) ?_
                rotate_left
                · obtain ⟨y0, y1, y2, y3, y4, y5⟩ := HKP.out w' hw'
                  unfold Oper.quietAt
                  go_simp
                  exact rfl
                simp only [Act.put, List.setIfInBounds_toArray, List.set_cons_succ, List.set_cons_zero]
                refine qw_want rfl ?_ (fun w' hw' => ?_) ?_
                rotate_left
                · unfold Oper.quietAt
                  go_simp
                  exact rfl
                simp only [Act.put, List.setIfInBounds_toArray, List.set_cons_succ, List.set_cons_zero]
                refine qw_want rfl (.int .i64 ((n : Int) + 2)) (fun w' hw' => ?_) ?_
                · unfold Oper.quietAt
                  go_simp
                simp only [Act.put, List.setIfInBounds_toArray, List.set_cons_succ, List.set_cons_zero]
                refine qw_want rfl (.bool false) (fun w' hw' => ?_) ?_
                · unfold Oper.quietAt
                  go_simp
                simp only [Act.put, List.setIfInBounds_toArray, List.set_cons_succ, List.set_cons_zero]
                refine qw_want rfl (.bool false) (fun w' hw' => ?_) ?_
                · unfold Oper.quietAt
                  go_simp
                simp only [Act.put, List.setIfInBounds_toArray, List.set_cons_succ, List.set_cons_zero]
                refine qw_end (fun w5 hb5 => ?_)
                have HB5 := Lib.hid hb5
                obtain ⟨y0, y1, y2, y3, y4, y5⟩ := HKP.out w5 hb5
                clear hb5
                clear d5 hwr y0 y1 y2 y3 y4 y5
                go_upto_if 56 with (fail)
                obtain ⟨w8, e8⟩ : ∃ w8, w5.alloc (.cells #[.int .i8 i, .int .i64 0, .int .i64 0, .slice none 0 0] 46) = w8 := ⟨_, rfl⟩
                have hS8 : Blk w8 w5.heap.size 46 #[.int .i8 i, .int .i64 0, .int .i64 0, .slice none 0 0] := e8 ▸ Blk.new w5 _ _
                have h58 : Below w5.heap.size w5 w8 := e8 ▸ (Below.refl _ w5).alloc (Nat.le_refl _) _
                have hB8 : Below W.heap.size W w8 := below_then HB5.out (Nat.le_refl _) h58
                have HB8 := Lib.hid hB8
                have HS8 := Lib.hid (fun w1 (h1 : Below w8.heap.size w8 w1) => hS8.below h1 hS8.lt)
                have HX2 := Lib.hid (fun w1 (h1 : Below w8.heap.size w8 w1) => (blk3 (HBOX.out w1 (below_then HB8.out (Nat.le_refl _) h1))).2.2.1)
                have HBW := Lib.hid (fun w1 (h1 : Below w8.heap.size w8 w1) => below_then (below_then HW.out (Nat.le_refl _) HB8.out) (Nat.le_refl _) h1)
                obtain ⟨S8, hS8e⟩ : ∃ S8, w5.heap.size = S8 := ⟨_, rfl⟩
                have hlt8 : W.heap.size ≤ S8 ∧ S8 < w8.heap.size := ⟨by rw [← hS8e]; exact HB5.out.size, by rw [← hS8e]; exact hS8.lt⟩
                rw [e8, hS8e]
                rw [hS8e] at HS8
                clear e8 hS8 h58 hB8
                have HTX := Lib.hid (fun (y : Sx) (hy : y ∈ l) => show y.text.length ≤ 100000 by
                  have h1 := mem_mass hy
                  have h2 := text_mass y
                  have h3 := HM.out
                  rw [← HX.out, Sx.mass] at h3
                  omega)
                go_cut [7, 9] from 57 to 64 (fun av ov wc => ∃ a o, av = .int .i64 a ∧ ov = .bool o ∧ First n (l.getD 1 noSx) 0 a o ∧ Below w8.heap.size w8 wc)
                case first =>
                  rcases (by omega : n = 0 ∨ n = 1 ∨ n = 2) with rfl | rfl | rfl
                  · go_wp2
                    go_meet
                    exact ⟨0, true, rfl, rfl, First.no (by decide), Below.refl _ _⟩
                  · have hl1 : 1 < l.length := by have := HLEN.out; omega
                    obtain ⟨k2, t2, B2, n2, m2, hc2⟩ := kid_at HK0.out hl1
                    obtain ⟨c0, c1, c2⟩ := hc2.cells w8 (HBW.out w8 (Below.refl _ _))
                    rw [show off + 1 * 3 = off + 3 from rfl] at c0 c1 c2
                    have x2 := HX2.out w8 (Below.refl _ _)
                    have hl1z : (1 : Int) < (l.length : Int) := by omega
                    have HNU := Lib.hid (rnum28_ok _ _ w8 (hc2.lies w8 (HBW.out w8 (Below.refl _ _))) (by have := HTX.out _ (List.getElem_mem (l := l) (n := 1) hl1); omega))
                    rw [show l[1] = l.getD 1 noSx by rw [List.getD_eq_getElem?_getD, List.getElem?_eq_getElem hl1]; rfl] at HNU
                    generalize l.getD 1 noSx = Y1 at *
                    clear hc2
                    go_wp2_with (go_at_call 61; (with_reducible refine HNU.out.mono ?_); rintro e w9 ⟨rfl, hb9⟩; have HB9 := Lib.hid (below_then (Below.refl _ w8) (Nat.le_refl _) hb9); clear hb9)
                    go_meet
                    exact ⟨_, _, rfl, rfl, First.yes (by decide), HB9.out⟩
                  · have hl1 : 1 < l.length := by have := HLEN.out; omega
                    obtain ⟨k2, t2, B2, n2, m2, hc2⟩ := kid_at HK0.out hl1
                    obtain ⟨c0, c1, c2⟩ := hc2.cells w8 (HBW.out w8 (Below.refl _ _))
                    rw [show off + 1 * 3 = off + 3 from rfl] at c0 c1 c2
                    have x2 := HX2.out w8 (Below.refl _ _)
                    have hl1z : (1 : Int) < (l.length : Int) := by omega
                    have HNU := Lib.hid (rnum28_ok _ _ w8 (hc2.lies w8 (HBW.out w8 (Below.refl _ _))) (by have := HTX.out _ (List.getElem_mem (l := l) (n := 1) hl1); omega))
                    rw [show l[1] = l.getD 1 noSx by rw [List.getD_eq_getElem?_getD, List.getElem?_eq_getElem hl1]; rfl] at HNU
                    generalize l.getD 1 noSx = Y1 at *
                    clear hc2
                    go_wp2_with (go_at_call 61; (with_reducible refine HNU.out.mono ?_); rintro e w9 ⟨rfl, hb9⟩; have HB9 := Lib.hid (below_then (Below.refl _ w8) (Nat.le_refl _) hb9); clear hb9)
                    go_meet
                    exact ⟨_, _, rfl, rfl, First.yes (by decide), HB9.out⟩
                case rest =>
                  obtain ⟨a, o, rfl, rfl, hF1, hBc⟩ := hcut
                  have HF1 := Lib.hid hF1
                  have HBC := Lib.hid hBc
                  clear hF1 hBc
                  go_upto_if 66 with (fail)
                  go_cut [8, 10] from 67 to 74 (fun bv fv wd => ∃ b f, bv = .int .i64 b ∧ fv = .bool f ∧ First n (l.getD 2 noSx) 1 b f ∧ Below w8.heap.size w8 wd)
                  case first =>
                    rcases (by omega : n = 0 ∨ n = 1 ∨ n = 2) with rfl | rfl | rfl
                    · go_wp2
                      go_meet
                      exact ⟨0, true, rfl, rfl, First.no (by decide), HBC.out⟩
                    · go_wp2
                      go_meet
                      exact ⟨0, true, rfl, rfl, First.no (by decide), HBC.out⟩
                    · have hl1 : 2 < l.length := by have := HLEN.out; omega
                      obtain ⟨k2, t2, B2, n2, m2, hc2⟩ := kid_at HK0.out hl1
                      obtain ⟨c0, c1, c2⟩ := hc2.cells wc (HBW.out wc HBC.out)
                      rw [show off + 2 * 3 = off + 6 from rfl] at c0 c1 c2
                      have x2 := HX2.out wc HBC.out
                      have hl1z : (2 : Int) < (l.length : Int) := by omega
                      have HNU := Lib.hid (rnum28_ok _ _ wc (hc2.lies wc (HBW.out wc HBC.out)) (by have := HTX.out _ (List.getElem_mem (l := l) (n := 2) hl1); omega))
                      rw [show l[2] = l.getD 2 noSx by rw [List.getD_eq_getElem?_getD, List.getElem?_eq_getElem hl1]; rfl] at HNU
                      generalize l.getD 2 noSx = Y1 at *
                      clear hc2
                      go_wp2_with (go_at_call 61; (with_reducible refine HNU.out.mono ?_); rintro e w9 ⟨rfl, hb9⟩; have HB9 := Lib.hid (below_then HBC.out (Nat.le_refl _) hb9); clear hb9)
                      go_meet
                      exact ⟨_, _, rfl, rfl, First.yes (by decide), HB9.out⟩
                  case rest =>
                    obtain ⟨b2, f, rfl, rfl, hF2, hBd⟩ := hcut
                    have HNA := Lib.hid (nums_at HLEN.out hn2 HF1.out hF2)
                    obtain ⟨k2, t2, B2, n2, m2, hc2⟩ := kid_at HK0.out (i := n + 1) (by have := HLEN.out; omega)
                    have hl1 : n + 1 < l.length := by have := HLEN.out; omega
                    have hl1z : (n : Int) + 1 < (l.length : Int) := by omega
                    rw [show l[n + 1] = l.getD (n + 1) noSx by rw [List.getD_eq_getElem?_getD, List.getElem?_eq_getElem hl1]; rfl] at hc2
                    obtain ⟨ls, hls, rfl, hky⟩ := (hc2.lies w (Below.refl _ _)).form
                    have hml := mass_getD l (n + 1)
                    rw [hls] at hc2 hml
                    obtain ⟨c0, c1, c2⟩ := hc2.cells _ (HBW.out _ hBd)
                    have x2 := HX2.out _ hBd
                    have hB8 := HB8.out
                    obtain ⟨wS, wL, eS, eL, hs2, hfar, hR2⟩ := rstep_mid (below_then HB8.out (Nat.le_refl _) hBd) (HS8.out _ hBd) (Nat.lt_of_lt_of_le hlt8.2 hBd.size) hlt8.1 a b2 k2 t2 B2 ls.length m2
                    have hbS : b ≠ S8 := by
                      obtain ⟨_, _, _, _, _, _, _, e, _, hlt, _⟩ := HK0.out 0 hlpos
                      injection e with e
                      injection e with e _
                      have := HW.out.size
                      omega
                    have hbS2 := hbS.symm
                    have hwS : w.heap.size ≠ S8 := by have := HSW.out; omega
                    have hwS2 := hwS.symm
                    replace x2 := (hfar _ _ hwS).trans x2
                    replace c0 := (hfar _ _ hbS).trans c0
                    replace c1 := (hfar _ _ hbS).trans c1
                    replace c2 := (hfar _ _ hbS).trans c2
                    have hMS : Sx.masses ls ≤ 100000 ∧ ls.length ≤ 100000 ∧ ∀ y ∈ ls, y.text.length ≤ 100000 := by
                      have h3 := HM.out
                      rw [← HX.out, Sx.mass] at h3
                      rw [Sx.mass] at hml
                      have h4 := mass_len ls
                      exact ⟨by omega, by omega, fun y hy => by have h1 := mem_mass hy; have h2 := text_mass y; omega⟩
                    obtain ⟨y0, y1, y2, g0, g1, g2⟩ := blk3 hR2.last
                    obtain ⟨s0, s1, s2, s3, q0, q1, q2, q3⟩ := blk8 (HS8.out _ hBd)
                    have HR2 := Lib.hid hR2
                    have HLS := Lib.hid hls
                    have HMS := Lib.hid hMS
                    have HKY := Lib.hid (fun w1 (h1 : Below w.heap.size w w1) => show Kids (fun _ => True) w1 B2 ls from (hc2.lies w1 h1).kids_of.2)
                    have HS2 := Lib.hid hs2
                    clear hc2 hls hml hky hR2 hB8 hMS hF2 hs2 hfar
                    rw [← HS2.out] at y0 y1 y2 g0 g1 g2
                    cases ho : o && f with
                    | false =>
                      have HNO := Lib.hid (step_no_nums2 HKT.out (by
                        rw [show X.kids = l by rw [← HX.out]; rfl, HN.out]
                        have := HNA.out.ok
                        rw [ho] at this
                        cases h : allP numP (l.tail.take n) with
                        | none => rfl
                        | some r => rw [h] at this; cases this))
                      by_cases hot : o = true
                      · have hof : f = false := by rw [hot] at ho; simpa using ho
                        clear ho
                        subst hot hof
                        obtain ⟨r0, r1, r2, r3, f0, f1, f2, f3, w2, e2, hb2, hend⟩ := HENDF.out wL HR2.out.below HNO.out
                        have HE := Lib.hid hend
                        clear hend
                        go_wp2
                        obtain ⟨v0, v1, v2, v3⟩ := blk4 hb2
                        refine bodyPost_ret (v := .tuple #[.agg #[.int .i8 0, .int .i64 0, .int .i64 0, .slice none 0 0], .bool false]) ?_ rfl HE.out
                        simp [results, Tryz.results37, go_sem, v0, v1, v2, v3]
                      · have hof : o = false := by simpa using hot
                        clear ho hot
                        subst hof
                        obtain ⟨r0, r1, r2, r3, f0, f1, f2, f3, w2, e2, hb2, hend⟩ := HENDF.out wL HR2.out.below HNO.out
                        have HE := Lib.hid hend
                        clear hend
                        go_wp2
                        obtain ⟨v0, v1, v2, v3⟩ := blk4 hb2
                        refine bodyPost_ret (v := .tuple #[.agg #[.int .i8 0, .int .i64 0, .int .i64 0, .slice none 0 0], .bool false]) ?_ rfl HE.out
                        simp [results, Tryz.results37, go_sem, v0, v1, v2, v3]
                    | true =>
                      obtain ⟨rfl, rfl⟩ : o = true ∧ f = true := by simpa using ho
                      clear ho
                      by_cases hk2 : k2 = 3
                      · subst hk2
                        by_cases ht2 : byts t2 = []
                        · obtain rfl : t2 = ⟨#[]⟩ := byts_one ht2
                          have HSY2 := Lib.hid (show shapeP X i = true by rw [HSHP.out, HLS.out]; rfl)
                          clear ht2
                          go_wp2
                          have hHlt : w0.heap.size < wL.heap.size := by have h1 := HR2.out.below.size; have h2 := HSW.out; have h3 := HS0.out; omega
                          obtain ⟨LB, hLB⟩ : ∃ LB, wS.heap.size = LB := ⟨_, rfl⟩
                          rw [HS2.out] at hLB
                          rw [hLB] at HR2
                          rw [HS2.out, hLB] at y0 y1 y2 g0 g1 g2
                          rw [HS2.out, hLB]
                          clear hLB eS eL
                          have hlsb : ls.length ≤ 100000 := HMS.out.2.1
                          go_loopw [12] (fun d wx => ∃ j : Nat, j ≤ ls.length ∧ d = .int .i64 j ∧ R2 W S8 LB i a b2 3 ⟨#[]⟩ B2 ls.length m2 ((ls.map numQ).take j) wx ∧ allP numP (ls.take j) = some ((ls.map numQ).take j)) (fun d _ => (ls.length - intOf d).toNat)
                          case atStart => exact ⟨0, Nat.zero_le _, rfl, HR2.out, rfl⟩
                          case round =>
                            obtain ⟨j, hj, rfl, hR, hAP⟩ := hrel
                            have HR := Lib.hid hR
                            have HAP := Lib.hid hAP
                            obtain ⟨y0, y1, y2, g0, g1, g2⟩ := blk3 hR.last
                            clear hR hAP
                            by_cases hin : j < ls.length
                            · have hinz : (j : Int) < (ls.length : Int) := by omega
                              have d7 : decide ((j : Int) < ls.length) = true := decide_eq_true hinz
                              have hbwr : Below w.heap.size w wr := below_then HW.out (Nat.le_refl _) HR.out.below
                              obtain ⟨k4, t4, B4, n4, m4, hc4⟩ := kid_at2 (HKY.out wr hbwr) hin
                              obtain ⟨g, goff, rfl, hc4⟩ := hc4
                              obtain ⟨c0, c1, c2⟩ := hc4.cells wr (Below.refl _ _)
                              have HNU := Lib.hid (rnum28_ok _ _ wr (hc4.lies wr (Below.refl _ _)) (by have := HMS.out.2.2 _ (List.getElem_mem hin); omega))
                              obtain ⟨y, hy⟩ : ∃ y, ls[j] = y := ⟨_, rfl⟩
                              rw [hy] at HNU
                              have HMG := Lib.hid (map_getD ls j hin)
                              rw [hy] at HMG
                              cases hnp : numP y with
                              | none =>
                                have HNO := Lib.hid (step_no_lits HKT.out HSY2.out (by
                                  rw [show X.kids = l by rw [← HX.out]; rfl, HN.out, HLS.out]
                                  show allP numP ls = none
                                  exact allP_none hin (by rw [hy]; exact hnp)))
                                rw [hnp] at HNU
                                clear hc4 hy hnp hbwr
                                go_wp2_with (go_at_call 61; (with_reducible refine HNU.out.mono ?_); rintro e w9 ⟨rfl, hb9⟩; obtain ⟨r0, r1, r2, r3, f0, f1, f2, f3, w2, e2, hb2, hend⟩ := HENDF.out w9 (below_then HR.out.below (Nat.le_refl _) hb9) HNO.out; have HE := Lib.hid hend; clear hend hb9)
                                obtain ⟨v0, v1, v2, v3⟩ := blk4 hb2
                                refine bodyPost_ret (v := .tuple #[.agg #[.int .i8 0, .int .i64 0, .int .i64 0, .slice none 0 0], .bool false]) ?_ rfl HE.out
                                simp [results, Tryz.results37, go_sem, v0, v1, v2, v3]
                              | some v =>
                                obtain ⟨hpv, hqv⟩ := num_is hnp
                                have HAP2 := Lib.hid (allP_step hin HAP.out (by rw [hy]; exact hnp))
                                rw [hpv, hnp] at HNU
                                rw [hqv] at HMG
                                obtain ⟨lv, hbl, hol⟩ := HR.out.st
                                have hjm : j < (ls.map numQ).length := by rw [List.length_map]; exact hin
                                have HTS := Lib.hid (take_snoc (ls.map numQ) j hjm)
                                rw [HMG.out] at HTS
                                have htl : ((ls.map numQ).take j).length = j := by rw [List.length_take]; omega
                                obtain ⟨K, hK⟩ : ∃ K, (ls.map numQ).take j = K := ⟨_, rfl⟩
                                rw [hK] at hol htl HTS HR HAP2
                                obtain ⟨LA, lc, rfl⟩ := own_slice hol
                                have HBL := Lib.hid (fun w1 (h1 : Below wr.heap.size wr w1) => hbl.below h1 hbl.lt)
                                have HOL := Lib.hid (fun w1 (h1 : Below wr.heap.size wr w1) => own_kept hol (Kept.of_below (S := fun _ => False) h1) (fun _ _ h => h))
                                have HTL := Lib.hid htl
                                obtain ⟨i0, hi0, hz0, hz1, hz2⟩ := info_parts int_info
                                have HLBW := Lib.hid (show LB + 1 ≤ wr.heap.size from HR.out.last.lt)
                                clear hc4 hy hnp hbwr hpv hqv hbl hol htl hK hjm
                                go_wp2_with (first
                                  | (go_at_call 61; (with_reducible refine HNU.out.mono ?_); rintro e w9 ⟨rfl, hb9⟩; have HB9 := Lib.hid hb9; have HBL9 := Lib.hid (HBL.out w9 hb9); have HOL9 := Lib.hid (HOL.out w9 hb9); obtain ⟨s0, s1, s2, s3, q0, q1, q2, q3⟩ := blk8 HBL9.out; have HS9 := Lib.hid hb9.size; clear hb9)
                                  | (at_builtin; refine list_push _ rfl (.tmp 122) (.tmp 124) 44 rfl (LB + 1) 3 i0 (.int .i64 0) 1 8 Tryz.underlying44 hi0 hz0 hz1 hz2 rfl (by decide) (.slice LA K.length lc) K.length _ rfl (HOL9.out.alloc _) w9.heap.size #[.int .i64 v] rfl (Blk.new _ _ _) rfl (by simp [Value.oneCell']) (by have := HTL.out; have := HMS.out.2.1; omega) (by omega) (by have := HLBW.out; have := HS9.out; omega) ?_; intro g2 cap2 w10 hown1 hgrow hat hlt1; have hb10 := (HBL9.out.alloc (.cells #[.int .i64 v] 3)).grown hgrow (fun e => own_blk_ne HOL9.out HBL9.out (by decide) e.symm); obtain ⟨s0, s1, s2, s3, q0, q1, q2, q3⟩ := blk8 hb10))
                                have HR10 := Lib.hid ((HR.out.keep HB9.out).push HBL9.out HOL9.out hown1 hgrow)
                                rw [HTS.out] at HR10
                                clear hown1 hgrow hb10
                                go_roundw
                                case rel => exact ⟨j + 1, hin, by go_num, HR10.out, by rw [HAP2.out, ← HTS.out]⟩
                                case measure => simp only [intOf]; omega
                            · obtain rfl : j = ls.length := by omega
                              have htl : (ls.map numQ).take ls.length = ls.map numQ := List.take_of_length_le (by rw [List.length_map]; exact Nat.le_refl _)
                              rw [htl] at HR
                              have HHW := Lib.hid (HRES.out wr HR.out.below)
                              obtain ⟨lv, hbl, hol⟩ := HR.out.st
                              obtain ⟨LA, lc, rfl⟩ := own_slice hol
                              have hss : stepS X (i : Int) = ⟨i, a, b2, ls.map numQ⟩ := by
                                unfold stepS
                                rw [HN.out, show X.kids = l by rw [← HX.out]; rfl, HLS.out, HNA.out.a rfl, HNA.out.b rfl]
                                rfl
                              have hmy : Calls Tryz.prog 24 #[.agg #[.int .i8 i, .int .i64 a, .int .i64 b2, .slice LA (ls.map numQ).length lc]] wr.drew fun e w' => e = .returned (.bool (stepS X i).may) ∧ Below wr.drew.heap.size wr.drew w' := by
                                rw [hss]
                                exact rmay_ok ⟨i, a, b2, ls.map numQ⟩ wr.drew ⟨i, a, b2, LA, (ls.map numQ).length, lc⟩ (step_is (w1 := wr.drew) i a b2 (own_drew hol) (by rw [List.length_map]; have := HMS.out.2.1; omega)) (by rw [List.length_map]; exact HMS.out.2.1)
                              have hyes := stepP_yes HKT.out HSY2.out
                              obtain ⟨my, hmye⟩ : ∃ my, (stepS X (i : Int)).may = my := ⟨_, rfl⟩
                              rw [hmye] at hmy hyes
                              obtain ⟨M, hM⟩ : ∃ M, ls.map numQ = M := ⟨_, rfl⟩
                              have hMl : M.length = ls.length := by rw [← hM, List.length_map]
                              rw [hM] at hss hmy hbl hol HR
                              have HMY := Lib.hid hmy
                              have HYES := Lib.hid hyes
                              have HSS := Lib.hid hss
                              have HBL := Lib.hid hbl
                              have HOL := Lib.hid hol
                              have HML := Lib.hid hMl
                              obtain ⟨s0, s1, s2, s3, q0, q1, q2, q3⟩ := blk8 hbl
                              obtain ⟨H1, hH1⟩ : ∃ H1, w0.heap.size = H1 := ⟨_, rfl⟩
                              rw [hH1] at HHW hHlt
                              rw [hH1]
                              clear hmy hyes hss hbl hol hmye hM hMl htl HAP
                              have d7 : decide ((ls.length : Int) < ls.length) = false := decide_eq_false (by omega)
                              have hne8 : S8 ≠ H1 := by have h1 := HR.out.lt; have h2 := HSW.out; have h3 := HS0.out; omega
                              have hHB : w.heap.size ≤ H1 := by have h3 := HS0.out; omega
                              go_wp2
                              go_region_held3 (fun w' => w'.cell? ⟨S8, 0, none⟩ = some (.int .i8 i) ∧ w'.cell? ⟨S8, 1, none⟩ = some (.int .i64 a) ∧ w'.cell? ⟨S8, 2, none⟩ = some (.int .i64 b2) ∧ w'.cell? ⟨S8, 3, none⟩ = some (.slice LA M.length lc)) (first | go_keep | exact HS4.out)
                                ((go_at_call 24; (with_reducible refine HMY.out.mono ?_); rintro e w9 ⟨rfl, hb9⟩; have h9 := (HHW.out.drew).below hb9 HHW.out.lt; have h8 := (HBL.out.drew).below hb9 HBL.out.lt; have HS4 := Lib.hid (rstep_s8 hne8 h8 (.int .i8 i) (.int .i64 a) (.int .i64 b2) (.slice LA M.length lc)); obtain ⟨s0, s1, s2, s3, q0, q1, q2, q3⟩ := blk8 h9; obtain ⟨p0, p1, p2, p3⟩ := blk4 h8; have HFIN := Lib.hid (rstep_fin HW.out HR.out.below hb9 h9 HYES.out HSS.out (own_drew HOL.out) (by have := HML.out; omega) hHB (by have h1 := HR.out.lt; have h2 := HSW.out; omega)); clear h9 h8 hb9))
                              go_wp2
                              obtain ⟨k1, k2⟩ := HFIN.out
                              obtain ⟨v0, v1, v2, v3⟩ := blk4 k1
                              refine bodyPost_ret (v := .tuple #[.agg #[.int .i8 i, .int .i64 a, .int .i64 b2, .slice LA M.length lc], .bool my]) ?_ rfl k2
                              simp [results, Tryz.results37, go_sem, v0, v1, v2, v3]
                        · have ht3 : t2.toList.isEmpty = false := by rw [← byts_nil]; cases h : (byts t2).isEmpty with
                            | false => rfl
                            | true => exact absurd (List.isEmpty_iff.1 h) ht2
                          have HNO := Lib.hid (stepP_not HKT.out (by rw [HSHP.out, HLS.out]; exact list_no (.inr ht2)))
                          clear ht2
                          obtain ⟨r0, r1, r2, r3, f0, f1, f2, f3, w2, e2, hb2, hend⟩ := HENDF.out wL HR2.out.below HNO.out
                          have HE := Lib.hid hend
                          clear hend
                          go_wp2
                          obtain ⟨v0, v1, v2, v3⟩ := blk4 hb2
                          refine bodyPost_ret (v := .tuple #[.agg #[.int .i8 0, .int .i64 0, .int .i64 0, .slice none 0 0], .bool false]) ?_ rfl HE.out
                          simp [results, Tryz.results37, go_sem, v0, v1, v2, v3]
                      · have b4 : (k2 != 3) = true := bne_iff_ne.2 hk2
                        have HNO := Lib.hid (stepP_not HKT.out (by rw [HSHP.out, HLS.out]; exact list_no (.inl hk2)))
                        clear hk2
                        obtain ⟨r0, r1, r2, r3, f0, f1, f2, f3, w2, e2, hb2, hend⟩ := HENDF.out wL HR2.out.below HNO.out
                        have HE := Lib.hid hend
                        clear hend
                        go_wp2
                        obtain ⟨v0, v1, v2, v3⟩ := blk4 hb2
                        refine bodyPost_ret (v := .tuple #[.agg #[.int .i8 0, .int .i64 0, .int .i64 0, .slice none 0 0], .bool false]) ?_ rfl HE.out
                        simp [results, Tryz.results37, go_sem, v0, v1, v2, v3]
              · have d5 : ((l.length : Int) != (n : Int) + 2) = true := bne_iff_ne.2 (by omega)
                have HNH2 := Lib.hid (show ∀ j : Nat, j < i + 1 → ¬ Hit X j from fun j hj hh => by
                  rcases Nat.lt_or_ge j i with h | h
                  · exact HNH.out j h hh
                  · obtain rfl : j = i := by omega
                    have h1 := hh.2
                    rw [show X.kids = l by rw [← HX.out]; rfl, HN.out] at h1
                    exact hlen h1)
                clear hlen
                go_wp2_with (go_at_call 53; refine HMN.out.mono ?_; rintro e w1 ⟨rfl, rfl⟩)
                refine wp_region_quiet (C := fun w' => Below W.heap.size W w') (by kernel_rfl) (by kernel_rfl) (HBd.out) ?_
                refine QW.lit ?_
                refine qw_want rfl ?_ (fun w' hw' => ?_) ?_
                rotate_left
                · unfold Oper.quietAt
                  go_simp
                  exact rfl
                simp only [Act.put, List.setIfInBounds_toArray, List.set_cons_succ, List.set_cons_zero]
                refine qw_want rfl ?_ (fun w' hw' => ?_) ?_
                rotate_left
                · obtain ⟨y0, y1, y2, y3, y4, y5⟩ := HKP.out w' hw'
                  unfold Oper.quietAt
                  go_simp
                  exact rfl
                simp only [Act.put, List.setIfInBounds_toArray, List.set_cons_succ, List.set_cons_zero]
                refine qw_want rfl ?_ (fun w' hw' => ?_) ?_
                rotate_left
                · obtain ⟨y0, y1, y2, y3, y4, y5⟩ := HKP.out w' hw'
                  unfold Oper.quietAt
                  go_simp
                  exact rfl
                simp only [Act.put, List.setIfInBounds_toArray, List.set_cons_succ, List.set_cons_zero]
                refine qw_want rfl ?_ (fun w' hw' => ?_) ?_
                rotate_left
                · obtain ⟨y0, y1, y2, y3, y4, y5⟩ := HKP.out w' hw'
                  unfold Oper.quietAt
                  go_simp
                  exact rfl
                simp only [Act.put, List.setIfInBounds_toArray, List.set_cons_succ, List.set_cons_zero]
                refine qw_want rfl ?_ (fun w' hw' => ?_) ?_
                rotate_left
                · unfold Oper.quietAt
                  go_simp
                  exact rfl
                simp only [Act.put, List.setIfInBounds_toArray, List.set_cons_succ, List.set_cons_zero]
                refine qw_want rfl (.string hb) (fun w' hw' => ?_) ?_
                · unfold Oper.quietAt
                  go_simp
                  refine (HHD.out w').mono ?_
                  rintro e w2 ⟨rfl, rfl⟩
                  exact ⟨rfl, hw'⟩
                simp only [Act.put, List.setIfInBounds_toArray, List.set_cons_succ, List.set_cons_zero]
                refine qw_want rfl (.agg #[.int .i8 0, .string hb, .slice none 0 0]) (fun w' hw' => ?_) ?_
                · unfold Oper.quietAt
                  go_simp
                  refine (HSY.out w').mono ?_
                  rintro e w2 ⟨rfl, hb⟩
                  have hz := below_then hw' (Nat.le_refl _) hb
                  exact ⟨rfl, by simpa using hz⟩
                simp only [Act.put, List.setIfInBounds_toArray, List.set_cons_succ, List.set_cons_zero]
                refine qw_want rfl (.bool true) (fun w' hw' => ?_) ?_
                · unfold Oper.quietAt
                  go_simp
                  refine (HSA.out w' hw').mono ?_
                  rintro e w2 ⟨rfl, hb⟩
                  have hz := below_then hw' (Nat.le_refl _) hb
                  exact ⟨rfl, by simpa using hz⟩
                simp only [Act.put, List.setIfInBounds_toArray, List.set_cons_succ, List.set_cons_zero]
                refine qw_want rfl (.bool false) (fun w' hw' => ?_) ?_
                · unfold Oper.quietAt
                  go_simp
                simp only [Act.put, List.setIfInBounds_toArray, List.set_cons_succ, List.set_cons_zero]
                refine qw_want rfl (.bool false) (fun w' hw' => ?_) ?_
                · unfold Oper.quietAt
                  go_simp
                simp only [Act.put, List.setIfInBounds_toArray, List.set_cons_succ, List.set_cons_zero]
                refine qw_want rfl ?_ (fun w' hw' => ?_) ?_
                rotate_left
                · obtain ⟨y0, y1, y2, y3, y4, y5⟩ := HKP.out w' hw'
                  unfold Oper.quietAt
                  go_simp
                  exact rfl
                simp only [Act.put, List.setIfInBounds_toArray, List.set_cons_succ, List.set_cons_zero]
                refine qw_want rfl ?_ (fun w' hw' => ?_) ?_
                rotate_left
                · obtain ⟨y0, y1, y2, y3, y4, y5⟩ := HKP.out w' hw'
                  unfold Oper.quietAt
                  go_simp
                  exact rfl
                simp only [Act.put, List.setIfInBounds_toArray, List.set_cons_succ, List.set_cons_zero]
                refine qw_want rfl ?_ (fun w' hw' => ?_) ?_
                rotate_left
                · obtain ⟨y0, y1, y2, y3, y4, y5⟩ := HKP.out w' hw'
                  unfold Oper.quietAt
                  go_simp
                  exact rfl
                simp only [Act.put, List.setIfInBounds_toArray, List.set_cons_succ, List.set_cons_zero]
                refine qw_want rfl ?_ (fun w' hw' => ?_) ?_
                rotate_left
                · unfold Oper.quietAt
                  go_simp
                  exact rfl
                simp only [Act.put, List.setIfInBounds_toArray, List.set_cons_succ, List.set_cons_zero]
                refine qw_want rfl (.int .i64 ((n : Int) + 2)) (fun w' hw' => ?_) ?_
                · unfold Oper.quietAt
                  go_simp
                simp only [Act.put, List.setIfInBounds_toArray, List.set_cons_succ, List.set_cons_zero]
                refine qw_want rfl (.bool true) (fun w' hw' => ?_) ?_
                · unfold Oper.quietAt
                  go_simp
                simp only [Act.put, List.setIfInBounds_toArray, List.set_cons_succ, List.set_cons_zero]
                refine qw_want rfl (.bool true) (fun w' hw' => ?_) ?_
                · unfold Oper.quietAt
                  go_simp
                simp only [Act.put, List.setIfInBounds_toArray, List.set_cons_succ, List.set_cons_zero]
                refine qw_end (fun w5 hb5 => ?_)
                have HB5 := Lib.hid hb5
                clear hb5 d5 hwr
                go_wp2
                go_roundw
                case rel => exact ⟨i + 1, by omega, by go_num, HB5.out, HNH2.out⟩
                case measure => simp only [intOf]; omega
      · have ht2 : t.toList.isEmpty = false := by rw [← byts_nil]; cases h : (byts t).isEmpty with
          | false => rfl
          | true => exact absurd (List.isEmpty_iff.1 h) ht
        have HNO := Lib.hid (step_no_list (X := X) (HX.out ▸ list_no (.inr ht)))
        clear hl2 ht
        obtain ⟨r0, r1, r2, r3, f0, f1, f2, f3, w2, e2, hb2, hend⟩ := HENDF.out W (Below.refl _ _) HNO.out
        have HE := Lib.hid hend
        clear hend
        go_wp2
        obtain ⟨v0, v1, v2, v3⟩ := blk4 hb2
        refine bodyPost_ret (v := .tuple #[.agg #[.int .i8 0, .int .i64 0, .int .i64 0, .slice none 0 0], .bool false]) ?_ rfl HE.out
        simp [results, Tryz.results37, go_sem, v0, v1, v2, v3]
  · have b3 : (k != 3) = true := bne_iff_ne.2 hk3
    have HNO := Lib.hid (step_no_list (X := X) (HX.out ▸ list_no (.inl hk3)))
    clear hk3
    obtain ⟨r0, r1, r2, r3, f0, f1, f2, f3, w2, e2, hb2, hend⟩ := HENDF.out W (Below.refl _ _) HNO.out
    have HE := Lib.hid hend
    clear hend
    go_wp2
    obtain ⟨v0, v1, v2, v3⟩ := blk4 hb2
    refine bodyPost_ret (v := .tuple #[.agg #[.int .i8 0, .int .i64 0, .int .i64 0, .slice none 0 0], .bool false]) ?_ rfl HE.out
    simp [results, Tryz.results37, go_sem, v0, v1, v2, v3]
end Go.Proofs.YtiklliiamljogaaGreatDoor

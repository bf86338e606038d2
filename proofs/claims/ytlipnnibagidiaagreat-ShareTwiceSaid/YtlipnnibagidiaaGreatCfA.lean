/- gantryref12.Of: its loops as they lie. -/
import Derived.Test.YtlipnnibagidiaaGreatWaC
import Derived.Test.YtlipnnibagidiaaGreatBits
import Derived.Test.YtlipnnibagidiaaGreatRdF
namespace Go.Proofs.YtlipnnibagidiaaGreat
open Go.RowKit Go.Lib

theorem two_well : Well twoNd := by
  refine ⟨coreB_iff.1 (by decide +kernel), fun n hn => ?_, fun n hn => ?_⟩
  · simp only [twoNd, List.mem_cons, List.not_mem_nil, or_false] at hn
    rcases hn with rfl | rfl
    · intro _
      rfl
    · intro _
      rfl
  · simp only [twoNd, List.mem_cons, List.not_mem_nil, or_false] at hn
    rcases hn with rfl | rfl
    · intro h
      exact absurd h (by show (0 : Int) ≠ 6; decide)
    · intro h
      exact absurd h (by show (10 : Int) ≠ 6; decide)
theorem two_ite : IteOk twoNd := fun i n hn h7 => by
  have hm := List.mem_of_getElem? hn
  simp only [twoNd, List.mem_cons, List.not_mem_nil, or_false] at hm
  rcases hm with rfl | rfl
  · exact absurd h7 (by show (0 : Int) ≠ 7; decide)
  · exact absurd h7 (by show (10 : Int) ≠ 7; decide)
theorem two_wf : ∀ n ∈ twoNd, NdWf n := by
  intro n hn
  simp only [twoNd, List.mem_cons, List.not_mem_nil, or_false] at hn
  rcases hn with rfl | rfl
  all_goals
    refine ⟨by decide, by decide, fun j => ?_, by decide, by decide, by decide⟩
    unfold Nd.arg
    repeat' split
    all_goals decide
theorem own_tab2 {w : World} {B g c : Nat} (h : w.ownsRow B 51 8 (.slice (some ⟨g, 0, none⟩) 2 c) 2 (twoNd.flatMap nodeCells)) : Tab w (some ⟨g, 0, none⟩) twoNd := by
  refine ⟨by decide, .inr ⟨g, 0, rfl, own_lt h, fun i hi => ⟨own_lt h, fun j hj => ?_, two_wf _ (List.getElem_mem hi)⟩⟩⟩
  have := own_cell nodeCells (fun _ => rfl) h hi hj
  simpa using this
/-- What Of comes to. -/
def COf (most : Int) (w : World) (e : Ending) (w' : World) : Prop :=
  ∃ CA C cc oA on oc er, e = .returned (.tuple #[.agg #[.slice CA (List.length C) cc], .slice oA on oc, .int .i64 er]) ∧ (er = 0 → Well C ∧ IteOk C ∧ (C.length : Int) ≤ max 2 most ∧ Tab w' CA C ∧ C.length ≤ cc) ∧ Below w.heap.size w w'
theorem COf.bad {most : Int} {w w' : World} {er : Int} (h : er ≠ 0) (hb : Below w.heap.size w w') : COf most w (.returned (.tuple #[.agg #[.slice none 0 0], .slice none 0 0, .int .i64 er])) w' :=
  ⟨none, [], 0, none, 0, 0, er, rfl, fun e => absurd e h, hb⟩
/-- While the images are made. -/
structure OI (w : World) (wk : Nat) (A : Option Addr) (T : List Nd) (c q : Nat) (j : Nat) (sv : Value) (W : World) : Prop where
  t : Blk W w.heap.size 33 #[.slice A T.length c]
  r : Blk W (w.heap.size + 1) 33 #[.slice none 0 0]
  blk : Blk W wk 88 #[.slice (some ⟨q, 0, none⟩) 2 2, sv]
  own : W.ownsRow (wk + 1) 3 1 sv j ((List.replicate j (-1)).map (Value.int .i64))
  nt : Tab W (some ⟨q, 0, none⟩) twoNd
  bel : Below w.heap.size w W
  low : w.heap.size + 2 ≤ wk ∧ w.heap.size + 2 ≤ q ∧ q < wk
/-- While the roots are gone over. -/
structure OX (w : World) (B wk g ic : Nat) (A : Option Addr) (T : List Nd) (c : Nat) (most : Int) (j : Nat) (sv : Value) (V : List Int) (CA1 : Option Addr) (C1 : List Nd) (cc1 : Nat) (I1 : List Int) (W : World) : Prop where
  ws : WS W wk g ic A T CA1 C1 cc1 I1 most
  t : Blk W w.heap.size 33 #[.slice A T.length c]
  r : Blk W (w.heap.size + 1) 33 #[.slice none 0 0]
  own : W.ownsRow B 3 1 sv j (V.map (Value.int .i64))
  bel : Below w.heap.size w W
  cown : ∀ b, CA1 = some b → 0 < C1.length → some b.block ≠ sv.ownBlock
  cr : ∀ b, CA1 = some b → 0 < C1.length → w.heap.size + 2 ≤ b.block
  size : B ≤ W.heap.size
  low : w.heap.size + 2 ≤ wk ∧ w.heap.size + 2 ≤ g ∧ wk < B ∧ g < B ∧ ∀ b, A = some b → 0 < T.length → b.block < w.heap.size
section
variable {w W W2 : World} {B wk g ic : Nat} {A : Option Addr} {T : List Nd} {c q : Nat} {most : Int} {j : Nat} {sv : Value} {V : List Int} {CA1 : Option Addr} {C1 : List Nd} {cc1 : Nat} {I1 : List Int}
theorem OI.push (h : OI w wk A T c q j sv W) {p cap k : Nat} (ho : W2.ownsRow (wk + 1) 3 1 (.slice (some ⟨p, 0, none⟩) (j + 1) cap) (j + 1) ((List.replicate j (-1)).map (Value.int .i64) ++ #[Value.int .i64 (-1)].toList)) {cs : Obj} (hg : ((W.alloc cs).drewN k).grownBy W2 sv.ownBlock) :
    OI w wk A T c q (j + 1) (.slice (some ⟨p, 0, none⟩) (j + 1) cap) (W2.setCell ⟨wk, 1, none⟩ (.slice (some ⟨p, 0, none⟩) (j + 1) cap)) := by
  have hk0 : Kept (fun b => some b = sv.ownBlock) W ((W.alloc cs).drewN k) := Kept.of_below (S := fun b => some b = sv.ownBlock) (below_drewN ((Below.refl _ W).alloc (Nat.le_refl _) _) k)
  have hk := hk0.grown hg (fun k e => .inl e.symm)
  have hob : ∀ b, some b = sv.ownBlock → wk + 1 ≤ b := fun b e => (h.own.lt b e.symm).1
  have hl := h.low
  have hb2 := h.blk.kept hk (fun e => by have := hob _ e; omega)
  have hs := Kept.set1 W2 wk 1 (.slice (some ⟨p, 0, none⟩) (j + 1) cap)
  have hb3 := hb2.set_ 1 (.slice (some ⟨p, 0, none⟩) (j + 1) cap)
  simp only [List.setIfInBounds_toArray, List.set_cons_zero, List.set_cons_succ] at hb3
  have hnt : Tab W2 (some ⟨q, 0, none⟩) twoNd := h.nt.keptS hk (fun b e _ e2 => by injection e with e; subst e; have := hob _ e2; have e3 : q < wk := hl.2.2; have e4 : wk + 1 ≤ q := this; omega)
  refine ⟨(h.t.kept hk (fun e => by have := hob _ e; omega)).kept hs (by omega), (h.r.kept hk (fun e => by have := hob _ e; omega)).kept hs (by omega), hb3, ?_, hnt.keptS hs (fun b e _ e2 => by injection e with e; subst e; have e3 : q = wk := e2; omega), (h.bel.trans (hk.below h.bel.size (fun k e => by have := hob k e; omega))).setCell (by show w.heap.size ≤ wk; omega) _, h.low⟩
  refine own_kept ?_ hs (fun b e e2 => by injection e with e; have := (ho.lt p rfl).1; have e4 : p = b := e; omega)
  have : (List.replicate (j + 1) (-1 : Int)) = List.replicate j (-1) ++ [-1] := by rw [List.replicate_succ']
  rw [this, List.map_append]
  exact ho
theorem OI.mid (h : OI w wk A T c q j sv W) {cs : Obj} {k : Nat} (hg : ((W.alloc cs).drewN k).grownBy W2 sv.ownBlock) : Blk W2 wk 88 #[.slice (some ⟨q, 0, none⟩) 2 2, sv] := by
  have hk0 : Kept (fun b => some b = sv.ownBlock) W ((W.alloc cs).drewN k) := Kept.of_below (S := fun b => some b = sv.ownBlock) (below_drewN ((Below.refl _ W).alloc (Nat.le_refl _) _) k)
  have hk := hk0.grown hg (fun k e => .inl e.symm)
  exact h.blk.kept hk (fun e => by have := (h.own.lt _ e.symm).1; omega)
/-- The images made, the roots' row empty. -/
theorem OI.done (h : OI w wk A T c q T.length (.slice (some ⟨g, 0, none⟩) T.length ic) W) (hA : Tab w A T) (most : Int) : OX w W.heap.size wk g ic A T c most 0 (.slice none 0 0) [] (some ⟨q, 0, none⟩) twoNd 2 (List.replicate T.length (-1)) W := by
  have hl := h.low
  have hg := h.own.lt g rfl
  have hal : ∀ b, A = some b → 0 < T.length → b.block < w.heap.size := fun b e h0 => Tab.lt (e ▸ hA) h0
  refine ⟨⟨h.blk, ?_, .new _ _, hA.below h.bel, h.nt, Nat.le_refl _, two_well, two_ite, by show (2 : Int) ≤ _; omega, by omega, fun b e h0 => by have := hal b e h0; omega, fun b e h0 => by injection e with e; subst e; show q ≠ wk ∧ q ≠ g; omega⟩, h.t, h.r, World.ownsRow_nil _ _ _ _, h.bel, fun b e h0 e2 => (by cases e2), fun b e h0 => by injection e with e; subst e; exact hl.2.1, Nat.le_refl _, hl.1, by omega, h.blk.lt, hg.2, hal⟩
  unfold OwnL
  rw [List.length_replicate]
  exact own_base h.own (fun g _ => Nat.zero_le _)
theorem OX.keptW (h : OX w B wk g ic A T c most j sv V CA1 C1 cc1 I1 W) (hk : Kept (WkG wk g) W.drew W2) : Kept (WkG wk g) W W2 ∧ Below w.heap.size w W2 := by
  have h0 : Kept (WkG wk g) W W2 := ⟨hk.os, hk.tape, hk.output, hk.size, hk.block⟩
  have hl := h.low
  exact ⟨h0, h.bel.trans (h0.below h.bel.size fun k e => by rcases e with rfl | rfl <;> omega)⟩
theorem OX.cells (h : OX w B wk g ic A T c most j sv V CA1 C1 cc1 I1 W) (hk : Kept (WkG wk g) W.drew W2) : Blk W2 w.heap.size 33 #[.slice A T.length c] ∧ Blk W2 (w.heap.size + 1) 33 #[.slice none 0 0] := by
  have hl := h.low
  have h0 := (h.keptW hk).1
  exact ⟨h.t.kept h0 (fun e => by rcases e with e | e <;> omega), h.r.kept h0 (fun e => by rcases e with e | e <;> omega)⟩
theorem OX.walked {CA2 : Option Addr} {C2 : List Nd} {cc2 : Nat} {I2 : List Int} {a : Nat} (h : OX w B wk g ic A T c most j sv V CA1 C1 cc1 I1 W) (hk : Kept (WkG wk g) W.drew W2) (ho : WkOut wk g ic A T CA1 C1 I1 most a W.drew W2 CA2 C2 cc2 I2) : OX w B wk g ic A T c most j sv V CA2 C2 cc2 I2 W2 := by
  obtain ⟨h0, hb⟩ := h.keptW hk
  obtain ⟨h1, h2⟩ := h.cells hk
  have hl := h.low
  refine ⟨ho.ws, h1, h2, own_kept h.own h0 (fun b e e2 => by have := (h.own.lt b e).1; rcases e2 with e2 | e2 <;> omega), hb, fun b e h0 e2 => ?_, fun b e h0 => ?_, Nat.le_trans h.size h0.size, h.low⟩
  · rcases ho.fr b e with ⟨e1, h1⟩ | h1
    · exact h.cown b e1 h1 e2
    · have := (h.own.lt b.block e2.symm).2
      have h1' : W.heap.size ≤ b.block := h1
      omega
  · rcases ho.fr b e with ⟨e1, h1⟩ | h1
    · exact h.cr b e1 h1
    · have h1' : W.heap.size ≤ b.block := h1
      have := h.r.lt
      omega
theorem OX.push (h : OX w B wk g ic A T c most j sv V CA1 C1 cc1 I1 W) {x : Int} {p cap k : Nat} (ho : W2.ownsRow B 3 1 (.slice (some ⟨p, 0, none⟩) (j + 1) cap) (j + 1) (V.map (Value.int .i64) ++ #[Value.int .i64 x].toList)) {cs : Obj} (hg : ((W.alloc cs).drewN k).grownBy W2 sv.ownBlock) (hat : sv.ownBlock = some p ∨ p = ((W.alloc cs).drewN k).heap.size) :
    OX w B wk g ic A T c most (j + 1) (.slice (some ⟨p, 0, none⟩) (j + 1) cap) (V ++ [x]) CA1 C1 cc1 I1 W2 := by
  have hk0 : Kept (fun b => some b = sv.ownBlock) W ((W.alloc cs).drewN k) := Kept.of_below (S := fun b => some b = sv.ownBlock) (below_drewN ((Below.refl _ W).alloc (Nat.le_refl _) _) k)
  have hk := hk0.grown hg (fun k e => .inl e.symm)
  have hob : ∀ b, some b = sv.ownBlock → B ≤ b := fun b e => (h.own.lt b e.symm).1
  have hl := h.low
  have hsz : ((W.alloc cs).drewN k).heap.size = W.heap.size + 1 := by
    show (W.alloc cs).heap.size = _
    simp
  refine ⟨h.ws.kept hk (fun e => by have := hob _ e; omega) (fun e => by have := hob _ e; omega) (fun b e h0 e2 => by have := hob _ e2; have := hl.2.2.2.2 b e h0; omega) (fun b e h0 e2 => h.cown b e h0 e2), h.t.kept hk (fun e => by have := hob _ e; omega), h.r.kept hk (fun e => by have := hob _ e; omega), ?_, h.bel.trans (hk.below h.bel.size (fun k e => by have := hob k e; omega)), fun b e h0 e2 => ?_, h.cr, Nat.le_trans h.size hk.size, h.low⟩
  · rw [List.map_append]
    exact ho
  · injection e2 with e2
    rcases hat with ha | ha
    · exact h.cown b e h0 (by rw [ha]; exact congrArg some e2)
    · have h3 : b.block < W.heap.size := Tab.lt (e ▸ h.ws.ctab) h0
      have e3 : b.block = p := e2
      omega
end
end Go.Proofs.YtlipnnibagidiaaGreat

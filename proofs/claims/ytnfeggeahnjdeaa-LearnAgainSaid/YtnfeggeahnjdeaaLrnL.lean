/- run's state while it resolves. -/
import Derived.Test.YtnfeggeahnjdeaaLrnJ
import Derived.Sort.CutIn
namespace Go.Proofs.Ytnfeggeahnjdeaa
open Go.RowKit Go.Lib

theorem cell_putObj {W : World} {l : Nat} {r : Loop} (h : W.heap[l]? = some (.loop r)) (o : Obj) {p : Addr} {v : Value} (hc : W.cell? p = some v) : (W.putObj l o).cell? p = some v := by
  have hne : p.block ≠ l := by
    rintro e
    subst e
    simp [World.cell?, h] at hc
  rw [World.cell?_of_block (w := W) (World.putObj_heap_other hne)]
  exact hc
theorem Row.putObj {k : IntKind} {W : World} {A : Option Addr} {zs : List Int} (h : Row k W A zs) {l : Nat} {r : Loop} (hl : W.heap[l]? = some (.loop r)) (o : Obj) : Row k (W.putObj l o) A zs :=
  ⟨h.len, h.at_.imp id fun ⟨b, off, h1, h2, h3⟩ => ⟨b, off, h1, Nat.lt_of_lt_of_le h2 (Kept.putObj W l o).size, fun i hi => cell_putObj hl o (h3 i hi)⟩⟩
/-- A row stands away from what run makes ahead of its loop. -/
def Away (w : World) (H : Nat) (CA : Option Addr) (c : List Int) : Prop := 0 < c.length → ∀ a, CA = some a → a.block < w.heap.size ∨ H ≤ a.block
theorem Row.away {k : IntKind} {w : World} {A : Option Addr} {zs : List Int} (h : Row k w A zs) (H : Nat) : Away w H A zs := fun h0 a ha => by
  obtain ⟨b, off, h1, h2, _⟩ := h.at_.resolve_left (by omega)
  rw [h1] at ha
  injection ha with ha
  subst ha
  exact .inl h2
theorem Row.kept {k : IntKind} {S : Nat → Prop} {w w' : World} {A : Option Addr} {zs : List Int} (h : Row k w A zs) (hk : Kept S w w') (hn : 0 < zs.length → ∀ a, A = some a → ¬ S a.block) : Row k w' A zs := by
  refine ⟨h.len, ?_⟩
  rcases Nat.eq_zero_or_pos zs.length with h0 | h0
  · exact .inl h0
  · obtain ⟨b, off, h1, h2, h3⟩ := h.at_.resolve_left (by omega)
    refine .inr ⟨b, off, h1, Nat.lt_of_lt_of_le h2 hk.size, fun j hj => ?_⟩
    rw [World.cell?_of_block (w := w) (a := ⟨b, off + j, none⟩) (hk.block b h2 (hn h0 _ h1))]
    exact h3 j hj
theorem row_own {w : World} {base n cap : Nat} {A : Option Addr} {l : List Int} (h : w.ownsRow base 3 1 (.slice A n cap) l.length (l.map (Value.int .i64))) (hl : l.length ≤ 1000000) : Row .i64 w A l ∧ (A = none → cap = 0) := by
  rcases h.2 with ⟨hv, h0⟩ | ⟨g, cap', cur, hv, _, hg, _⟩
  · injection hv with h1 h2 h3
    exact ⟨⟨hl, .inl h0⟩, fun _ => h3⟩
  · injection hv with h1 h2 h3
    subst h1
    refine ⟨⟨hl, .inr ⟨g, 0, rfl, Blk.lt hg, fun i hi => ?_⟩⟩, fun h => by cases h⟩
    have := h.cells (g := g) rfl i (.int .i64 l[i]) (by simp [hi])
    rw [Nat.zero_add]
    rcases Nat.eq_zero_or_pos i with rfl | h0
    · exact this
    · rw [Addr.add, if_neg (by omega)] at this
      simpa using this
theorem own_lower {w : World} {B B' size n : Nat} {e : TypeId} {v : Value} {xs : List Value} (h : w.ownsRow B e size v n xs) (hb : B' ≤ B) : w.ownsRow B' e size v n xs :=
  ⟨h.1, h.2.imp id fun ⟨g, cap, cur, hv, hg, r⟩ => ⟨g, cap, cur, hv, Nat.le_trans hb hg, r⟩⟩
theorem RunAt.kept {S : Nat → Prop} {w w' : World} {B bt : Nat} {v6 : Value} {tb er : Int} (h : RunAt w B bt v6 tb er) (hk : Kept S w w') (hn : ∀ k, B ≤ k → k < B + 4 → ¬ S k) : RunAt w' B bt v6 tb er :=
  ⟨h.t.kept hk (hn _ (by omega) (by omega)), h.r6.kept hk (hn _ (by omega) (by omega)), h.r7.kept hk (hn _ (by omega) (by omega)), h.r8.kept hk (hn _ (by omega) (by omega))⟩

/-- run, while it lays down where each literal stands. -/
structure RunL (w W : World) (bt b9 bw bm : Nat) (lv : Int) (LA : Option Addr) (nl cl : Nat) (M : Tr) (CA : Option Addr) (nc cc : Nat) (LL : Option Addr) (c4 m : Nat) : Prop where
  at_ : RunAt W w.heap.size bt (.pointer (some ⟨bw, 0, none⟩)) 0 0
  l9 : Blk W b9 3 #[.int .i64 lv]
  wk : Blk W bw 55 #[.pointer (some ⟨bt, 0, none⟩), .slice LA nl cl, .map (some bm), .slice CA nc cc, .slice none 0 0]
  map : MapAt Try.prog 3 W bm m (posF M m)
  all : W.ownsRow (w.heap.size + 4) 3 1 (.slice LL M.L.length c4) (litsM M).length ((litsM M).map (Value.int .i64))
  h9 : w.heap.size + 4 ≤ b9
  hm : b9 < bm
  hw : bm < bw
  kept : Below w.heap.size w W
theorem RunL.step {w W W' : World} {bt b9 bw bm : Nat} {lv : Int} {LA : Option Addr} {nl cl : Nat} {M : Tr} {CA : Option Addr} {nc cc : Nat} {LL : Option Addr} {c4 m m' : Nat}
    (h : RunL w W bt b9 bw bm lv LA nl cl M CA nc cc LL c4 m) (hm : MapAt Try.prog 3 W' bm m' (posF M m')) (hg : W.grownBy W' (some bm)) : RunL w W' bt b9 bw bm lv LA nl cl M CA nc cc LL c4 m' := by
  have hk : Kept (fun k => k = bm) W W' := Kept.grown (Kept.refl _ W) hg (fun k hk => .inl (by injection hk with hk; exact hk.symm))
  have hmo : (Value.slice LL M.L.length c4).ownBlock ≠ some bm := by
    obtain ⟨es, k, hob⟩ := h.map.obj
    exact own_obj_ne h.all hob (fun _ _ _ h => by cases h)
  have h9m := map_blk_ne h.map h.l9
  have hwm := map_blk_ne h.map h.wk
  refine ⟨h.at_.kept hk (fun k h1 h2 e => ?_), h.l9.kept hk (fun e => h9m e.symm), h.wk.kept hk (fun e => hwm e.symm), hm, own_kept h.all hk (fun g hg e => hmo (by rw [hg, e])), h.h9, h.hm, h.hw, h.kept.trans (hk.below h.kept.size (fun k hk => ?_))⟩
  · have := h.hm
    have := h.h9
    omega
  · have := h.hm
    have := h.h9
    omega

theorem WK.kept {S : Nat → Prop} {w w' : World} {B bw bt bm : Nat} {LA : Option Addr} {nl cl : Nat} {M : Tr} {CA : Option Addr} {cc : Nat} {c : List Int} {vh : Value} {ch : List Int} (h : WK w B bw bt bm LA nl cl M CA cc c vh ch) (hk : Kept S w w')
    (h1 : ¬ S bw) (h2 : ¬ S bm) (h3 : ∀ g, vh.ownBlock = some g → ¬ S g) (hr : Row .i64 w' CA c) : WK w' B bw bt bm LA nl cl M CA cc c vh ch :=
  ⟨h.blk.kept hk h1, hr, h.nil, own_kept h.own hk h3, h.at_.kept hk h2, h.apart⟩

/-- run, while it resolves. -/
structure RunR (w W : World) (H l D b1 bt b9 bw bm : Nat) (rl : Loop) (lv : Int) (LA : Option Addr) (nl cl : Nat) (M : Tr) (CA : Option Addr) (cc : Nat) (c : List Int) (vh : Value) (ch : List Int) (LL : Option Addr) (c4 : Nat) (v6 : Value) (tb er : Int) : Prop where
  loop : LoopAt W l D rl
  at_ : RunAt W w.heap.size bt v6 tb er
  l9 : Blk W b9 3 #[.int .i64 lv]
  wk : WK W H bw bt bm LA nl cl M CA cc c vh ch
  all : W.ownsRow (w.heap.size + 4) 3 1 (.slice LL M.L.length c4) (litsM M).length ((litsM M).map (Value.int .i64))
  x1 : Blk W b1 23 #[.slice LL M.L.length c4]
  hLL : ∀ g, (Value.slice LL M.L.length c4).ownBlock = some g → g < H
  h9 : w.heap.size + 4 ≤ b9
  hm : b9 < bm
  hw : bm < bw
  h1 : bw < b1
  hD : b1 < D
  hl : D < l
  hH : l < H
  hs : H ≤ W.heap.size
  kept : Below w.heap.size w W
section
variable {w W W' : World} {H l D b1 bt b9 bw bm : Nat} {rl : Loop} {lv : Int} {LA : Option Addr} {nl cl : Nat} {M : Tr} {CA CA' : Option Addr} {cc cc' : Nat} {c c' : List Int} {vh vh' : Value} {ch ch' : List Int} {LL : Option Addr} {c4 : Nat} {v6 : Value} {tb er : Int}
theorem RunR.turn {S : Nat → Prop} (h : RunR w W H l D b1 bt b9 bw bm rl lv LA nl cl M CA cc c vh ch LL c4 v6 tb er) (hk : Kept S W W') (hS : ∀ k, S k → k = bw ∨ H ≤ k) (hwk : WK W' H bw bt bm LA nl cl M CA' cc' c' vh' ch') :
    RunR w W' H l D b1 bt b9 bw bm rl lv LA nl cl M CA' cc' c' vh' ch' LL c4 v6 tb er := by
  have e9 := h.h9
  have em := h.hm
  have ew := h.hw
  have e1 := h.h1
  have eD := h.hD
  have el := h.hl
  have eH := h.hH
  have hn : ∀ k, k ≠ bw → k < H → ¬ S k := fun k h1 h2 h3 => by rcases hS k h3 with h | h <;> omega
  refine ⟨h.loop.kept hk (hn _ (by omega) (by omega)) (hn _ (by omega) (by omega)), h.at_.kept hk (fun k h1 h2 => hn _ (by omega) (by omega)), h.l9.kept hk (hn _ (by omega) (by omega)), hwk,
    own_kept h.all hk (fun g hg => hn _ (fun e => own_blk_ne h.all h.wk.blk (by decide) (e ▸ hg)) (h.hLL g hg)), h.x1.kept hk (hn _ (by omega) (by omega)), h.hLL, e9, em, ew, e1, eD, el, eH, Nat.le_trans h.hs hk.size, h.kept.trans (hk.below h.kept.size (fun k hk => ?_))⟩
  rcases hS k hk with h | h <;> omega
theorem RunR.below (h : RunR w W H l D b1 bt b9 bw bm rl lv LA nl cl M CA cc c vh ch LL c4 v6 tb er) (hb : Below W.heap.size W W') : RunR w W' H l D b1 bt b9 bw bm rl lv LA nl cl M CA cc c vh ch LL c4 v6 tb er :=
  h.turn (Kept.of_below (S := fun _ => False) hb) (fun _ h => h.elim) (h.wk.below hb)
theorem RunR.res (h : RunR w W H l D b1 bt b9 bw bm rl lv LA nl cl M CA cc c vh ch LL c4 v6 tb er) (hk : Kept (fun k => k = bw ∨ vh.ownBlock = some k) W W') (hwk : WK W' H bw bt bm LA nl cl M CA' cc' c' vh' ch') :
    RunR w W' H l D b1 bt b9 bw bm rl lv LA nl cl M CA' cc' c' vh' ch' LL c4 v6 tb er :=
  h.turn hk (fun k hk => hk.imp id fun hk => (h.wk.own.lt k hk).1) hwk
theorem RunR.put (h : RunR w W H l D b1 bt b9 bw bm rl lv LA nl cl M CA cc c vh ch LL c4 v6 tb er) (r' : Loop) : RunR w (W.putObj l (.loop r')) H l D b1 bt b9 bw bm r' lv LA nl cl M CA cc c vh ch LL c4 v6 tb er := by
  have e9 := h.h9
  have em := h.hm
  have ew := h.hw
  have e1 := h.h1
  have eD := h.hD
  have el := h.hl
  have eH := h.hH
  have hk := Kept.putObj W l (.loop r')
  refine ⟨h.loop.put r', h.at_.kept hk (fun k h1 h2 => by omega), h.l9.kept hk (by omega), h.wk.kept hk (by omega) (by omega) (fun g hg e => by have := (h.wk.own.lt g hg).1; omega) (h.wk.crow.putObj h.loop.rec_ _),
    own_kept h.all hk (fun g hg e => ?_), h.x1.kept hk (by omega), h.hLL, e9, em, ew, e1, eD, el, eH, Nat.le_trans h.hs hk.size, h.kept.trans (hk.below h.kept.size (fun k hk => by omega))⟩
  subst e
  exact own_obj_ne h.all h.loop.rec_ (fun _ _ _ h => by cases h) hg
theorem RunR.wrote {v6' : Value} {tb' er' : Int} (h : RunR w W H l D b1 bt b9 bw bm rl lv LA nl cl M CA cc c vh ch LL c4 v6 tb er) (ha : Away w H CA c) (hk : Kept (fun k => w.heap.size + 1 ≤ k ∧ k < w.heap.size + 4) W W') (hat : RunAt W' w.heap.size bt v6' tb' er') :
    RunR w W' H l D b1 bt b9 bw bm rl lv LA nl cl M CA cc c vh ch LL c4 v6' tb' er' := by
  have e9 := h.h9
  have em := h.hm
  have ew := h.hw
  have e1 := h.h1
  have eD := h.hD
  have el := h.hl
  have eH := h.hH
  refine ⟨h.loop.kept hk (by omega) (by omega), hat, h.l9.kept hk (by omega), h.wk.kept hk (by omega) (by omega) (fun g hg e => by have := (h.wk.own.lt g hg).1; omega) (h.wk.crow.kept hk fun h0 a e => ?_),
    own_kept h.all hk (fun g hg e => by have := (h.all.lt g hg).1; omega), h.x1.kept hk (by omega), h.hLL, e9, em, ew, e1, eD, el, eH, Nat.le_trans h.hs hk.size, h.kept.trans (hk.below h.kept.size (fun k hk => by omega))⟩
  rcases ha h0 a e with h | h <;> omega
theorem RunR.reads (h : RunR w W H l D b1 bt b9 bw bm rl lv LA nl cl M CA cc c vh ch LL c4 v6 tb er) : W.cell? ⟨w.heap.size, 0, none⟩ = some (.pointer (some ⟨bt, 0, none⟩)) ∧ W.cell? ⟨w.heap.size + 1, 0, none⟩ = some v6 ∧ W.cell? ⟨bw, 3, none⟩ = some (.slice CA c.length cc) ∧ W.cell? ⟨b9, 0, none⟩ = some (.int .i64 lv) :=
  ⟨h.at_.t.cell 0, h.at_.r6.cell 0, h.wk.blk.cell 3, h.l9.cell 0⟩
end
end Go.Proofs.Ytnfeggeahnjdeaa

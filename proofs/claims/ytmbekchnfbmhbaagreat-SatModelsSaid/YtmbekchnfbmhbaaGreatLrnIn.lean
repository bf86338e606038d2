/- run's state while it resolves. -/
import Derived.Test.YtmbekchnfbmhbaaGreatSatD
import Derived.Sort.CutIn
import Derived.Test.YtmbekchnfbmhbaaGreatLrnI
namespace Go.Proofs.YtmbekchnfbmhbaaGreat
open Go.RowKit Go.Lib

theorem cell_putObj {W : World} {l : Nat} {r : Loop} (h : W.heap[l]? = some (.loop r)) (o : Obj) {p : Addr} {v : Value} (hc : W.cell? p = some v) : (W.putObj l o).cell? p = some v := by
  have hne : p.block ≠ l := by
    rintro e
    subst e
    simp [World.cell?, h] at hc
  rw [World.cell?_of_block (w := W) (World.putObj_heap_other hne)]
  exact hc
theorem Row.putObj {k : IntKind} {W : World} {A : Option Addr} {zs : List Int} (h : Row k W A zs) {l : Nat} {r : Loop} (hl : W.heap[l]? = some (.loop r)) (o : Obj) : Row k (W.putObj l o) A zs :=
  ⟨h.len, h.at_.imp id fun ⟨b, off, h1, h2, h3⟩ => ⟨b, off, h1, Nat.lt_of_lt_of_le h2 (Kept.putObj W l o).size, fun i hi => cell_putObj hl o (h3 i hi)⟩⟩
/-- A row stands away from what run makes ahead of its loop. -/
def Away (A0 : Option Addr) (w : World) (H : Nat) (CA : Option Addr) (c : List Int) : Prop := 0 < c.length → ∀ a, CA = some a → (a.block < w.heap.size ∧ A0 = some a) ∨ H ≤ a.block
theorem Row.away {k : IntKind} {w : World} {A : Option Addr} {zs : List Int} (h : Row k w A zs) (H : Nat) : Away A w H A zs := fun h0 a ha => by
  obtain ⟨b, off, h1, h2, _⟩ := h.at_.resolve_left (by omega)
  rw [h1] at ha
  injection ha with ha
  subst ha
  exact .inl ⟨h2, h1⟩
theorem Row.kept {k : IntKind} {S : Nat → Prop} {w w' : World} {A : Option Addr} {zs : List Int} (h : Row k w A zs) (hk : Kept S w w') (hn : 0 < zs.length → ∀ a, A = some a → ¬ S a.block) : Row k w' A zs := by
  refine ⟨h.len, ?_⟩
  rcases Nat.eq_zero_or_pos zs.length with h0 | h0
  · exact .inl h0
  · obtain ⟨b, off, h1, h2, h3⟩ := h.at_.resolve_left (by omega)
    refine .inr ⟨b, off, h1, Nat.lt_of_lt_of_le h2 hk.size, fun j hj => ?_⟩
    rw [World.cell?_of_block (w := w) (a := ⟨b, off + j, none⟩) (hk.block b h2 (hn h0 _ h1))]
    exact h3 j hj
theorem row_own {w : World} {base n cap : Nat} {A : Option Addr} {l : List Int} (h : w.ownsRow base 3 1 (.slice A n cap) l.length (l.map (Value.int .i64))) (hl : l.length ≤ 1000000) : Row .i64 w A l ∧ (A = none → cap = 0) := by
  rcases h.2 with ⟨hv, h0⟩ | ⟨g, cap', cur, hv, _, hg, _⟩
  · injection hv with h1 h2 h3
    exact ⟨⟨hl, .inl h0⟩, fun _ => h3⟩
  · injection hv with h1 h2 h3
    subst h1
    refine ⟨⟨hl, .inr ⟨g, 0, rfl, Blk.lt hg, fun i hi => ?_⟩⟩, fun h => by cases h⟩
    have := h.cells (g := g) rfl i (.int .i64 l[i]) (by simp [hi])
    rw [Nat.zero_add]
    rcases Nat.eq_zero_or_pos i with rfl | h0
    · exact this
    · rw [Addr.add, if_neg (by omega)] at this
      simpa using this
theorem own_lower {w : World} {B B' size n : Nat} {e : TypeId} {v : Value} {xs : List Value} (h : w.ownsRow B e size v n xs) (hb : B' ≤ B) : w.ownsRow B' e size v n xs :=
  ⟨h.1, h.2.imp id fun ⟨g, cap, cur, hv, hg, r⟩ => ⟨g, cap, cur, hv, Nat.le_trans hb hg, r⟩⟩
theorem RunAt.kept {S : Nat → Prop} {w w' : World} {B bt : Nat} {v6 : Value} {tb er : Int} (h : RunAt w B bt v6 tb er) (hk : Kept S w w') (hn : ∀ k, B ≤ k → k < B + 4 → ¬ S k) : RunAt w' B bt v6 tb er :=
  ⟨h.t.kept hk (hn _ (by omega) (by omega)), h.r6.kept hk (hn _ (by omega) (by omega)), h.r7.kept hk (hn _ (by omega) (by omega)), h.r8.kept hk (hn _ (by omega) (by omega))⟩

/-- run, while it lays down where each literal stands. -/
structure RunL (w W : World) (bt b9 bw bm : Nat) (lv : Int) (LA : Option Addr) (nl cl : Nat) (M : Tr) (CA : Option Addr) (nc cc : Nat) (LL : Option Addr) (c4 m : Nat) : Prop where
  at_ : RunAt W w.heap.size bt (.pointer (some ⟨bw, 0, none⟩)) 0 0
  l9 : Blk W b9 3 #[.int .i64 lv]
  wk : Blk W bw 102 #[.pointer (some ⟨bt, 0, none⟩), .slice LA nl cl, .map (some bm), .slice CA nc cc, .slice none 0 0]
  map : MapAt Tryz.prog 3 W bm m (posF M m)
  all : W.ownsRow (w.heap.size + 4) 3 1 (.slice LL M.L.length c4) (litsM M).length ((litsM M).map (Value.int .i64))
  h9 : w.heap.size + 4 ≤ b9
  hm : b9 < bm
  hw : bm < bw
  kept : Below w.heap.size w W
theorem RunL.step {w W W' : World} {bt b9 bw bm : Nat} {lv : Int} {LA : Option Addr} {nl cl : Nat} {M : Tr} {CA : Option Addr} {nc cc : Nat} {LL : Option Addr} {c4 m m' : Nat}
    (h : RunL w W bt b9 bw bm lv LA nl cl M CA nc cc LL c4 m) (hm : MapAt Tryz.prog 3 W' bm m' (posF M m')) (hg : W.grownBy W' (some bm)) : RunL w W' bt b9 bw bm lv LA nl cl M CA nc cc LL c4 m' := by
  have hk : Kept (fun k => k = bm) W W' := Kept.grown (Kept.refl _ W) hg (fun k hk => .inl (by injection hk with hk; exact hk.symm))
  have hmo : (Value.slice LL M.L.length c4).ownBlock ≠ some bm := by
    obtain ⟨es, k, hob⟩ := h.map.obj
    exact own_obj_ne h.all hob (fun _ _ _ h => by cases h)
  have h9m := map_blk_ne h.map h.l9
  have hwm := map_blk_ne h.map h.wk
  refine ⟨h.at_.kept hk (fun k h1 h2 e => ?_), h.l9.kept hk (fun e => h9m e.symm), h.wk.kept hk (fun e => hwm e.symm), hm, own_kept h.all hk (fun g hg e => hmo (by rw [hg, e])), h.h9, h.hm, h.hw, h.kept.trans (hk.below h.kept.size (fun k hk => ?_))⟩
  · have := h.hm
    have := h.h9
    omega
  · have := h.hm
    have := h.h9
    omega

theorem WK.kept {S : Nat → Prop} {w w' : World} {B bw bt bm : Nat} {LA : Option Addr} {nl cl : Nat} {M : Tr} {CA : Option Addr} {cc : Nat} {c : List Int} {vh : Value} {ch : List Int} (h : WK w B bw bt bm LA nl cl M CA cc c vh ch) (hk : Kept S w w')
    (h1 : ¬ S bw) (h2 : ¬ S bm) (h3 : ∀ g, vh.ownBlock = some g → ¬ S g) (hr : Row .i64 w' CA c) : WK w' B bw bt bm LA nl cl M CA cc c vh ch :=
  ⟨h.blk.kept hk h1, hr, h.nil, own_kept h.own hk h3, h.at_.kept hk h2, h.apart⟩

/-- run, while it resolves. -/
structure RunR (w W : World) (H l D b1 bt b9 bw bm : Nat) (rl : Loop) (lv : Int) (LA : Option Addr) (nl cl : Nat) (M : Tr) (CA : Option Addr) (cc : Nat) (c : List Int) (vh : Value) (ch : List Int) (LL : Option Addr) (c4 : Nat) (v6 : Value) (tb er : Int) : Prop where
  loop : LoopAt W l D rl
  at_ : RunAt W w.heap.size bt v6 tb er
  l9 : Blk W b9 3 #[.int .i64 lv]
  wk : WK W H bw bt bm LA nl cl M CA cc c vh ch
  all : W.ownsRow (w.heap.size + 4) 3 1 (.slice LL M.L.length c4) (litsM M).length ((litsM M).map (Value.int .i64))
  x1 : Blk W b1 23 #[.slice LL M.L.length c4]
  hLL : ∀ g, (Value.slice LL M.L.length c4).ownBlock = some g → g < H
  h9 : w.heap.size + 4 ≤ b9
  hm : b9 < bm
  hw : bm < bw
  h1 : bw < b1
  hD : b1 < D
  hl : D < l
  hH : l < H
  hs : H ≤ W.heap.size
  kept : Below w.heap.size w W
section
variable {w W W' : World} {H l D b1 bt b9 bw bm : Nat} {rl : Loop} {lv : Int} {LA : Option Addr} {nl cl : Nat} {M : Tr} {CA CA' : Option Addr} {cc cc' : Nat} {c c' : List Int} {vh vh' : Value} {ch ch' : List Int} {LL : Option Addr} {c4 : Nat} {v6 : Value} {tb er : Int}
theorem RunR.turn {S : Nat → Prop} (h : RunR w W H l D b1 bt b9 bw bm rl lv LA nl cl M CA cc c vh ch LL c4 v6 tb er) (hk : Kept S W W') (hS : ∀ k, S k → k = bw ∨ H ≤ k) (hwk : WK W' H bw bt bm LA nl cl M CA' cc' c' vh' ch') :
    RunR w W' H l D b1 bt b9 bw bm rl lv LA nl cl M CA' cc' c' vh' ch' LL c4 v6 tb er := by
  have e9 := h.h9
  have em := h.hm
  have ew := h.hw
  have e1 := h.h1
  have eD := h.hD
  have el := h.hl
  have eH := h.hH
  have hn : ∀ k, k ≠ bw → k < H → ¬ S k := fun k h1 h2 h3 => by rcases hS k h3 with h | h <;> omega
  refine ⟨h.loop.kept hk (hn _ (by omega) (by omega)) (hn _ (by omega) (by omega)), h.at_.kept hk (fun k h1 h2 => hn _ (by omega) (by omega)), h.l9.kept hk (hn _ (by omega) (by omega)), hwk,
    own_kept h.all hk (fun g hg => hn _ (fun e => own_blk_ne h.all h.wk.blk (by decide) (e ▸ hg)) (h.hLL g hg)), h.x1.kept hk (hn _ (by omega) (by omega)), h.hLL, e9, em, ew, e1, eD, el, eH, Nat.le_trans h.hs hk.size, h.kept.trans (hk.below h.kept.size (fun k hk => ?_))⟩
  rcases hS k hk with h | h <;> omega
theorem RunR.below (h : RunR w W H l D b1 bt b9 bw bm rl lv LA nl cl M CA cc c vh ch LL c4 v6 tb er) (hb : Below W.heap.size W W') : RunR w W' H l D b1 bt b9 bw bm rl lv LA nl cl M CA cc c vh ch LL c4 v6 tb er :=
  h.turn (Kept.of_below (S := fun _ => False) hb) (fun _ h => h.elim) (h.wk.below hb)
theorem RunR.res (h : RunR w W H l D b1 bt b9 bw bm rl lv LA nl cl M CA cc c vh ch LL c4 v6 tb er) (hk : Kept (fun k => k = bw ∨ vh.ownBlock = some k) W W') (hwk : WK W' H bw bt bm LA nl cl M CA' cc' c' vh' ch') :
    RunR w W' H l D b1 bt b9 bw bm rl lv LA nl cl M CA' cc' c' vh' ch' LL c4 v6 tb er :=
  h.turn hk (fun k hk => hk.imp id fun hk => (h.wk.own.lt k hk).1) hwk
theorem RunR.put (h : RunR w W H l D b1 bt b9 bw bm rl lv LA nl cl M CA cc c vh ch LL c4 v6 tb er) (r' : Loop) : RunR w (W.putObj l (.loop r')) H l D b1 bt b9 bw bm r' lv LA nl cl M CA cc c vh ch LL c4 v6 tb er := by
  have e9 := h.h9
  have em := h.hm
  have ew := h.hw
  have e1 := h.h1
  have eD := h.hD
  have el := h.hl
  have eH := h.hH
  have hk := Kept.putObj W l (.loop r')
  refine ⟨h.loop.put r', h.at_.kept hk (fun k h1 h2 => by omega), h.l9.kept hk (by omega), h.wk.kept hk (by omega) (by omega) (fun g hg e => by have := (h.wk.own.lt g hg).1; omega) (h.wk.crow.putObj h.loop.rec_ _),
    own_kept h.all hk (fun g hg e => ?_), h.x1.kept hk (by omega), h.hLL, e9, em, ew, e1, eD, el, eH, Nat.le_trans h.hs hk.size, h.kept.trans (hk.below h.kept.size (fun k hk => by omega))⟩
  subst e
  exact own_obj_ne h.all h.loop.rec_ (fun _ _ _ h => by cases h) hg
theorem RunR.wrote {A0 : Option Addr} {v6' : Value} {tb' er' : Int} (h : RunR w W H l D b1 bt b9 bw bm rl lv LA nl cl M CA cc c vh ch LL c4 v6 tb er) (ha : Away A0 w H CA c) (hk : Kept (fun k => w.heap.size + 1 ≤ k ∧ k < w.heap.size + 4) W W') (hat : RunAt W' w.heap.size bt v6' tb' er') :
    RunR w W' H l D b1 bt b9 bw bm rl lv LA nl cl M CA cc c vh ch LL c4 v6' tb' er' := by
  have e9 := h.h9
  have em := h.hm
  have ew := h.hw
  have e1 := h.h1
  have eD := h.hD
  have el := h.hl
  have eH := h.hH
  refine ⟨h.loop.kept hk (by omega) (by omega), hat, h.l9.kept hk (by omega), h.wk.kept hk (by omega) (by omega) (fun g hg e => by have := (h.wk.own.lt g hg).1; omega) (h.wk.crow.kept hk fun h0 a e => ?_),
    own_kept h.all hk (fun g hg e => by have := (h.all.lt g hg).1; omega), h.x1.kept hk (by omega), h.hLL, e9, em, ew, e1, eD, el, eH, Nat.le_trans h.hs hk.size, h.kept.trans (hk.below h.kept.size (fun k hk => by omega))⟩
  rcases ha h0 a e with h | h <;> omega
theorem RunR.reads (h : RunR w W H l D b1 bt b9 bw bm rl lv LA nl cl M CA cc c vh ch LL c4 v6 tb er) : W.cell? ⟨w.heap.size, 0, none⟩ = some (.pointer (some ⟨bt, 0, none⟩)) ∧ W.cell? ⟨w.heap.size + 1, 0, none⟩ = some v6 ∧ W.cell? ⟨bw, 3, none⟩ = some (.slice CA c.length cc) ∧ W.cell? ⟨b9, 0, none⟩ = some (.int .i64 lv) :=
  ⟨h.at_.t.cell 0, h.at_.r6.cell 0, h.wk.blk.cell 3, h.l9.cell 0⟩
end
end Go.Proofs.YtmbekchnfbmhbaaGreat

/- run, without a trail. -/
namespace Go.Proofs.YtmbekchnfbmhbaaGreat
open Go.RowKit Go.Lib

/-- The world behind run's first lines. -/
def runWN (w : World)  : World := (((w.alloc (.cells #[.pointer none] 46)).alloc (.cells #[.pointer none] 97)).alloc (.cells #[.int .i64 0] 3)).alloc (.cells #[.int .i64 0] 30)
/-- What lies there: the box of t, and the cells of the three results. -/
structure RunAtN (w : World) (B : Nat) (v6 : Value) (tb er : Int) : Prop where
  t : Blk w B 46 #[.pointer none]
  r6 : Blk w (B + 1) 97 #[v6]
  r7 : Blk w (B + 1 + 1) 3 #[.int .i64 tb]
  r8 : Blk w (B + 1 + 1 + 1) 30 #[.int .i64 er]
theorem RunAtN.below {w w' : World} {B B' : Nat} {v6 : Value} {tb er : Int} (h : RunAtN w B v6 tb er) (hb : Below B' w w') (hle : B + 4 ≤ B') : RunAtN w' B v6 tb er :=
  ⟨h.t.below hb (by omega), h.r6.below hb (by omega), h.r7.below hb (by omega), h.r8.below hb (by omega)⟩
theorem runWN_at (w : World)  : RunAtN (runWN w) w.heap.size (.pointer none) 0 0 :=
  ⟨(((Blk.new w _ _).alloc _).alloc _).alloc _, ((Blk.new_at (by simp) _ _).alloc _).alloc _, (Blk.new_at (by simp) _ _).alloc _, Blk.new_at (by simp) _ _⟩
theorem runWN_below (w : World)  : Below w.heap.size w (runWN w) :=
  ((((Below.refl _ w).alloc (Nat.le_refl _) _).alloc (by simp) _).alloc (by simp; omega) _).alloc (by simp; omega) _
theorem runWN_size (w : World)  : (runWN w).heap.size = w.heap.size + 4 := by simp [runWN]
theorem RunAtN.lt {w : World} {B : Nat} {v6 : Value} {tb er : Int} (h : RunAtN w B v6 tb er) : B + 4 ≤ w.heap.size := h.r8.lt
section
variable {w : World} {B : Nat} {v6 : Value} {tb er : Int}
theorem RunAtN.alloc (h : RunAtN w B v6 tb er) (o : Obj) : RunAtN (w.alloc o) B v6 tb er :=
  ⟨h.t.alloc _, h.r6.alloc _, h.r7.alloc _, h.r8.alloc _⟩
theorem RunAtN.set6 (h : RunAtN w B v6 tb er) (v : Value) : RunAtN (w.setCell ⟨B + 1, 0, none⟩ v) B v tb er := by
  have hk := Kept.set1 w (B + 1) 0 v
  exact ⟨h.t.kept hk (by omega), h.r6.set_ 0 v, h.r7.kept hk (by omega), h.r8.kept hk (by omega)⟩
theorem RunAtN.set7 (h : RunAtN w B v6 tb er) (x : Int) : RunAtN (w.setCell ⟨B + 1 + 1, 0, none⟩ (.int .i64 x)) B v6 x er := by
  have hk := Kept.set1 w (B + 1 + 1) 0 (.int .i64 x)
  exact ⟨h.t.kept hk (by omega), h.r6.kept hk (by omega), h.r7.set_ 0 _, h.r8.kept hk (by omega)⟩
theorem RunAtN.set8 (h : RunAtN w B v6 tb er) (x : Int) : RunAtN (w.setCell ⟨B + 1 + 1 + 1, 0, none⟩ (.int .i64 x)) B v6 tb x := by
  have hk := Kept.set1 w (B + 1 + 1 + 1) 0 (.int .i64 x)
  exact ⟨h.t.kept hk (by omega), h.r6.kept hk (by omega), h.r7.kept hk (by omega), h.r8.set_ 0 _⟩
end



set_option maxRecDepth 100000 in
set_option maxHeartbeats 4000000 in
theorem run_nil {w : World} {LA A : Option Addr} {nl cl n cap : Nat} :
    Calls Tryz.prog 68 #[.pointer none, .slice LA nl cl, .slice A n cap] w (RunPost w A [] 0 [] 3) := by
  have K2 : Calls Tryz.prog 56 #[.pointer none, .slice A n cap] (runWN w) fun e w' => e = .returned (.tuple #[.int .i64 0, .int .i64 3]) ∧ Below (runWN w).heap.size (runWN w) w' := (level_nil_ok A n cap (runWN w)).mono fun e w' ⟨h1, h2⟩ => ⟨h1, by rw [← h2]; exact Below.refl _ _⟩
  have ha := runWN_at w
  have hb := runWN_below w
  have hsz := runWN_size w
  go_enter Tryz.func68, Tryz.ntmps68
  go_wp2
  change Code.wp _ _ _ _ (runWN w)
  generalize runWN w = w0 at *
  have a3 := ha.t.cell 0
  simp only [List.getElem?_toArray, List.getElem?_cons_zero] at a3
  have HA := Lib.hid ha
  have HB := Lib.hid hb
  clear ha hb
  go_step3
  go_wp2_with (go_at_call 56; go_loud (refine K2.mono ?_; rintro e w1 ⟨rfl, hb1⟩; have ha1 := HA.out.below hb1 (by omega); have ha2 := ha1.alloc (.cells #[.int .i64 0] 3); have HA2 := Lib.hid ha2; have e8 := ha2.r8.cell 0; have f8 := ha2.r8.frozen 0; simp only [List.getElem?_toArray, List.getElem?_cons_zero] at e8; have hs1 := hb1.size; have HB2 := Lib.hid (((HB.out.trans (hb1.mono (by omega))).alloc (by omega) (.cells #[.int .i64 0] 3)).trans ((Kept.set1 (w1.alloc (.cells #[.int .i64 0] 3)) (w.heap.size + 1 + 1 + 1) 0 (.int .i64 3)).below (by simp; omega) (fun k hk => by omega))); have HA3 := Lib.hid (ha2.set8 3); have q8 := (ha2.set8 3).r8.cell 0; have v9 := ((Blk.new w1 3 #[.int .i64 0]).kept (Kept.set1 _ (w.heap.size + 1 + 1 + 1) 0 (.int .i64 3)) (by omega)).cell 0; simp only [List.getElem?_toArray, List.getElem?_cons_zero] at q8 v9; clear hb1 ha1 ha2))
  generalize (w1.alloc (.cells #[.int .i64 0] 3)).setCell ⟨w.heap.size + 1 + 1 + 1, 0, none⟩ (.int .i64 3) = wr at *
  have hd := below_drewN (Below.refl wr.heap.size wr) 1
  have had := HA3.out.below hd HA3.out.lt
  have HBD := Lib.hid (HB2.out.trans (hd.mono (by have := HA3.out.lt; omega)))
  change RunAtN wr.drew _ _ _ _ at had
  have HAD := Lib.hid had
  have c6 := fun o => (HA3.out.alloc o).r6.cell 0
  have c7 := fun o => (HA3.out.alloc o).r7.cell 0
  have c8 := fun o => (HA3.out.alloc o).r8.cell 0
  have c9 := had.r8.cell 0
  have f6 := fun o => (HA3.out.alloc o).r6.frozen 0
  have f7 := fun o => (HA3.out.alloc o).r7.frozen 0
  have f8 := fun o => (HA3.out.alloc o).r8.frozen 0
  have hlt := had.lt
  simp only [List.getElem?_toArray, List.getElem?_cons_zero] at c6 c7 c8 c9
  clear had hd HA2 q8 v9 e8
  go_region
  have o4 := HA3.out.alloc (.cells #[.pointer none, .slice none 0 0, .map none, .slice none 0 0, .slice none 0 0] 102)
  have ho := Blk.new wr 102 #[.pointer none, .slice none 0 0, .map none, .slice none 0 0, .slice none 0 0]
  have hbo := (Below.refl wr.heap.size wr).alloc (Nat.le_refl _) (.cells #[.pointer none, .slice none 0 0, .map none, .slice none 0 0, .slice none 0 0] 102)
  have hbo2 := HB2.out.trans (hbo.mono (by have := HA3.out.lt; omega))
  have hlt3 := HA3.out.lt
  generalize wr.alloc (.cells #[.pointer none, .slice none 0 0, .map none, .slice none 0 0, .slice none 0 0] 102) = w4 at *
  have o5 := ((o4.set6 (.pointer (some ⟨wr.heap.size, 0, none⟩))).set7 0).set8 3
  have k5 := ((Kept.set1 w4 (w.heap.size + 1) 0 (.pointer (some ⟨wr.heap.size, 0, none⟩))).mono (S' := fun b => w.heap.size ≤ b ∧ b < wr.heap.size) (fun b hb => by omega)).trans (((Kept.set1 (w4.setCell ⟨w.heap.size + 1, 0, none⟩ (.pointer (some ⟨wr.heap.size, 0, none⟩))) (w.heap.size + 1 + 1) 0 (.int .i64 0)).mono (S' := fun b => w.heap.size ≤ b ∧ b < wr.heap.size) (fun b hb => by omega)).trans ((Kept.set1 ((w4.setCell ⟨w.heap.size + 1, 0, none⟩ (.pointer (some ⟨wr.heap.size, 0, none⟩))).setCell ⟨w.heap.size + 1 + 1, 0, none⟩ (.int .i64 0)) (w.heap.size + 1 + 1 + 1) 0 (.int .i64 3)).mono (S' := fun b => w.heap.size ≤ b ∧ b < wr.heap.size) (fun b hb => by omega)))
  generalize ((w4.setCell ⟨w.heap.size + 1, 0, none⟩ (.pointer (some ⟨wr.heap.size, 0, none⟩))).setCell ⟨w.heap.size + 1 + 1, 0, none⟩ (.int .i64 0)).setCell ⟨w.heap.size + 1 + 1 + 1, 0, none⟩ (.int .i64 3) = w5 at *
  have o6 := o5.below (below_drewN (Below.refl w5.heap.size w5) 1) o5.lt
  have h6 := (ho.kept k5 (fun h => by omega)).below (below_drewN (Below.refl w5.heap.size w5) 1) (ho.kept k5 (fun h => by omega)).lt
  have hb6 := (hbo2.trans (k5.below hbo2.size (fun k hk => hk.1))).trans ((below_drewN (Below.refl w5.heap.size w5) 1).mono (by have := o5.lt; omega))
  have y6 := o6.r6.cell 0
  have y7 := o6.r7.cell 0
  have y8 := o6.r8.cell 0
  simp only [List.getElem?_toArray, List.getElem?_cons_zero] at y6 y7 y8
  have HR := Lib.hid (RunPost.low (A0 := A) (er := 3) h6 hb6)
  clear o4 ho hbo hbo2 o5 k5 o6 h6 hb6 HA3 HB2 HAD HBD K2 HA HB
  change w5.drew.cell? _ = _ at y6 y7 y8
  go_wp2
  exact bodyPost_ret (v := .tuple #[.pointer (some ⟨wr.heap.size, 0, none⟩), .int .i64 0, .int .i64 3]) (by simp [results, Tryz.results68, go_sem, y6, y7, y8]) rfl HR.out
end Go.Proofs.YtmbekchnfbmhbaaGreat

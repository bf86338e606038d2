/- A region that draws its order, in a round. -/
import Derived.Test.YtmbekchnfbmhbaaGreatLrnG
import Derived.WalkMore
namespace Go.Proofs.YtmbekchnfbmhbaaGreat
open Go.RowKit Go.Lib

/-- What follows, with no outgrowing and no panic. -/
def NoOut (Q : Exit → Act → World → Prop) : Exit → Act → World → Prop
  | .outgrown, _, _ => False
  | .panic _, _, _ => False
  | e, a, w => Q e a w
theorem NoOut.lets {Q : Exit → Act → World → Prop} (h : LetsOut (NoOut Q)) : False := by
  obtain ⟨a, w, h1⟩ := h
  exact h1

section
variable {l n : Nat} {P : Program} {ops : Array Oper} {Q : Exit → Act → World → Prop} {md : Region.Mode}
theorem wpIn_of_wp {o : Oper} (hd : ∀ c, o.op ≠ .defer c) {K K' : Act → World → Prop} (hK : ∀ a w, K a w → K' a w) {a : Act} {w : World} (h : o.wp P a w K (NoOut Q)) : o.wpIn (Fence.wide.inRound l) n P a w K' Q := by
  refine ⟨fun f _ => trivial, ?_⟩
  rw [Oper.semAt_eq _ _ _ hd]
  unfold Oper.wp at h
  generalize (execOp a.eval o).run P w = r at *
  cases r with
  | ok x w' =>
    cases x with
    | enter f args =>
      refine ⟨fun h => by simp [Fence.wide] at h, ?_⟩
      refine CallsIn.mono (F := Fence.wide) (callsIn_wide.2 h) ?_
      intro e w'' he
      cases e with
      | returned v => exact hK _ _ he
      | panicked c => exact (he : False).elim
      | outgrown => exact (NoOut.lets he).elim
    | row row args =>
      refine ⟨fun h => by simp [Fence.wide] at h, ?_⟩
      intro c cs _
      obtain ⟨v, w2, hr, hs⟩ := h c cs
      exact ⟨v, w2, hK _ _ hr, stepsIn_wide.2 hs⟩
    | value v => exact hK _ _ h
    | skip => exact hK _ _ h
    | defer d => exact hK _ _ h
    | _ => exact h.elim
  | halt x w' =>
    cases x <;> exact (h : False).elim
theorem wpOpIn_of_wpOp (hd : ∀ (i : Nat) (o : Oper) c, ops[i]? = some o → o.op ≠ .defer c) {i : Nat} {K K' : Act → World → Prop} (hK : ∀ a w, K a w → K' a w) {a : Act} {w : World} (h : wpOp P ops (NoOut Q) i K a w) : wpOpIn (Fence.wide.inRound l) n P ops Q i K' a w := by
  unfold wpOp at h
  unfold Go.wpOpIn
  cases ho : ops[i]? with
  | none => rw [ho] at h; exact hK _ _ h
  | some o =>
    rw [ho] at h
    simp only at h ⊢
    split
    · rename_i hw
      rw [if_pos hw] at h
      rcases h with h | ⟨_, hl⟩
      · exact wpIn_of_wp (fun c => hd i o c ho) hK h
      · exact (NoOut.lets hl).elim
    · rename_i hw
      rw [if_neg hw] at h
      exact ⟨fun f _ => trivial, hK _ _ h⟩
theorem wpAnyIn_of_wpAny (hd : ∀ (i : Nat) (o : Oper) c, ops[i]? = some o → o.op ≠ .defer c) : ∀ (fuel : Nat) (listed : Array Bool) (a : Act) (w : World), wpAny P md ops (NoOut Q) fuel listed a w → wpAnyIn (Fence.wide.inRound l) n P md ops Q fuel listed a w
  | 0, _, _, _, h => ⟨h.1, h.2⟩
  | fuel + 1, _, _, _, h => ⟨fun h0 => h.1 h0, fun i hi => wpOpIn_of_wpOp hd (fun a' w' => wpAnyIn_of_wpAny hd fuel _ a' w') (h.2 i hi)⟩
/-- Of a list of operations, none defers. -/
def noDefer (ops : Array Oper) : Bool := ops.all fun o => match o.op with
  | .defer _ => false
  | _ => true
theorem noDefer_spec (h : noDefer ops = true) (i : Nat) (o : Oper) (c) (ho : ops[i]? = some o) : o.op ≠ .defer c := by
  intro e
  unfold noDefer at h
  rw [Array.all_eq_true] at h
  obtain ⟨hi, rfl⟩ := Array.getElem?_eq_some_iff.1 ho
  have := h i hi
  rw [e] at this
  cases this
/-- **A region that draws its order, in a round**: walked as in a plain function, with loads that may be taken first. -/
theorem wpIn_region_round {S : World → Prop} {id : Nat} {a : Act} {w : World} (hm : P.follows .mixedOrders = true) (hd : noDefer ops = true) (hS : S w.drew)
    (h : S w.drew → wpAnyH P .any ops (NoOut Q) S ops.size (Array.replicate ops.size false) a w.drew) : (Code.region id ops true).wpIn (Fence.wide.inRound l) n P Q a w :=
  wpIn_region_any hm (wpAnyIn_of_wpAny (noDefer_spec hd) _ _ _ _ (wpAny_of_held _ _ _ _ (h hS)))
end
end Go.Proofs.YtmbekchnfbmhbaaGreat

/- run, where nothing is resolved. -/
namespace Go.Proofs.YtmbekchnfbmhbaaGreat
open Go.RowKit Go.Lib

/-- A row lies where the one handed in lies, or in new memory. -/
def Far (H : Nat) (A0 CA : Option Addr) (c : List Int) : Prop := 0 < c.length → ∀ a, CA = some a → A0 = some a ∨ H ≤ a.block
/-- What run leaves. -/
def RunPost (w : World) (A0 : Option Addr) (c : List Int) (b : Int) (ch : List Int) (er : Int) (e : Ending) (w' : World) : Prop :=
  ∃ bw CA cc vh, e = .returned (.tuple #[.pointer (some ⟨bw, 0, none⟩), .int .i64 b, .int .i64 er]) ∧ bw < w'.heap.size ∧ w'.cell? ⟨bw, 3, none⟩ = some (.slice CA c.length cc) ∧ Row .i64 w' CA c ∧ (CA = none → cc = 0) ∧ w'.cell? ⟨bw, 4, none⟩ = some vh ∧ IntsFrom w' w.heap.size vh ch ∧ Below w.heap.size w w' ∧ Far w.heap.size A0 CA c
theorem RunPost.low {w w' : World} {A0 : Option Addr} {bw : Nat} {b0 b1 b2 : Value} {er : Int} (hb : Blk w' bw 102 #[b0, b1, b2, .slice none 0 0, .slice none 0 0]) (h : Below w.heap.size w w') :
    RunPost w A0 [] 0 [] er (.returned (.tuple #[.pointer (some ⟨bw, 0, none⟩), .int .i64 0, .int .i64 er])) w' := by
  refine ⟨bw, none, 0, _, rfl, hb.lt, hb.cell 3, ⟨by simp, .inl rfl⟩, fun _ => rfl, hb.cell 4, ?_, h, fun h0 => by simp at h0⟩
  exact World.ownsRow_nil _ _ _ _

/-- The world behind run's first lines. -/
def runW (w : World) (bt : Nat) : World := (((w.alloc (.cells #[.pointer (some ⟨bt, 0, none⟩)] 46)).alloc (.cells #[.pointer none] 97)).alloc (.cells #[.int .i64 0] 3)).alloc (.cells #[.int .i64 0] 30)
/-- What lies there: the box of t, and the cells of the three results. -/
structure RunAt (w : World) (B bt : Nat) (v6 : Value) (tb er : Int) : Prop where
  t : Blk w B 46 #[.pointer (some ⟨bt, 0, none⟩)]
  r6 : Blk w (B + 1) 97 #[v6]
  r7 : Blk w (B + 1 + 1) 3 #[.int .i64 tb]
  r8 : Blk w (B + 1 + 1 + 1) 30 #[.int .i64 er]
theorem RunAt.below {w w' : World} {B B' bt : Nat} {v6 : Value} {tb er : Int} (h : RunAt w B bt v6 tb er) (hb : Below B' w w') (hle : B + 4 ≤ B') : RunAt w' B bt v6 tb er :=
  ⟨h.t.below hb (by omega), h.r6.below hb (by omega), h.r7.below hb (by omega), h.r8.below hb (by omega)⟩
theorem runW_at (w : World) (bt : Nat) : RunAt (runW w bt) w.heap.size bt (.pointer none) 0 0 :=
  ⟨(((Blk.new w _ _).alloc _).alloc _).alloc _, ((Blk.new_at (by simp) _ _).alloc _).alloc _, (Blk.new_at (by simp) _ _).alloc _, Blk.new_at (by simp) _ _⟩
theorem runW_below (w : World) (bt : Nat) : Below w.heap.size w (runW w bt) :=
  ((((Below.refl _ w).alloc (Nat.le_refl _) _).alloc (by simp) _).alloc (by simp; omega) _).alloc (by simp; omega) _
theorem runW_size (w : World) (bt : Nat) : (runW w bt).heap.size = w.heap.size + 4 := by simp [runW]
theorem RunAt.lt {w : World} {B bt : Nat} {v6 : Value} {tb er : Int} (h : RunAt w B bt v6 tb er) : B + 4 ≤ w.heap.size := h.r8.lt
section
variable {w : World} {B bt : Nat} {v6 : Value} {tb er : Int}
theorem RunAt.alloc (h : RunAt w B bt v6 tb er) (o : Obj) : RunAt (w.alloc o) B bt v6 tb er :=
  ⟨h.t.alloc _, h.r6.alloc _, h.r7.alloc _, h.r8.alloc _⟩
theorem RunAt.set6 (h : RunAt w B bt v6 tb er) (v : Value) : RunAt (w.setCell ⟨B + 1, 0, none⟩ v) B bt v tb er := by
  have hk := Kept.set1 w (B + 1) 0 v
  exact ⟨h.t.kept hk (by omega), h.r6.set_ 0 v, h.r7.kept hk (by omega), h.r8.kept hk (by omega)⟩
theorem RunAt.set7 (h : RunAt w B bt v6 tb er) (x : Int) : RunAt (w.setCell ⟨B + 1 + 1, 0, none⟩ (.int .i64 x)) B bt v6 x er := by
  have hk := Kept.set1 w (B + 1 + 1) 0 (.int .i64 x)
  exact ⟨h.t.kept hk (by omega), h.r6.kept hk (by omega), h.r7.set_ 0 _, h.r8.kept hk (by omega)⟩
theorem RunAt.set8 (h : RunAt w B bt v6 tb er) (x : Int) : RunAt (w.setCell ⟨B + 1 + 1 + 1, 0, none⟩ (.int .i64 x)) B bt v6 tb x := by
  have hk := Kept.set1 w (B + 1 + 1 + 1) 0 (.int .i64 x)
  exact ⟨h.t.kept hk (by omega), h.r6.kept hk (by omega), h.r7.kept hk (by omega), h.r8.set_ 0 _⟩
end

set_option maxRecDepth 100000 in
set_option maxHeartbeats 4000000 in
theorem run_low {w : World} {BT bt ba : Nat} {M : Tr} {LA A : Option Addr} {nl cl cap : Nat} {c : List Int} (hT : TT w BT bt ba M) (hc : Row .i64 w A c) (hn : A = none → cap = 0) (er : Int)
    (hl : lvlV (levelM M c) = .tuple #[.int .i64 0, .int .i64 er]) (her : er = 0 ∨ er = 2) :
    Calls Tryz.prog 68 #[.pointer (some ⟨bt, 0, none⟩), .slice LA nl cl, .slice A c.length cap] w (RunPost w A [] 0 [] er) := by
  have K2 := level_fn cap (hT.below (runW_below w bt)) (hc.below (runW_below w bt)) hn
  rw [hl] at K2
  have ha := runW_at w bt
  have hb := runW_below w bt
  have hsz := runW_size w bt
  rcases her with rfl | rfl
  · go_enter Tryz.func68, Tryz.ntmps68
    go_wp2
    change Code.wp _ _ _ _ (runW w bt)
    generalize runW w bt = w0 at *
    have a3 := ha.t.cell 0
    simp only [List.getElem?_toArray, List.getElem?_cons_zero] at a3
    have HA := Lib.hid ha
    have HB := Lib.hid hb
    clear ha hb hT hc
    go_step3
    go_wp2_with (go_at_call 56; go_loud (refine K2.mono ?_; rintro e w1 ⟨rfl, hb1⟩; have ha1 := HA.out.below hb1 (by omega); have ha2 := ha1.alloc (.cells #[.int .i64 0] 3); have HA2 := Lib.hid ha2; have e8 := ha2.r8.cell 0; have f8 := ha2.r8.frozen 0; simp only [List.getElem?_toArray, List.getElem?_cons_zero] at e8; have hs1 := hb1.size; have HB2 := Lib.hid (((HB.out.trans (hb1.mono (by omega))).alloc (by omega) (.cells #[.int .i64 0] 3)).trans ((Kept.set1 (w1.alloc (.cells #[.int .i64 0] 3)) (w.heap.size + 1 + 1 + 1) 0 (.int .i64 0)).below (by simp; omega) (fun k hk => by omega))); have HA3 := Lib.hid (ha2.set8 0); have q8 := (ha2.set8 0).r8.cell 0; have v9 := ((Blk.new w1 3 #[.int .i64 0]).kept (Kept.set1 _ (w.heap.size + 1 + 1 + 1) 0 (.int .i64 0)) (by omega)).cell 0; simp only [List.getElem?_toArray, List.getElem?_cons_zero] at q8 v9; clear hb1 ha1 ha2))
    generalize (w1.alloc (.cells #[.int .i64 0] 3)).setCell ⟨w.heap.size + 1 + 1 + 1, 0, none⟩ (.int .i64 0) = wr at *
    have hd := below_drewN (Below.refl wr.heap.size wr) 1
    have had := HA3.out.below hd HA3.out.lt
    have HBD := Lib.hid (HB2.out.trans (hd.mono (by have := HA3.out.lt; omega)))
    change RunAt wr.drew _ _ _ _ _ at had
    have HAD := Lib.hid had
    have c6 := fun o => (HA3.out.alloc o).r6.cell 0
    have c7 := fun o => (HA3.out.alloc o).r7.cell 0
    have c8 := fun o => (HA3.out.alloc o).r8.cell 0
    have c9 := had.r8.cell 0
    have f6 := fun o => (HA3.out.alloc o).r6.frozen 0
    have f7 := fun o => (HA3.out.alloc o).r7.frozen 0
    have f8 := fun o => (HA3.out.alloc o).r8.frozen 0
    have hlt := had.lt
    simp only [List.getElem?_toArray, List.getElem?_cons_zero] at c6 c7 c8 c9
    clear had hd HA2 q8 v9 e8 hl hn
    go_region
    have o4 := HA3.out.alloc (.cells #[.pointer none, .slice none 0 0, .map none, .slice none 0 0, .slice none 0 0] 102)
    have ho := Blk.new wr 102 #[.pointer none, .slice none 0 0, .map none, .slice none 0 0, .slice none 0 0]
    have hbo := (Below.refl wr.heap.size wr).alloc (Nat.le_refl _) (.cells #[.pointer none, .slice none 0 0, .map none, .slice none 0 0, .slice none 0 0] 102)
    have hbo2 := HB2.out.trans (hbo.mono (by have := HA3.out.lt; omega))
    have hlt3 := HA3.out.lt
    generalize wr.alloc (.cells #[.pointer none, .slice none 0 0, .map none, .slice none 0 0, .slice none 0 0] 102) = w4 at *
    have o5 := ((o4.set6 (.pointer (some ⟨wr.heap.size, 0, none⟩))).set7 0).set8 0
    have k5 := ((Kept.set1 w4 (w.heap.size + 1) 0 (.pointer (some ⟨wr.heap.size, 0, none⟩))).mono (S' := fun b => w.heap.size ≤ b ∧ b < wr.heap.size) (fun b hb => by omega)).trans (((Kept.set1 (w4.setCell ⟨w.heap.size + 1, 0, none⟩ (.pointer (some ⟨wr.heap.size, 0, none⟩))) (w.heap.size + 1 + 1) 0 (.int .i64 0)).mono (S' := fun b => w.heap.size ≤ b ∧ b < wr.heap.size) (fun b hb => by omega)).trans ((Kept.set1 ((w4.setCell ⟨w.heap.size + 1, 0, none⟩ (.pointer (some ⟨wr.heap.size, 0, none⟩))).setCell ⟨w.heap.size + 1 + 1, 0, none⟩ (.int .i64 0)) (w.heap.size + 1 + 1 + 1) 0 (.int .i64 0)).mono (S' := fun b => w.heap.size ≤ b ∧ b < wr.heap.size) (fun b hb => by omega)))
    generalize ((w4.setCell ⟨w.heap.size + 1, 0, none⟩ (.pointer (some ⟨wr.heap.size, 0, none⟩))).setCell ⟨w.heap.size + 1 + 1, 0, none⟩ (.int .i64 0)).setCell ⟨w.heap.size + 1 + 1 + 1, 0, none⟩ (.int .i64 0) = w5 at *
    have o6 := o5.below (below_drewN (Below.refl w5.heap.size w5) 1) o5.lt
    have h6 := (ho.kept k5 (fun h => by omega)).below (below_drewN (Below.refl w5.heap.size w5) 1) (ho.kept k5 (fun h => by omega)).lt
    have hb6 := (hbo2.trans (k5.below hbo2.size (fun k hk => hk.1))).trans ((below_drewN (Below.refl w5.heap.size w5) 1).mono (by have := o5.lt; omega))
    have y6 := o6.r6.cell 0
    have y7 := o6.r7.cell 0
    have y8 := o6.r8.cell 0
    simp only [List.getElem?_toArray, List.getElem?_cons_zero] at y6 y7 y8
    have HR := Lib.hid (RunPost.low (A0 := A) (er := 0) h6 hb6)
    clear o4 ho hbo hbo2 o5 k5 o6 h6 hb6 HA3 HB2 HAD HBD K2 HA HB
    change w5.drew.cell? _ = _ at y6 y7 y8
    go_wp2
    exact bodyPost_ret (v := .tuple #[.pointer (some ⟨wr.heap.size, 0, none⟩), .int .i64 0, .int .i64 0]) (by simp [results, Tryz.results68, go_sem, y6, y7, y8]) rfl HR.out
  · go_enter Tryz.func68, Tryz.ntmps68
    go_wp2
    change Code.wp _ _ _ _ (runW w bt)
    generalize runW w bt = w0 at *
    have a3 := ha.t.cell 0
    simp only [List.getElem?_toArray, List.getElem?_cons_zero] at a3
    have HA := Lib.hid ha
    have HB := Lib.hid hb
    clear ha hb hT hc
    go_step3
    go_wp2_with (go_at_call 56; go_loud (refine K2.mono ?_; rintro e w1 ⟨rfl, hb1⟩; have ha1 := HA.out.below hb1 (by omega); have ha2 := ha1.alloc (.cells #[.int .i64 0] 3); have HA2 := Lib.hid ha2; have e8 := ha2.r8.cell 0; have f8 := ha2.r8.frozen 0; simp only [List.getElem?_toArray, List.getElem?_cons_zero] at e8; have hs1 := hb1.size; have HB2 := Lib.hid (((HB.out.trans (hb1.mono (by omega))).alloc (by omega) (.cells #[.int .i64 0] 3)).trans ((Kept.set1 (w1.alloc (.cells #[.int .i64 0] 3)) (w.heap.size + 1 + 1 + 1) 0 (.int .i64 2)).below (by simp; omega) (fun k hk => by omega))); have HA3 := Lib.hid (ha2.set8 2); have q8 := (ha2.set8 2).r8.cell 0; have v9 := ((Blk.new w1 3 #[.int .i64 0]).kept (Kept.set1 _ (w.heap.size + 1 + 1 + 1) 0 (.int .i64 2)) (by omega)).cell 0; simp only [List.getElem?_toArray, List.getElem?_cons_zero] at q8 v9; clear hb1 ha1 ha2))
    generalize (w1.alloc (.cells #[.int .i64 0] 3)).setCell ⟨w.heap.size + 1 + 1 + 1, 0, none⟩ (.int .i64 2) = wr at *
    have hd := below_drewN (Below.refl wr.heap.size wr) 1
    have had := HA3.out.below hd HA3.out.lt
    have HBD := Lib.hid (HB2.out.trans (hd.mono (by have := HA3.out.lt; omega)))
    change RunAt wr.drew _ _ _ _ _ at had
    have HAD := Lib.hid had
    have c6 := fun o => (HA3.out.alloc o).r6.cell 0
    have c7 := fun o => (HA3.out.alloc o).r7.cell 0
    have c8 := fun o => (HA3.out.alloc o).r8.cell 0
    have c9 := had.r8.cell 0
    have f6 := fun o => (HA3.out.alloc o).r6.frozen 0
    have f7 := fun o => (HA3.out.alloc o).r7.frozen 0
    have f8 := fun o => (HA3.out.alloc o).r8.frozen 0
    have hlt := had.lt
    simp only [List.getElem?_toArray, List.getElem?_cons_zero] at c6 c7 c8 c9
    clear had hd HA2 q8 v9 e8 hl hn
    go_region
    have o4 := HA3.out.alloc (.cells #[.pointer none, .slice none 0 0, .map none, .slice none 0 0, .slice none 0 0] 102)
    have ho := Blk.new wr 102 #[.pointer none, .slice none 0 0, .map none, .slice none 0 0, .slice none 0 0]
    have hbo := (Below.refl wr.heap.size wr).alloc (Nat.le_refl _) (.cells #[.pointer none, .slice none 0 0, .map none, .slice none 0 0, .slice none 0 0] 102)
    have hbo2 := HB2.out.trans (hbo.mono (by have := HA3.out.lt; omega))
    have hlt3 := HA3.out.lt
    generalize wr.alloc (.cells #[.pointer none, .slice none 0 0, .map none, .slice none 0 0, .slice none 0 0] 102) = w4 at *
    have o5 := ((o4.set6 (.pointer (some ⟨wr.heap.size, 0, none⟩))).set7 0).set8 2
    have k5 := ((Kept.set1 w4 (w.heap.size + 1) 0 (.pointer (some ⟨wr.heap.size, 0, none⟩))).mono (S' := fun b => w.heap.size ≤ b ∧ b < wr.heap.size) (fun b hb => by omega)).trans (((Kept.set1 (w4.setCell ⟨w.heap.size + 1, 0, none⟩ (.pointer (some ⟨wr.heap.size, 0, none⟩))) (w.heap.size + 1 + 1) 0 (.int .i64 0)).mono (S' := fun b => w.heap.size ≤ b ∧ b < wr.heap.size) (fun b hb => by omega)).trans ((Kept.set1 ((w4.setCell ⟨w.heap.size + 1, 0, none⟩ (.pointer (some ⟨wr.heap.size, 0, none⟩))).setCell ⟨w.heap.size + 1 + 1, 0, none⟩ (.int .i64 0)) (w.heap.size + 1 + 1 + 1) 0 (.int .i64 2)).mono (S' := fun b => w.heap.size ≤ b ∧ b < wr.heap.size) (fun b hb => by omega)))
    generalize ((w4.setCell ⟨w.heap.size + 1, 0, none⟩ (.pointer (some ⟨wr.heap.size, 0, none⟩))).setCell ⟨w.heap.size + 1 + 1, 0, none⟩ (.int .i64 0)).setCell ⟨w.heap.size + 1 + 1 + 1, 0, none⟩ (.int .i64 2) = w5 at *
    have o6 := o5.below (below_drewN (Below.refl w5.heap.size w5) 1) o5.lt
    have h6 := (ho.kept k5 (fun h => by omega)).below (below_drewN (Below.refl w5.heap.size w5) 1) (ho.kept k5 (fun h => by omega)).lt
    have hb6 := (hbo2.trans (k5.below hbo2.size (fun k hk => hk.1))).trans ((below_drewN (Below.refl w5.heap.size w5) 1).mono (by have := o5.lt; omega))
    have y6 := o6.r6.cell 0
    have y7 := o6.r7.cell 0
    have y8 := o6.r8.cell 0
    simp only [List.getElem?_toArray, List.getElem?_cons_zero] at y6 y7 y8
    have HR := Lib.hid (RunPost.low (A0 := A) (er := 2) h6 hb6)
    clear o4 ho hbo hbo2 o5 k5 o6 h6 hb6 HA3 HB2 HAD HBD K2 HA HB
    change w5.drew.cell? _ = _ at y6 y7 y8
    go_wp2
    exact bodyPost_ret (v := .tuple #[.pointer (some ⟨wr.heap.size, 0, none⟩), .int .i64 0, .int .i64 2]) (by simp [results, Tryz.results68, go_sem, y6, y7, y8]) rfl HR.out
end Go.Proofs.YtmbekchnfbmhbaaGreat

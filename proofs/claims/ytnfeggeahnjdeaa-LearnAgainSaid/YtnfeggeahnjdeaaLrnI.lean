/- run, where nothing is resolved. -/
import Derived.Test.YtnfeggeahnjdeaaLrnH
import Derived.WalkMore
namespace Go.Proofs.Ytnfeggeahnjdeaa
open Go.RowKit Go.Lib

/-- What run leaves. -/
def RunPost (w : World) (c : List Int) (b : Int) (ch : List Int) (er : Int) (e : Ending) (w' : World) : Prop :=
  ∃ bw CA cc vh, e = .returned (.tuple #[.pointer (some ⟨bw, 0, none⟩), .int .i64 b, .int .i64 er]) ∧ bw < w'.heap.size ∧ w'.cell? ⟨bw, 3, none⟩ = some (.slice CA c.length cc) ∧ Row .i64 w' CA c ∧ (CA = none → cc = 0) ∧ w'.cell? ⟨bw, 4, none⟩ = some vh ∧ IntsFrom w' w.heap.size vh ch ∧ Below w.heap.size w w'
theorem RunPost.low {w w' : World} {bw : Nat} {b0 b1 b2 : Value} {er : Int} (hb : Blk w' bw 55 #[b0, b1, b2, .slice none 0 0, .slice none 0 0]) (h : Below w.heap.size w w') :
    RunPost w [] 0 [] er (.returned (.tuple #[.pointer (some ⟨bw, 0, none⟩), .int .i64 0, .int .i64 er])) w' := by
  refine ⟨bw, none, 0, _, rfl, hb.lt, hb.cell 3, ⟨by simp, .inl rfl⟩, fun _ => rfl, hb.cell 4, ?_, h⟩
  exact World.ownsRow_nil _ _ _ _

/-- The world behind run's first lines. -/
def runW (w : World) (bt : Nat) : World := (((w.alloc (.cells #[.pointer (some ⟨bt, 0, none⟩)] 38)).alloc (.cells #[.pointer none] 50)).alloc (.cells #[.int .i64 0] 3)).alloc (.cells #[.int .i64 0] 26)
/-- What lies there: the box of t, and the cells of the three results. -/
structure RunAt (w : World) (B bt : Nat) (v6 : Value) (tb er : Int) : Prop where
  t : Blk w B 38 #[.pointer (some ⟨bt, 0, none⟩)]
  r6 : Blk w (B + 1) 50 #[v6]
  r7 : Blk w (B + 1 + 1) 3 #[.int .i64 tb]
  r8 : Blk w (B + 1 + 1 + 1) 26 #[.int .i64 er]
theorem RunAt.below {w w' : World} {B B' bt : Nat} {v6 : Value} {tb er : Int} (h : RunAt w B bt v6 tb er) (hb : Below B' w w') (hle : B + 4 ≤ B') : RunAt w' B bt v6 tb er :=
  ⟨h.t.below hb (by omega), h.r6.below hb (by omega), h.r7.below hb (by omega), h.r8.below hb (by omega)⟩
theorem runW_at (w : World) (bt : Nat) : RunAt (runW w bt) w.heap.size bt (.pointer none) 0 0 :=
  ⟨(((Blk.new w _ _).alloc _).alloc _).alloc _, ((Blk.new_at (by simp) _ _).alloc _).alloc _, (Blk.new_at (by simp) _ _).alloc _, Blk.new_at (by simp) _ _⟩
theorem runW_below (w : World) (bt : Nat) : Below w.heap.size w (runW w bt) :=
  ((((Below.refl _ w).alloc (Nat.le_refl _) _).alloc (by simp) _).alloc (by simp; omega) _).alloc (by simp; omega) _
theorem runW_size (w : World) (bt : Nat) : (runW w bt).heap.size = w.heap.size + 4 := by simp [runW]
theorem RunAt.lt {w : World} {B bt : Nat} {v6 : Value} {tb er : Int} (h : RunAt w B bt v6 tb er) : B + 4 ≤ w.heap.size := h.r8.lt
section
variable {w : World} {B bt : Nat} {v6 : Value} {tb er : Int}
theorem RunAt.alloc (h : RunAt w B bt v6 tb er) (o : Obj) : RunAt (w.alloc o) B bt v6 tb er :=
  ⟨h.t.alloc _, h.r6.alloc _, h.r7.alloc _, h.r8.alloc _⟩
theorem RunAt.set6 (h : RunAt w B bt v6 tb er) (v : Value) : RunAt (w.setCell ⟨B + 1, 0, none⟩ v) B bt v tb er := by
  have hk := Kept.set1 w (B + 1) 0 v
  exact ⟨h.t.kept hk (by omega), h.r6.set_ 0 v, h.r7.kept hk (by omega), h.r8.kept hk (by omega)⟩
theorem RunAt.set7 (h : RunAt w B bt v6 tb er) (x : Int) : RunAt (w.setCell ⟨B + 1 + 1, 0, none⟩ (.int .i64 x)) B bt v6 x er := by
  have hk := Kept.set1 w (B + 1 + 1) 0 (.int .i64 x)
  exact ⟨h.t.kept hk (by omega), h.r6.kept hk (by omega), h.r7.set_ 0 _, h.r8.kept hk (by omega)⟩
theorem RunAt.set8 (h : RunAt w B bt v6 tb er) (x : Int) : RunAt (w.setCell ⟨B + 1 + 1 + 1, 0, none⟩ (.int .i64 x)) B bt v6 tb x := by
  have hk := Kept.set1 w (B + 1 + 1 + 1) 0 (.int .i64 x)
  exact ⟨h.t.kept hk (by omega), h.r6.kept hk (by omega), h.r7.kept hk (by omega), h.r8.set_ 0 _⟩
end

set_option maxRecDepth 100000 in
set_option maxHeartbeats 4000000 in
theorem run_low {w : World} {BT bt ba : Nat} {M : Tr} {LA A : Option Addr} {nl cl cap : Nat} {c : List Int} (hT : TT w BT bt ba M) (hc : Row .i64 w A c) (hn : A = none → cap = 0) (er : Int)
    (hl : lvlV (levelM M c) = .tuple #[.int .i64 0, .int .i64 er]) (her : er = 0 ∨ er = 2) :
    Calls Try.prog 21 #[.pointer (some ⟨bt, 0, none⟩), .slice LA nl cl, .slice A c.length cap] w (RunPost w [] 0 [] er) := by
  have K2 := level_fn cap (hT.below (runW_below w bt)) (hc.below (runW_below w bt)) hn
  rw [hl] at K2
  have ha := runW_at w bt
  have hb := runW_below w bt
  have hsz := runW_size w bt
  rcases her with rfl | rfl
  · go_enter Try.func21, Try.ntmps21
    go_wp2
    change Code.wp _ _ _ _ (runW w bt)
    generalize runW w bt = w0 at *
    have a3 := ha.t.cell 0
    simp only [List.getElem?_toArray, List.getElem?_cons_zero] at a3
    have HA := Lib.hid ha
    have HB := Lib.hid hb
    clear ha hb hT hc
    go_step3
    go_wp2_with (go_at_call 7; go_loud (refine K2.mono ?_; rintro e w1 ⟨rfl, hb1⟩; have ha1 := HA.out.below hb1 (by omega); have ha2 := ha1.alloc (.cells #[.int .i64 0] 3); have HA2 := Lib.hid ha2; have e8 := ha2.r8.cell 0; have f8 := ha2.r8.frozen 0; simp only [List.getElem?_toArray, List.getElem?_cons_zero] at e8; have hs1 := hb1.size; have HB2 := Lib.hid (((HB.out.trans (hb1.mono (by omega))).alloc (by omega) (.cells #[.int .i64 0] 3)).trans ((Kept.set1 (w1.alloc (.cells #[.int .i64 0] 3)) (w.heap.size + 1 + 1 + 1) 0 (.int .i64 0)).below (by simp; omega) (fun k hk => by omega))); have HA3 := Lib.hid (ha2.set8 0); have q8 := (ha2.set8 0).r8.cell 0; have v9 := ((Blk.new w1 3 #[.int .i64 0]).kept (Kept.set1 _ (w.heap.size + 1 + 1 + 1) 0 (.int .i64 0)) (by omega)).cell 0; simp only [List.getElem?_toArray, List.getElem?_cons_zero] at q8 v9; clear hb1 ha1 ha2))
    generalize (w1.alloc (.cells #[.int .i64 0] 3)).setCell ⟨w.heap.size + 1 + 1 + 1, 0, none⟩ (.int .i64 0) = wr at *
    have hd := below_drewN (Below.refl wr.heap.size wr) 1
    have had := HA3.out.below hd HA3.out.lt
    have HBD := Lib.hid (HB2.out.trans (hd.mono (by have := HA3.out.lt; omega)))
    change RunAt wr.drew _ _ _ _ _ at had
    have HAD := Lib.hid had
    have c6 := fun o => (HA3.out.alloc o).r6.cell 0
    have c7 := fun o => (HA3.out.alloc o).r7.cell 0
    have c8 := fun o => (HA3.out.alloc o).r8.cell 0
    have c9 := had.r8.cell 0
    have f6 := fun o => (HA3.out.alloc o).r6.frozen 0
    have f7 := fun o => (HA3.out.alloc o).r7.frozen 0
    have f8 := fun o => (HA3.out.alloc o).r8.frozen 0
    have hlt := had.lt
    simp only [List.getElem?_toArray, List.getElem?_cons_zero] at c6 c7 c8 c9
    clear had hd HA2 q8 v9 e8 hl hn
    go_region
    have o4 := HA3.out.alloc (.cells #[.pointer none, .slice none 0 0, .map none, .slice none 0 0, .slice none 0 0] 55)
    have ho := Blk.new wr 55 #[.pointer none, .slice none 0 0, .map none, .slice none 0 0, .slice none 0 0]
    have hbo := (Below.refl wr.heap.size wr).alloc (Nat.le_refl _) (.cells #[.pointer none, .slice none 0 0, .map none, .slice none 0 0, .slice none 0 0] 55)
    have hbo2 := HB2.out.trans (hbo.mono (by have := HA3.out.lt; omega))
    have hlt3 := HA3.out.lt
    generalize wr.alloc (.cells #[.pointer none, .slice none 0 0, .map none, .slice none 0 0, .slice none 0 0] 55) = w4 at *
    have o5 := ((o4.set6 (.pointer (some ⟨wr.heap.size, 0, none⟩))).set7 0).set8 0
    have k5 := ((Kept.set1 w4 (w.heap.size + 1) 0 (.pointer (some ⟨wr.heap.size, 0, none⟩))).mono (S' := fun b => w.heap.size ≤ b ∧ b < wr.heap.size) (fun b hb => by omega)).trans (((Kept.set1 (w4.setCell ⟨w.heap.size + 1, 0, none⟩ (.pointer (some ⟨wr.heap.size, 0, none⟩))) (w.heap.size + 1 + 1) 0 (.int .i64 0)).mono (S' := fun b => w.heap.size ≤ b ∧ b < wr.heap.size) (fun b hb => by omega)).trans ((Kept.set1 ((w4.setCell ⟨w.heap.size + 1, 0, none⟩ (.pointer (some ⟨wr.heap.size, 0, none⟩))).setCell ⟨w.heap.size + 1 + 1, 0, none⟩ (.int .i64 0)) (w.heap.size + 1 + 1 + 1) 0 (.int .i64 0)).mono (S' := fun b => w.heap.size ≤ b ∧ b < wr.heap.size) (fun b hb => by omega)))
    generalize ((w4.setCell ⟨w.heap.size + 1, 0, none⟩ (.pointer (some ⟨wr.heap.size, 0, none⟩))).setCell ⟨w.heap.size + 1 + 1, 0, none⟩ (.int .i64 0)).setCell ⟨w.heap.size + 1 + 1 + 1, 0, none⟩ (.int .i64 0) = w5 at *
    have o6 := o5.below (below_drewN (Below.refl w5.heap.size w5) 1) o5.lt
    have h6 := (ho.kept k5 (fun h => by omega)).below (below_drewN (Below.refl w5.heap.size w5) 1) (ho.kept k5 (fun h => by omega)).lt
    have hb6 := (hbo2.trans (k5.below hbo2.size (fun k hk => hk.1))).trans ((below_drewN (Below.refl w5.heap.size w5) 1).mono (by have := o5.lt; omega))
    have y6 := o6.r6.cell 0
    have y7 := o6.r7.cell 0
    have y8 := o6.r8.cell 0
    simp only [List.getElem?_toArray, List.getElem?_cons_zero] at y6 y7 y8
    have HR := Lib.hid (RunPost.low (er := 0) h6 hb6)
    clear o4 ho hbo hbo2 o5 k5 o6 h6 hb6 HA3 HB2 HAD HBD K2 HA HB
    change w5.drew.cell? _ = _ at y6 y7 y8
    go_wp2
    exact bodyPost_ret (v := .tuple #[.pointer (some ⟨wr.heap.size, 0, none⟩), .int .i64 0, .int .i64 0]) (by simp [results, Try.results21, go_sem, y6, y7, y8]) rfl HR.out
  · go_enter Try.func21, Try.ntmps21
    go_wp2
    change Code.wp _ _ _ _ (runW w bt)
    generalize runW w bt = w0 at *
    have a3 := ha.t.cell 0
    simp only [List.getElem?_toArray, List.getElem?_cons_zero] at a3
    have HA := Lib.hid ha
    have HB := Lib.hid hb
    clear ha hb hT hc
    go_step3
    go_wp2_with (go_at_call 7; go_loud (refine K2.mono ?_; rintro e w1 ⟨rfl, hb1⟩; have ha1 := HA.out.below hb1 (by omega); have ha2 := ha1.alloc (.cells #[.int .i64 0] 3); have HA2 := Lib.hid ha2; have e8 := ha2.r8.cell 0; have f8 := ha2.r8.frozen 0; simp only [List.getElem?_toArray, List.getElem?_cons_zero] at e8; have hs1 := hb1.size; have HB2 := Lib.hid (((HB.out.trans (hb1.mono (by omega))).alloc (by omega) (.cells #[.int .i64 0] 3)).trans ((Kept.set1 (w1.alloc (.cells #[.int .i64 0] 3)) (w.heap.size + 1 + 1 + 1) 0 (.int .i64 2)).below (by simp; omega) (fun k hk => by omega))); have HA3 := Lib.hid (ha2.set8 2); have q8 := (ha2.set8 2).r8.cell 0; have v9 := ((Blk.new w1 3 #[.int .i64 0]).kept (Kept.set1 _ (w.heap.size + 1 + 1 + 1) 0 (.int .i64 2)) (by omega)).cell 0; simp only [List.getElem?_toArray, List.getElem?_cons_zero] at q8 v9; clear hb1 ha1 ha2))
    generalize (w1.alloc (.cells #[.int .i64 0] 3)).setCell ⟨w.heap.size + 1 + 1 + 1, 0, none⟩ (.int .i64 2) = wr at *
    have hd := below_drewN (Below.refl wr.heap.size wr) 1
    have had := HA3.out.below hd HA3.out.lt
    have HBD := Lib.hid (HB2.out.trans (hd.mono (by have := HA3.out.lt; omega)))
    change RunAt wr.drew _ _ _ _ _ at had
    have HAD := Lib.hid had
    have c6 := fun o => (HA3.out.alloc o).r6.cell 0
    have c7 := fun o => (HA3.out.alloc o).r7.cell 0
    have c8 := fun o => (HA3.out.alloc o).r8.cell 0
    have c9 := had.r8.cell 0
    have f6 := fun o => (HA3.out.alloc o).r6.frozen 0
    have f7 := fun o => (HA3.out.alloc o).r7.frozen 0
    have f8 := fun o => (HA3.out.alloc o).r8.frozen 0
    have hlt := had.lt
    simp only [List.getElem?_toArray, List.getElem?_cons_zero] at c6 c7 c8 c9
    clear had hd HA2 q8 v9 e8 hl hn
    go_region
    have o4 := HA3.out.alloc (.cells #[.pointer none, .slice none 0 0, .map none, .slice none 0 0, .slice none 0 0] 55)
    have ho := Blk.new wr 55 #[.pointer none, .slice none 0 0, .map none, .slice none 0 0, .slice none 0 0]
    have hbo := (Below.refl wr.heap.size wr).alloc (Nat.le_refl _) (.cells #[.pointer none, .slice none 0 0, .map none, .slice none 0 0, .slice none 0 0] 55)
    have hbo2 := HB2.out.trans (hbo.mono (by have := HA3.out.lt; omega))
    have hlt3 := HA3.out.lt
    generalize wr.alloc (.cells #[.pointer none, .slice none 0 0, .map none, .slice none 0 0, .slice none 0 0] 55) = w4 at *
    have o5 := ((o4.set6 (.pointer (some ⟨wr.heap.size, 0, none⟩))).set7 0).set8 2
    have k5 := ((Kept.set1 w4 (w.heap.size + 1) 0 (.pointer (some ⟨wr.heap.size, 0, none⟩))).mono (S' := fun b => w.heap.size ≤ b ∧ b < wr.heap.size) (fun b hb => by omega)).trans (((Kept.set1 (w4.setCell ⟨w.heap.size + 1, 0, none⟩ (.pointer (some ⟨wr.heap.size, 0, none⟩))) (w.heap.size + 1 + 1) 0 (.int .i64 0)).mono (S' := fun b => w.heap.size ≤ b ∧ b < wr.heap.size) (fun b hb => by omega)).trans ((Kept.set1 ((w4.setCell ⟨w.heap.size + 1, 0, none⟩ (.pointer (some ⟨wr.heap.size, 0, none⟩))).setCell ⟨w.heap.size + 1 + 1, 0, none⟩ (.int .i64 0)) (w.heap.size + 1 + 1 + 1) 0 (.int .i64 2)).mono (S' := fun b => w.heap.size ≤ b ∧ b < wr.heap.size) (fun b hb => by omega)))
    generalize ((w4.setCell ⟨w.heap.size + 1, 0, none⟩ (.pointer (some ⟨wr.heap.size, 0, none⟩))).setCell ⟨w.heap.size + 1 + 1, 0, none⟩ (.int .i64 0)).setCell ⟨w.heap.size + 1 + 1 + 1, 0, none⟩ (.int .i64 2) = w5 at *
    have o6 := o5.below (below_drewN (Below.refl w5.heap.size w5) 1) o5.lt
    have h6 := (ho.kept k5 (fun h => by omega)).below (below_drewN (Below.refl w5.heap.size w5) 1) (ho.kept k5 (fun h => by omega)).lt
    have hb6 := (hbo2.trans (k5.below hbo2.size (fun k hk => hk.1))).trans ((below_drewN (Below.refl w5.heap.size w5) 1).mono (by have := o5.lt; omega))
    have y6 := o6.r6.cell 0
    have y7 := o6.r7.cell 0
    have y8 := o6.r8.cell 0
    simp only [List.getElem?_toArray, List.getElem?_cons_zero] at y6 y7 y8
    have HR := Lib.hid (RunPost.low (er := 2) h6 hb6)
    clear o4 ho hbo hbo2 o5 k5 o6 h6 hb6 HA3 HB2 HAD HBD K2 HA HB
    change w5.drew.cell? _ = _ at y6 y7 y8
    go_wp2
    exact bodyPost_ret (v := .tuple #[.pointer (some ⟨wr.heap.size, 0, none⟩), .int .i64 0, .int .i64 2]) (by simp [results, Try.results21, go_sem, y6, y7, y8]) rfl HR.out
end Go.Proofs.Ytnfeggeahnjdeaa

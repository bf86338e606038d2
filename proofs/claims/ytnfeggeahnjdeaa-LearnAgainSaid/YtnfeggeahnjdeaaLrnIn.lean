/- run, without a trail. -/
import Derived.Test.YtnfeggeahnjdeaaLrnI
namespace Go.Proofs.Ytnfeggeahnjdeaa
open Go.RowKit Go.Lib

/-- The world behind run's first lines. -/
def runWN (w : World)  : World := (((w.alloc (.cells #[.pointer none] 38)).alloc (.cells #[.pointer none] 50)).alloc (.cells #[.int .i64 0] 3)).alloc (.cells #[.int .i64 0] 26)
/-- What lies there: the box of t, and the cells of the three results. -/
structure RunAtN (w : World) (B : Nat) (v6 : Value) (tb er : Int) : Prop where
  t : Blk w B 38 #[.pointer none]
  r6 : Blk w (B + 1) 50 #[v6]
  r7 : Blk w (B + 1 + 1) 3 #[.int .i64 tb]
  r8 : Blk w (B + 1 + 1 + 1) 26 #[.int .i64 er]
theorem RunAtN.below {w w' : World} {B B' : Nat} {v6 : Value} {tb er : Int} (h : RunAtN w B v6 tb er) (hb : Below B' w w') (hle : B + 4 ≤ B') : RunAtN w' B v6 tb er :=
  ⟨h.t.below hb (by omega), h.r6.below hb (by omega), h.r7.below hb (by omega), h.r8.below hb (by omega)⟩
theorem runWN_at (w : World)  : RunAtN (runWN w) w.heap.size (.pointer none) 0 0 :=
  ⟨(((Blk.new w _ _).alloc _).alloc _).alloc _, ((Blk.new_at (by simp) _ _).alloc _).alloc _, (Blk.new_at (by simp) _ _).alloc _, Blk.new_at (by simp) _ _⟩
theorem runWN_below (w : World)  : Below w.heap.size w (runWN w) :=
  ((((Below.refl _ w).alloc (Nat.le_refl _) _).alloc (by simp) _).alloc (by simp; omega) _).alloc (by simp; omega) _
theorem runWN_size (w : World)  : (runWN w).heap.size = w.heap.size + 4 := by simp [runWN]
theorem RunAtN.lt {w : World} {B : Nat} {v6 : Value} {tb er : Int} (h : RunAtN w B v6 tb er) : B + 4 ≤ w.heap.size := h.r8.lt
section
variable {w : World} {B : Nat} {v6 : Value} {tb er : Int}
theorem RunAtN.alloc (h : RunAtN w B v6 tb er) (o : Obj) : RunAtN (w.alloc o) B v6 tb er :=
  ⟨h.t.alloc _, h.r6.alloc _, h.r7.alloc _, h.r8.alloc _⟩
theorem RunAtN.set6 (h : RunAtN w B v6 tb er) (v : Value) : RunAtN (w.setCell ⟨B + 1, 0, none⟩ v) B v tb er := by
  have hk := Kept.set1 w (B + 1) 0 v
  exact ⟨h.t.kept hk (by omega), h.r6.set_ 0 v, h.r7.kept hk (by omega), h.r8.kept hk (by omega)⟩
theorem RunAtN.set7 (h : RunAtN w B v6 tb er) (x : Int) : RunAtN (w.setCell ⟨B + 1 + 1, 0, none⟩ (.int .i64 x)) B v6 x er := by
  have hk := Kept.set1 w (B + 1 + 1) 0 (.int .i64 x)
  exact ⟨h.t.kept hk (by omega), h.r6.kept hk (by omega), h.r7.set_ 0 _, h.r8.kept hk (by omega)⟩
theorem RunAtN.set8 (h : RunAtN w B v6 tb er) (x : Int) : RunAtN (w.setCell ⟨B + 1 + 1 + 1, 0, none⟩ (.int .i64 x)) B v6 tb x := by
  have hk := Kept.set1 w (B + 1 + 1 + 1) 0 (.int .i64 x)
  exact ⟨h.t.kept hk (by omega), h.r6.kept hk (by omega), h.r7.kept hk (by omega), h.r8.set_ 0 _⟩
end



set_option maxRecDepth 100000 in
set_option maxHeartbeats 4000000 in
theorem run_nil {w : World} {LA A : Option Addr} {nl cl n cap : Nat} :
    Calls Try.prog 21 #[.pointer none, .slice LA nl cl, .slice A n cap] w (RunPost w [] 0 [] 3) := by
  have K2 : Calls Try.prog 7 #[.pointer none, .slice A n cap] (runWN w) fun e w' => e = .returned (.tuple #[.int .i64 0, .int .i64 3]) ∧ Below (runWN w).heap.size (runWN w) w' := (level_nil_ok A n cap (runWN w)).mono fun e w' ⟨h1, h2⟩ => ⟨h1, by rw [← h2]; exact Below.refl _ _⟩
  have ha := runWN_at w
  have hb := runWN_below w
  have hsz := runWN_size w
  go_enter Try.func21, Try.ntmps21
  go_wp2
  change Code.wp _ _ _ _ (runWN w)
  generalize runWN w = w0 at *
  have a3 := ha.t.cell 0
  simp only [List.getElem?_toArray, List.getElem?_cons_zero] at a3
  have HA := Lib.hid ha
  have HB := Lib.hid hb
  clear ha hb
  go_step3
  go_wp2_with (go_at_call 7; go_loud (refine K2.mono ?_; rintro e w1 ⟨rfl, hb1⟩; have ha1 := HA.out.below hb1 (by omega); have ha2 := ha1.alloc (.cells #[.int .i64 0] 3); have HA2 := Lib.hid ha2; have e8 := ha2.r8.cell 0; have f8 := ha2.r8.frozen 0; simp only [List.getElem?_toArray, List.getElem?_cons_zero] at e8; have hs1 := hb1.size; have HB2 := Lib.hid (((HB.out.trans (hb1.mono (by omega))).alloc (by omega) (.cells #[.int .i64 0] 3)).trans ((Kept.set1 (w1.alloc (.cells #[.int .i64 0] 3)) (w.heap.size + 1 + 1 + 1) 0 (.int .i64 3)).below (by simp; omega) (fun k hk => by omega))); have HA3 := Lib.hid (ha2.set8 3); have q8 := (ha2.set8 3).r8.cell 0; have v9 := ((Blk.new w1 3 #[.int .i64 0]).kept (Kept.set1 _ (w.heap.size + 1 + 1 + 1) 0 (.int .i64 3)) (by omega)).cell 0; simp only [List.getElem?_toArray, List.getElem?_cons_zero] at q8 v9; clear hb1 ha1 ha2))
  generalize (w1.alloc (.cells #[.int .i64 0] 3)).setCell ⟨w.heap.size + 1 + 1 + 1, 0, none⟩ (.int .i64 3) = wr at *
  have hd := below_drewN (Below.refl wr.heap.size wr) 1
  have had := HA3.out.below hd HA3.out.lt
  have HBD := Lib.hid (HB2.out.trans (hd.mono (by have := HA3.out.lt; omega)))
  change RunAtN wr.drew _ _ _ _ at had
  have HAD := Lib.hid had
  have c6 := fun o => (HA3.out.alloc o).r6.cell 0
  have c7 := fun o => (HA3.out.alloc o).r7.cell 0
  have c8 := fun o => (HA3.out.alloc o).r8.cell 0
  have c9 := had.r8.cell 0
  have f6 := fun o => (HA3.out.alloc o).r6.frozen 0
  have f7 := fun o => (HA3.out.alloc o).r7.frozen 0
  have f8 := fun o => (HA3.out.alloc o).r8.frozen 0
  have hlt := had.lt
  simp only [List.getElem?_toArray, List.getElem?_cons_zero] at c6 c7 c8 c9
  clear had hd HA2 q8 v9 e8
  go_region
  have o4 := HA3.out.alloc (.cells #[.pointer none, .slice none 0 0, .map none, .slice none 0 0, .slice none 0 0] 55)
  have ho := Blk.new wr 55 #[.pointer none, .slice none 0 0, .map none, .slice none 0 0, .slice none 0 0]
  have hbo := (Below.refl wr.heap.size wr).alloc (Nat.le_refl _) (.cells #[.pointer none, .slice none 0 0, .map none, .slice none 0 0, .slice none 0 0] 55)
  have hbo2 := HB2.out.trans (hbo.mono (by have := HA3.out.lt; omega))
  have hlt3 := HA3.out.lt
  generalize wr.alloc (.cells #[.pointer none, .slice none 0 0, .map none, .slice none 0 0, .slice none 0 0] 55) = w4 at *
  have o5 := ((o4.set6 (.pointer (some ⟨wr.heap.size, 0, none⟩))).set7 0).set8 3
  have k5 := ((Kept.set1 w4 (w.heap.size + 1) 0 (.pointer (some ⟨wr.heap.size, 0, none⟩))).mono (S' := fun b => w.heap.size ≤ b ∧ b < wr.heap.size) (fun b hb => by omega)).trans (((Kept.set1 (w4.setCell ⟨w.heap.size + 1, 0, none⟩ (.pointer (some ⟨wr.heap.size, 0, none⟩))) (w.heap.size + 1 + 1) 0 (.int .i64 0)).mono (S' := fun b => w.heap.size ≤ b ∧ b < wr.heap.size) (fun b hb => by omega)).trans ((Kept.set1 ((w4.setCell ⟨w.heap.size + 1, 0, none⟩ (.pointer (some ⟨wr.heap.size, 0, none⟩))).setCell ⟨w.heap.size + 1 + 1, 0, none⟩ (.int .i64 0)) (w.heap.size + 1 + 1 + 1) 0 (.int .i64 3)).mono (S' := fun b => w.heap.size ≤ b ∧ b < wr.heap.size) (fun b hb => by omega)))
  generalize ((w4.setCell ⟨w.heap.size + 1, 0, none⟩ (.pointer (some ⟨wr.heap.size, 0, none⟩))).setCell ⟨w.heap.size + 1 + 1, 0, none⟩ (.int .i64 0)).setCell ⟨w.heap.size + 1 + 1 + 1, 0, none⟩ (.int .i64 3) = w5 at *
  have o6 := o5.below (below_drewN (Below.refl w5.heap.size w5) 1) o5.lt
  have h6 := (ho.kept k5 (fun h => by omega)).below (below_drewN (Below.refl w5.heap.size w5) 1) (ho.kept k5 (fun h => by omega)).lt
  have hb6 := (hbo2.trans (k5.below hbo2.size (fun k hk => hk.1))).trans ((below_drewN (Below.refl w5.heap.size w5) 1).mono (by have := o5.lt; omega))
  have y6 := o6.r6.cell 0
  have y7 := o6.r7.cell 0
  have y8 := o6.r8.cell 0
  simp only [List.getElem?_toArray, List.getElem?_cons_zero] at y6 y7 y8
  have HR := Lib.hid (RunPost.low (er := 3) h6 hb6)
  clear o4 ho hbo hbo2 o5 k5 o6 h6 hb6 HA3 HB2 HAD HBD K2 HA HB
  change w5.drew.cell? _ = _ at y6 y7 y8
  go_wp2
  exact bodyPost_ret (v := .tuple #[.pointer (some ⟨wr.heap.size, 0, none⟩), .int .i64 0, .int .i64 3]) (by simp [results, Try.results21, go_sem, y6, y7, y8]) rfl HR.out
end Go.Proofs.Ytnfeggeahnjdeaa

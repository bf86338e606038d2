/- A node's value of its arguments' values, kind by kind. -/
import Derived.Test.YtkapbdjobfbhhaaGreatVxR
namespace Go.Proofs.YtkapbdjobfbhhaaGreat
open Go.RowKit Go.Lib
def bitV (b : Bool) : Int := if b then 1 else 0
theorem bitv_ok (b : Bool) (w : World) : Calls Tryz.prog 36 #[.bool b] w fun e w' => e = .returned (.int .i64 (bitV b)) ∧ w = w' := bit_ok b w
def VPost (x : Int) (ok : Bool) (w : World) (e : Ending) (w' : World) : Prop := e = .returned (.tuple #[.int .i64 x, .bool ok]) ∧ Below w.heap.size w w'
set_option maxRecDepth 100000 in
set_option maxHeartbeats 4000000 in
theorem value_0 {w : World} (g : SigV) (wl : WldV) {n : Nd} {A : Option Addr} (c : Nat) (hop : n.op = 0) :
    Calls Tryz.prog 20 #[.agg g.cells, .agg wl.cells, nodeVal n, .slice A 0 c] w (VPost (1) true w) := by
  obtain ⟨w0, hw0⟩ : ∃ w0, ((w.alloc (.cells g.cells 26)).alloc (.cells wl.cells 30)).alloc (.cells (nodeCells n).toArray 48) = w0 := ⟨_, rfl⟩
  have HB0 : Hid (Below w.heap.size w w0) := Lib.hid (by rw [← hw0]; exact (((Below.refl _ w).alloc (Nat.le_refl _) _).alloc (by simp) _).alloc (by simp; omega) _)
  have HN0 : Hid (Blk w0 (w.heap.size + 1 + 1) 48 (nodeCells n).toArray) := Lib.hid (by rw [← hw0]; exact Blk.new_at (by simp) _ _)
  have HGC : Hid (g.cells = #[.slice g.A0 g.sorts.length g.c0, .slice g.A1 g.funs.length g.c1, .slice g.A2 g.macs.length g.c2]) := Lib.hid rfl
  have HVC : Hid (wl.cells = #[.slice wl.A0 wl.sizes.length wl.c0, .slice wl.A1 wl.funs.length wl.c1]) := Lib.hid rfl
  obtain ⟨op, len, q0, q1, q2, srt, fn, num⟩ := n
  simp only at hop
  subst hop
  have n0 : w0.cell? ⟨w.heap.size + 1 + 1, 0, none⟩ = some (.int .i8 0) := HN0.out.cell 0
  have n7 : w0.cell? ⟨w.heap.size + 1 + 1, 7, none⟩ = some (.int .i64 num) := HN0.out.cell 7
  rw [HGC.out, HVC.out] at hw0 ⊢
  unfold nodeVal
  unfold nodeCells at *
  have HW0 := Lib.hid hw0
  clear hw0 HN0
  go_enter Tryz.func20, Tryz.ntmps20
  go_upto_region 1 with fail
  rw [HW0.out]
  clear HW0
  clear n7
  go_wp2
  refine bodyPost_ret (v := .tuple #[.int .i64 (1), .bool true]) (by simp [results, Tryz.results20, go_sem]) rfl ⟨rfl, HB0.out⟩
set_option maxRecDepth 100000 in
set_option maxHeartbeats 4000000 in
theorem value_10 {w : World} (g : SigV) (wl : WldV) {n : Nd} {A : Option Addr} (c : Nat) (hop : n.op = 10) :
    Calls Tryz.prog 20 #[.agg g.cells, .agg wl.cells, nodeVal n, .slice A 0 c] w (VPost (n.num) true w) := by
  obtain ⟨w0, hw0⟩ : ∃ w0, ((w.alloc (.cells g.cells 26)).alloc (.cells wl.cells 30)).alloc (.cells (nodeCells n).toArray 48) = w0 := ⟨_, rfl⟩
  have HB0 : Hid (Below w.heap.size w w0) := Lib.hid (by rw [← hw0]; exact (((Below.refl _ w).alloc (Nat.le_refl _) _).alloc (by simp) _).alloc (by simp; omega) _)
  have HN0 : Hid (Blk w0 (w.heap.size + 1 + 1) 48 (nodeCells n).toArray) := Lib.hid (by rw [← hw0]; exact Blk.new_at (by simp) _ _)
  have HGC : Hid (g.cells = #[.slice g.A0 g.sorts.length g.c0, .slice g.A1 g.funs.length g.c1, .slice g.A2 g.macs.length g.c2]) := Lib.hid rfl
  have HVC : Hid (wl.cells = #[.slice wl.A0 wl.sizes.length wl.c0, .slice wl.A1 wl.funs.length wl.c1]) := Lib.hid rfl
  obtain ⟨op, len, q0, q1, q2, srt, fn, num⟩ := n
  simp only at hop
  subst hop
  have n0 : w0.cell? ⟨w.heap.size + 1 + 1, 0, none⟩ = some (.int .i8 10) := HN0.out.cell 0
  have n7 : w0.cell? ⟨w.heap.size + 1 + 1, 7, none⟩ = some (.int .i64 num) := HN0.out.cell 7
  rw [HGC.out, HVC.out] at hw0 ⊢
  unfold nodeVal
  unfold nodeCells at *
  have HW0 := Lib.hid hw0
  clear hw0 HN0
  go_enter Tryz.func20, Tryz.ntmps20
  go_upto_region 1 with fail
  rw [HW0.out]
  clear HW0
  go_wp2
  refine bodyPost_ret (v := .tuple #[.int .i64 (num), .bool true]) (by simp [results, Tryz.results20, go_sem]) rfl ⟨rfl, HB0.out⟩
set_option maxRecDepth 100000 in
set_option maxHeartbeats 4000000 in
theorem value_1 {w : World} (g : SigV) (wl : WldV) {n : Nd} {A : Option Addr} {a : Int} (c : Nat) (hop : n.op = 1) (hL : Row w A [a]) :
    Calls Tryz.prog 20 #[.agg g.cells, .agg wl.cells, nodeVal n, .slice A 1 c] w (VPost (wrap64 (1 - a)) true w) := by
  obtain ⟨w0, hw0⟩ : ∃ w0, ((w.alloc (.cells g.cells 26)).alloc (.cells wl.cells 30)).alloc (.cells (nodeCells n).toArray 48) = w0 := ⟨_, rfl⟩
  have HB0 : Hid (Below w.heap.size w w0) := Lib.hid (by rw [← hw0]; exact (((Below.refl _ w).alloc (Nat.le_refl _) _).alloc (by simp) _).alloc (by simp; omega) _)
  have HN0 : Hid (Blk w0 (w.heap.size + 1 + 1) 48 (nodeCells n).toArray) := Lib.hid (by rw [← hw0]; exact Blk.new_at (by simp) _ _)
  have HGC : Hid (g.cells = #[.slice g.A0 g.sorts.length g.c0, .slice g.A1 g.funs.length g.c1, .slice g.A2 g.macs.length g.c2]) := Lib.hid rfl
  have HVC : Hid (wl.cells = #[.slice wl.A0 wl.sizes.length wl.c0, .slice wl.A1 wl.funs.length wl.c1]) := Lib.hid rfl
  obtain ⟨op, len, q0, q1, q2, srt, fn, num⟩ := n
  simp only at hop
  subst hop
  have n0 : w0.cell? ⟨w.heap.size + 1 + 1, 0, none⟩ = some (.int .i8 1) := HN0.out.cell 0
  have n7 : w0.cell? ⟨w.heap.size + 1 + 1, 7, none⟩ = some (.int .i64 num) := HN0.out.cell 7
  rw [HGC.out, HVC.out] at hw0 ⊢
  unfold nodeVal
  unfold nodeCells at *
  have HW0 := Lib.hid hw0
  obtain ⟨b, off, rfl, y0⟩ := (hL.below HB0.out).c1
  have HFx : Hid (∀ W, Below w0.heap.size w0 W → (W.cell? ⟨b, off, none⟩ = some (.int .i64 a)) ∧ W.cell? ⟨w.heap.size + 1 + 1, 7, none⟩ = some (.int .i64 num)) := Lib.hid (fun W hW => by
    have hb := World.block_lt_of_cell? _ _ y0
    exact ⟨(hW.cell (p := ⟨b, off, none⟩) hb).trans y0, (HN0.out.below hW HN0.out.lt).cell 7⟩)
  clear hL
  clear hw0 HN0
  go_enter Tryz.func20, Tryz.ntmps20
  go_upto_region 1 with fail
  rw [HW0.out]
  clear HW0
  go_wp2
  refine bodyPost_ret (v := .tuple #[.int .i64 (wrap64 (1 - a)), .bool true]) (by simp [results, Tryz.results20, go_sem]) rfl ⟨rfl, HB0.out⟩
set_option maxRecDepth 100000 in
set_option maxHeartbeats 4000000 in
theorem value_2 {w : World} (g : SigV) (wl : WldV) {n : Nd} {A : Option Addr} {a : Int} {d : Int} (c : Nat) (hop : n.op = 2) (hL : Row w A [a, d]) :
    Calls Tryz.prog 20 #[.agg g.cells, .agg wl.cells, nodeVal n, .slice A 2 c] w (VPost (IntKind.i64.wrap (a * d)) true w) := by
  obtain ⟨w0, hw0⟩ : ∃ w0, ((w.alloc (.cells g.cells 26)).alloc (.cells wl.cells 30)).alloc (.cells (nodeCells n).toArray 48) = w0 := ⟨_, rfl⟩
  have HB0 : Hid (Below w.heap.size w w0) := Lib.hid (by rw [← hw0]; exact (((Below.refl _ w).alloc (Nat.le_refl _) _).alloc (by simp) _).alloc (by simp; omega) _)
  have HN0 : Hid (Blk w0 (w.heap.size + 1 + 1) 48 (nodeCells n).toArray) := Lib.hid (by rw [← hw0]; exact Blk.new_at (by simp) _ _)
  have HGC : Hid (g.cells = #[.slice g.A0 g.sorts.length g.c0, .slice g.A1 g.funs.length g.c1, .slice g.A2 g.macs.length g.c2]) := Lib.hid rfl
  have HVC : Hid (wl.cells = #[.slice wl.A0 wl.sizes.length wl.c0, .slice wl.A1 wl.funs.length wl.c1]) := Lib.hid rfl
  obtain ⟨op, len, q0, q1, q2, srt, fn, num⟩ := n
  simp only at hop
  subst hop
  have n0 : w0.cell? ⟨w.heap.size + 1 + 1, 0, none⟩ = some (.int .i8 2) := HN0.out.cell 0
  have n7 : w0.cell? ⟨w.heap.size + 1 + 1, 7, none⟩ = some (.int .i64 num) := HN0.out.cell 7
  rw [HGC.out, HVC.out] at hw0 ⊢
  unfold nodeVal
  unfold nodeCells at *
  have HW0 := Lib.hid hw0
  obtain ⟨b, off, rfl, y0, y1⟩ := (hL.below HB0.out).c2
  have HFx : Hid (∀ W, Below w0.heap.size w0 W → (W.cell? ⟨b, off, none⟩ = some (.int .i64 a) ∧ W.cell? ⟨b, off + 1, none⟩ = some (.int .i64 d)) ∧ W.cell? ⟨w.heap.size + 1 + 1, 7, none⟩ = some (.int .i64 num)) := Lib.hid (fun W hW => by
    have hb := World.block_lt_of_cell? _ _ y0
    exact ⟨⟨(hW.cell (p := ⟨b, off, none⟩) hb).trans y0, (hW.cell (p := ⟨b, off + 1, none⟩) hb).trans y1⟩, (HN0.out.below hW HN0.out.lt).cell 7⟩)
  clear hL
  clear hw0 HN0
  go_enter Tryz.func20, Tryz.ntmps20
  go_upto_region 1 with fail
  rw [HW0.out]
  clear HW0
  go_upto_region 7 with fail
  refine wp_region_quiet (C := fun w' => Below w0.heap.size w0 w') (by kernel_rfl) (by kernel_rfl) (⟨rfl, rfl, rfl, Nat.le_refl _, fun _ _ => rfl⟩) ?_
  refine QW.lit ?_
  refine qw_want rfl ?_ (fun w' hw' => ?_) ?_
  rotate_left
  · unfold Oper.quietAt
    go_simp
    exact rfl
  simp only [Act.put, List.setIfInBounds_toArray, List.set_cons_succ, List.set_cons_zero]
  refine qw_want rfl ?_ (fun w' hw' => ?_) ?_
  rotate_left
  · unfold Oper.quietAt
    go_simp
    exact rfl
  simp only [Act.put, List.setIfInBounds_toArray, List.set_cons_succ, List.set_cons_zero]
  refine qw_want rfl ?_ (fun w' hw' => ?_) ?_
  rotate_left
  · obtain ⟨⟨k0, k1⟩, k2⟩ := HFx.out w' hw'
    unfold Oper.quietAt
    go_simp
    exact rfl
  simp only [Act.put, List.setIfInBounds_toArray, List.set_cons_succ, List.set_cons_zero]
  refine qw_want rfl ?_ (fun w' hw' => ?_) ?_
  rotate_left
  · unfold Oper.quietAt
    go_simp
    exact rfl
  simp only [Act.put, List.setIfInBounds_toArray, List.set_cons_succ, List.set_cons_zero]
  refine qw_want rfl ?_ (fun w' hw' => ?_) ?_
  rotate_left
  · unfold Oper.quietAt
    go_simp
    exact rfl
  simp only [Act.put, List.setIfInBounds_toArray, List.set_cons_succ, List.set_cons_zero]
  refine qw_want rfl ?_ (fun w' hw' => ?_) ?_
  rotate_left
  · obtain ⟨⟨k0, k1⟩, k2⟩ := HFx.out w' hw'
    unfold Oper.quietAt
    go_simp
    exact rfl
  simp only [Act.put, List.setIfInBounds_toArray, List.set_cons_succ, List.set_cons_zero]
  refine qw_want rfl ?_ (fun w' hw' => ?_) ?_
  rotate_left
  · unfold Oper.quietAt
    go_simp
    exact rfl
  simp only [Act.put, List.setIfInBounds_toArray, List.set_cons_succ, List.set_cons_zero]
  refine qw_want rfl ?_ (fun w' hw' => ?_) ?_
  rotate_left
  · unfold Oper.quietAt
    go_simp
    exact rfl
  simp only [Act.put, List.setIfInBounds_toArray, List.set_cons_succ, List.set_cons_zero]
  refine qw_want rfl ?_ (fun w' hw' => ?_) ?_
  rotate_left
  · unfold Oper.quietAt
    go_simp
    exact rfl
  simp only [Act.put, List.setIfInBounds_toArray, List.set_cons_succ, List.set_cons_zero]
  refine qw_end (fun w5 hb5 => ?_)
  have HB5 := Lib.hid (HB0.out.trans (hb5.mono HB0.out.size))
  clear hb5
  go_wp2
  refine bodyPost_ret (v := .tuple #[.int .i64 (IntKind.i64.wrap (a * d)), .bool true]) (by simp [results, Tryz.results20, go_sem]) rfl ⟨rfl, HB5.out⟩
set_option maxRecDepth 100000 in
set_option maxHeartbeats 4000000 in
theorem value_3 {w : World} (g : SigV) (wl : WldV) {n : Nd} {A : Option Addr} {a : Int} {d : Int} (c : Nat) (hop : n.op = 3) (hL : Row w A [a, d]) :
    Calls Tryz.prog 20 #[.agg g.cells, .agg wl.cells, nodeVal n, .slice A 2 c] w (fun e w' => ∃ x, e = .returned (.tuple #[.int .i64 x, .bool true]) ∧ x = max a d ∧ Below w.heap.size w w') := by
  obtain ⟨w0, hw0⟩ : ∃ w0, ((w.alloc (.cells g.cells 26)).alloc (.cells wl.cells 30)).alloc (.cells (nodeCells n).toArray 48) = w0 := ⟨_, rfl⟩
  have HB0 : Hid (Below w.heap.size w w0) := Lib.hid (by rw [← hw0]; exact (((Below.refl _ w).alloc (Nat.le_refl _) _).alloc (by simp) _).alloc (by simp; omega) _)
  have HN0 : Hid (Blk w0 (w.heap.size + 1 + 1) 48 (nodeCells n).toArray) := Lib.hid (by rw [← hw0]; exact Blk.new_at (by simp) _ _)
  have HGC : Hid (g.cells = #[.slice g.A0 g.sorts.length g.c0, .slice g.A1 g.funs.length g.c1, .slice g.A2 g.macs.length g.c2]) := Lib.hid rfl
  have HVC : Hid (wl.cells = #[.slice wl.A0 wl.sizes.length wl.c0, .slice wl.A1 wl.funs.length wl.c1]) := Lib.hid rfl
  obtain ⟨op, len, q0, q1, q2, srt, fn, num⟩ := n
  simp only at hop
  subst hop
  have n0 : w0.cell? ⟨w.heap.size + 1 + 1, 0, none⟩ = some (.int .i8 3) := HN0.out.cell 0
  have n7 : w0.cell? ⟨w.heap.size + 1 + 1, 7, none⟩ = some (.int .i64 num) := HN0.out.cell 7
  rw [HGC.out, HVC.out] at hw0 ⊢
  unfold nodeVal
  unfold nodeCells at *
  have HW0 := Lib.hid hw0
  obtain ⟨b, off, rfl, y0, y1⟩ := (hL.below HB0.out).c2
  have HFx : Hid (∀ W, Below w0.heap.size w0 W → (W.cell? ⟨b, off, none⟩ = some (.int .i64 a) ∧ W.cell? ⟨b, off + 1, none⟩ = some (.int .i64 d)) ∧ W.cell? ⟨w.heap.size + 1 + 1, 7, none⟩ = some (.int .i64 num)) := Lib.hid (fun W hW => by
    have hb := World.block_lt_of_cell? _ _ y0
    exact ⟨⟨(hW.cell (p := ⟨b, off, none⟩) hb).trans y0, (hW.cell (p := ⟨b, off + 1, none⟩) hb).trans y1⟩, (HN0.out.below hW HN0.out.lt).cell 7⟩)
  clear hL
  clear hw0 HN0
  go_enter Tryz.func20, Tryz.ntmps20
  go_upto_region 1 with fail
  rw [HW0.out]
  clear HW0
  go_upto_region 9 with fail
  refine wp_region_quiet (C := fun w' => Below w0.heap.size w0 w') (by kernel_rfl) (by kernel_rfl) (⟨rfl, rfl, rfl, Nat.le_refl _, fun _ _ => rfl⟩) ?_
  refine QW.lit ?_
  refine qw_want rfl ?_ (fun w' hw' => ?_) ?_
  rotate_left
  · unfold Oper.quietAt
    go_simp
    exact rfl
  simp only [Act.put, List.setIfInBounds_toArray, List.set_cons_succ, List.set_cons_zero]
  refine qw_want rfl ?_ (fun w' hw' => ?_) ?_
  rotate_left
  · unfold Oper.quietAt
    go_simp
    exact rfl
  simp only [Act.put, List.setIfInBounds_toArray, List.set_cons_succ, List.set_cons_zero]
  refine qw_want rfl ?_ (fun w' hw' => ?_) ?_
  rotate_left
  · obtain ⟨⟨k0, k1⟩, k2⟩ := HFx.out w' hw'
    unfold Oper.quietAt
    go_simp
    exact rfl
  simp only [Act.put, List.setIfInBounds_toArray, List.set_cons_succ, List.set_cons_zero]
  refine qw_want rfl ?_ (fun w' hw' => ?_) ?_
  rotate_left
  · unfold Oper.quietAt
    go_simp
    exact rfl
  simp only [Act.put, List.setIfInBounds_toArray, List.set_cons_succ, List.set_cons_zero]
  refine qw_want rfl ?_ (fun w' hw' => ?_) ?_
  rotate_left
  · unfold Oper.quietAt
    go_simp
    exact rfl
  simp only [Act.put, List.setIfInBounds_toArray, List.set_cons_succ, List.set_cons_zero]
  refine qw_want rfl ?_ (fun w' hw' => ?_) ?_
  rotate_left
  · obtain ⟨⟨k0, k1⟩, k2⟩ := HFx.out w' hw'
    unfold Oper.quietAt
    go_simp
    exact rfl
  simp only [Act.put, List.setIfInBounds_toArray, List.set_cons_succ, List.set_cons_zero]
  refine qw_want rfl ?_ (fun w' hw' => ?_) ?_
  rotate_left
  · unfold Oper.quietAt
    go_simp
    exact rfl
  simp only [Act.put, List.setIfInBounds_toArray, List.set_cons_succ, List.set_cons_zero]
  refine qw_want rfl ?_ (fun w' hw' => ?_) ?_
  rotate_left
  · unfold Oper.quietAt
    go_simp
    exact rfl
  simp only [Act.put, List.setIfInBounds_toArray, List.set_cons_succ, List.set_cons_zero]
  refine qw_want rfl ?_ (fun w' hw' => ?_) ?_
  rotate_left
  · unfold Oper.quietAt
    go_simp
    exact rfl
  simp only [Act.put, List.setIfInBounds_toArray, List.set_cons_succ, List.set_cons_zero]
  refine qw_end (fun w5 hb5 => ?_)
  have HB5 := Lib.hid (HB0.out.trans (hb5.mono HB0.out.size))
  clear hb5
  go_wp2_with fail
  all_goals first
    | (refine bodyPost_ret (v := .tuple #[.int .i64 (max a d), .bool true]) (by simp [results, Tryz.results20, go_sem]) rfl ⟨max a d, rfl, rfl, HB5.out⟩; done)
    | (refine bodyPost_ret (v := .tuple #[.int .i64 a, .bool true]) (by simp [results, Tryz.results20, go_sem]) rfl ⟨a, rfl, by omega, HB5.out⟩; done)
    | (refine bodyPost_ret (v := .tuple #[.int .i64 d, .bool true]) (by simp [results, Tryz.results20, go_sem]) rfl ⟨d, rfl, by omega, HB5.out⟩; done)
set_option maxRecDepth 100000 in
set_option maxHeartbeats 4000000 in
theorem value_4 {w : World} (g : SigV) (wl : WldV) {n : Nd} {A : Option Addr} {a : Int} {d : Int} (c : Nat) (hop : n.op = 4) (hL : Row w A [a, d]) :
    Calls Tryz.prog 20 #[.agg g.cells, .agg wl.cells, nodeVal n, .slice A 2 c] w (VPost (bitV (a != d)) true w) := by
  obtain ⟨w0, hw0⟩ : ∃ w0, ((w.alloc (.cells g.cells 26)).alloc (.cells wl.cells 30)).alloc (.cells (nodeCells n).toArray 48) = w0 := ⟨_, rfl⟩
  have HB0 : Hid (Below w.heap.size w w0) := Lib.hid (by rw [← hw0]; exact (((Below.refl _ w).alloc (Nat.le_refl _) _).alloc (by simp) _).alloc (by simp; omega) _)
  have HN0 : Hid (Blk w0 (w.heap.size + 1 + 1) 48 (nodeCells n).toArray) := Lib.hid (by rw [← hw0]; exact Blk.new_at (by simp) _ _)
  have HGC : Hid (g.cells = #[.slice g.A0 g.sorts.length g.c0, .slice g.A1 g.funs.length g.c1, .slice g.A2 g.macs.length g.c2]) := Lib.hid rfl
  have HVC : Hid (wl.cells = #[.slice wl.A0 wl.sizes.length wl.c0, .slice wl.A1 wl.funs.length wl.c1]) := Lib.hid rfl
  obtain ⟨op, len, q0, q1, q2, srt, fn, num⟩ := n
  simp only at hop
  subst hop
  have n0 : w0.cell? ⟨w.heap.size + 1 + 1, 0, none⟩ = some (.int .i8 4) := HN0.out.cell 0
  have n7 : w0.cell? ⟨w.heap.size + 1 + 1, 7, none⟩ = some (.int .i64 num) := HN0.out.cell 7
  rw [HGC.out, HVC.out] at hw0 ⊢
  unfold nodeVal
  unfold nodeCells at *
  have HW0 := Lib.hid hw0
  obtain ⟨b, off, rfl, y0, y1⟩ := (hL.below HB0.out).c2
  have HFx : Hid (∀ W, Below w0.heap.size w0 W → (W.cell? ⟨b, off, none⟩ = some (.int .i64 a) ∧ W.cell? ⟨b, off + 1, none⟩ = some (.int .i64 d)) ∧ W.cell? ⟨w.heap.size + 1 + 1, 7, none⟩ = some (.int .i64 num)) := Lib.hid (fun W hW => by
    have hb := World.block_lt_of_cell? _ _ y0
    exact ⟨⟨(hW.cell (p := ⟨b, off, none⟩) hb).trans y0, (hW.cell (p := ⟨b, off + 1, none⟩) hb).trans y1⟩, (HN0.out.below hW HN0.out.lt).cell 7⟩)
  clear hL
  clear hw0 HN0
  go_enter Tryz.func20, Tryz.ntmps20
  go_upto_region 1 with fail
  rw [HW0.out]
  clear HW0
  go_upto_region 11 with fail
  refine wp_region_quiet (C := fun w' => Below w0.heap.size w0 w') (by kernel_rfl) (by kernel_rfl) (⟨rfl, rfl, rfl, Nat.le_refl _, fun _ _ => rfl⟩) ?_
  refine QW.lit ?_
  refine qw_want rfl ?_ (fun w' hw' => ?_) ?_
  rotate_left
  · unfold Oper.quietAt
    go_simp
    exact rfl
  simp only [Act.put, List.setIfInBounds_toArray, List.set_cons_succ, List.set_cons_zero]
  refine qw_want rfl ?_ (fun w' hw' => ?_) ?_
  rotate_left
  · unfold Oper.quietAt
    go_simp
    exact rfl
  simp only [Act.put, List.setIfInBounds_toArray, List.set_cons_succ, List.set_cons_zero]
  refine qw_want rfl ?_ (fun w' hw' => ?_) ?_
  rotate_left
  · obtain ⟨⟨k0, k1⟩, k2⟩ := HFx.out w' hw'
    unfold Oper.quietAt
    go_simp
    exact rfl
  simp only [Act.put, List.setIfInBounds_toArray, List.set_cons_succ, List.set_cons_zero]
  refine qw_want rfl ?_ (fun w' hw' => ?_) ?_
  rotate_left
  · unfold Oper.quietAt
    go_simp
    exact rfl
  simp only [Act.put, List.setIfInBounds_toArray, List.set_cons_succ, List.set_cons_zero]
  refine qw_want rfl ?_ (fun w' hw' => ?_) ?_
  rotate_left
  · unfold Oper.quietAt
    go_simp
    exact rfl
  simp only [Act.put, List.setIfInBounds_toArray, List.set_cons_succ, List.set_cons_zero]
  refine qw_want rfl ?_ (fun w' hw' => ?_) ?_
  rotate_left
  · obtain ⟨⟨k0, k1⟩, k2⟩ := HFx.out w' hw'
    unfold Oper.quietAt
    go_simp
    exact rfl
  simp only [Act.put, List.setIfInBounds_toArray, List.set_cons_succ, List.set_cons_zero]
  refine qw_want rfl ?_ (fun w' hw' => ?_) ?_
  rotate_left
  · unfold Oper.quietAt
    go_simp
    exact rfl
  simp only [Act.put, List.setIfInBounds_toArray, List.set_cons_succ, List.set_cons_zero]
  refine qw_want rfl (.int .i64 (bitV (a != d))) (fun w' hw' => ?_) ?_
  · unfold Oper.quietAt
    go_simp
    refine (bitv_ok ((a != d)) w').mono ?_
    rintro e w2 ⟨rfl, rfl⟩
    exact ⟨rfl, hw'⟩
  simp only [Act.put, List.setIfInBounds_toArray, List.set_cons_succ, List.set_cons_zero]
  refine qw_want rfl ?_ (fun w' hw' => ?_) ?_
  rotate_left
  · unfold Oper.quietAt
    go_simp
    exact rfl
  simp only [Act.put, List.setIfInBounds_toArray, List.set_cons_succ, List.set_cons_zero]
  refine qw_want rfl ?_ (fun w' hw' => ?_) ?_
  rotate_left
  · unfold Oper.quietAt
    go_simp
    exact rfl
  simp only [Act.put, List.setIfInBounds_toArray, List.set_cons_succ, List.set_cons_zero]
  refine qw_end (fun w5 hb5 => ?_)
  have HB5 := Lib.hid (HB0.out.trans (hb5.mono HB0.out.size))
  clear hb5
  go_wp2
  refine bodyPost_ret (v := .tuple #[.int .i64 (bitV (a != d)), .bool true]) (by simp [results, Tryz.results20, go_sem]) rfl ⟨rfl, HB5.out⟩
set_option maxRecDepth 100000 in
set_option maxHeartbeats 4000000 in
theorem value_5 {w : World} (g : SigV) (wl : WldV) {n : Nd} {A : Option Addr} {a : Int} {d : Int} (c : Nat) (hop : n.op = 5) (hL : Row w A [a, d]) :
    Calls Tryz.prog 20 #[.agg g.cells, .agg wl.cells, nodeVal n, .slice A 2 c] w (VPost (bitV (decide (a ≤ d))) true w) := by
  obtain ⟨w0, hw0⟩ : ∃ w0, ((w.alloc (.cells g.cells 26)).alloc (.cells wl.cells 30)).alloc (.cells (nodeCells n).toArray 48) = w0 := ⟨_, rfl⟩
  have HB0 : Hid (Below w.heap.size w w0) := Lib.hid (by rw [← hw0]; exact (((Below.refl _ w).alloc (Nat.le_refl _) _).alloc (by simp) _).alloc (by simp; omega) _)
  have HN0 : Hid (Blk w0 (w.heap.size + 1 + 1) 48 (nodeCells n).toArray) := Lib.hid (by rw [← hw0]; exact Blk.new_at (by simp) _ _)
  have HGC : Hid (g.cells = #[.slice g.A0 g.sorts.length g.c0, .slice g.A1 g.funs.length g.c1, .slice g.A2 g.macs.length g.c2]) := Lib.hid rfl
  have HVC : Hid (wl.cells = #[.slice wl.A0 wl.sizes.length wl.c0, .slice wl.A1 wl.funs.length wl.c1]) := Lib.hid rfl
  obtain ⟨op, len, q0, q1, q2, srt, fn, num⟩ := n
  simp only at hop
  subst hop
  have n0 : w0.cell? ⟨w.heap.size + 1 + 1, 0, none⟩ = some (.int .i8 5) := HN0.out.cell 0
  have n7 : w0.cell? ⟨w.heap.size + 1 + 1, 7, none⟩ = some (.int .i64 num) := HN0.out.cell 7
  rw [HGC.out, HVC.out] at hw0 ⊢
  unfold nodeVal
  unfold nodeCells at *
  have HW0 := Lib.hid hw0
  obtain ⟨b, off, rfl, y0, y1⟩ := (hL.below HB0.out).c2
  have HFx : Hid (∀ W, Below w0.heap.size w0 W → (W.cell? ⟨b, off, none⟩ = some (.int .i64 a) ∧ W.cell? ⟨b, off + 1, none⟩ = some (.int .i64 d)) ∧ W.cell? ⟨w.heap.size + 1 + 1, 7, none⟩ = some (.int .i64 num)) := Lib.hid (fun W hW => by
    have hb := World.block_lt_of_cell? _ _ y0
    exact ⟨⟨(hW.cell (p := ⟨b, off, none⟩) hb).trans y0, (hW.cell (p := ⟨b, off + 1, none⟩) hb).trans y1⟩, (HN0.out.below hW HN0.out.lt).cell 7⟩)
  clear hL
  clear hw0 HN0
  go_enter Tryz.func20, Tryz.ntmps20
  go_upto_region 1 with fail
  rw [HW0.out]
  clear HW0
  go_upto_region 13 with fail
  refine wp_region_quiet (C := fun w' => Below w0.heap.size w0 w') (by kernel_rfl) (by kernel_rfl) (⟨rfl, rfl, rfl, Nat.le_refl _, fun _ _ => rfl⟩) ?_
  refine QW.lit ?_
  refine qw_want rfl ?_ (fun w' hw' => ?_) ?_
  rotate_left
  · unfold Oper.quietAt
    go_simp
    exact rfl
  simp only [Act.put, List.setIfInBounds_toArray, List.set_cons_succ, List.set_cons_zero]
  refine qw_want rfl ?_ (fun w' hw' => ?_) ?_
  rotate_left
  · unfold Oper.quietAt
    go_simp
    exact rfl
  simp only [Act.put, List.setIfInBounds_toArray, List.set_cons_succ, List.set_cons_zero]
  refine qw_want rfl ?_ (fun w' hw' => ?_) ?_
  rotate_left
  · obtain ⟨⟨k0, k1⟩, k2⟩ := HFx.out w' hw'
    unfold Oper.quietAt
    go_simp
    exact rfl
  simp only [Act.put, List.setIfInBounds_toArray, List.set_cons_succ, List.set_cons_zero]
  refine qw_want rfl ?_ (fun w' hw' => ?_) ?_
  rotate_left
  · unfold Oper.quietAt
    go_simp
    exact rfl
  simp only [Act.put, List.setIfInBounds_toArray, List.set_cons_succ, List.set_cons_zero]
  refine qw_want rfl ?_ (fun w' hw' => ?_) ?_
  rotate_left
  · unfold Oper.quietAt
    go_simp
    exact rfl
  simp only [Act.put, List.setIfInBounds_toArray, List.set_cons_succ, List.set_cons_zero]
  refine qw_want rfl ?_ (fun w' hw' => ?_) ?_
  rotate_left
  · obtain ⟨⟨k0, k1⟩, k2⟩ := HFx.out w' hw'
    unfold Oper.quietAt
    go_simp
    exact rfl
  simp only [Act.put, List.setIfInBounds_toArray, List.set_cons_succ, List.set_cons_zero]
  refine qw_want rfl ?_ (fun w' hw' => ?_) ?_
  rotate_left
  · unfold Oper.quietAt
    go_simp
    exact rfl
  simp only [Act.put, List.setIfInBounds_toArray, List.set_cons_succ, List.set_cons_zero]
  refine qw_want rfl (.int .i64 (bitV (decide (a ≤ d)))) (fun w' hw' => ?_) ?_
  · unfold Oper.quietAt
    go_simp
    refine (bitv_ok ((decide (a ≤ d))) w').mono ?_
    rintro e w2 ⟨rfl, rfl⟩
    exact ⟨rfl, hw'⟩
  simp only [Act.put, List.setIfInBounds_toArray, List.set_cons_succ, List.set_cons_zero]
  refine qw_want rfl ?_ (fun w' hw' => ?_) ?_
  rotate_left
  · unfold Oper.quietAt
    go_simp
    exact rfl
  simp only [Act.put, List.setIfInBounds_toArray, List.set_cons_succ, List.set_cons_zero]
  refine qw_want rfl ?_ (fun w' hw' => ?_) ?_
  rotate_left
  · unfold Oper.quietAt
    go_simp
    exact rfl
  simp only [Act.put, List.setIfInBounds_toArray, List.set_cons_succ, List.set_cons_zero]
  refine qw_end (fun w5 hb5 => ?_)
  have HB5 := Lib.hid (HB0.out.trans (hb5.mono HB0.out.size))
  clear hb5
  go_wp2
  refine bodyPost_ret (v := .tuple #[.int .i64 (bitV (decide (a ≤ d))), .bool true]) (by simp [results, Tryz.results20, go_sem]) rfl ⟨rfl, HB5.out⟩
set_option maxRecDepth 100000 in
set_option maxHeartbeats 4000000 in
theorem value_6 {w : World} (g : SigV) (wl : WldV) {n : Nd} {A : Option Addr} {a : Int} {d : Int} (c : Nat) (hop : n.op = 6) (hL : Row w A [a, d]) :
    Calls Tryz.prog 20 #[.agg g.cells, .agg wl.cells, nodeVal n, .slice A 2 c] w (VPost (bitV (a == d)) true w) := by
  obtain ⟨w0, hw0⟩ : ∃ w0, ((w.alloc (.cells g.cells 26)).alloc (.cells wl.cells 30)).alloc (.cells (nodeCells n).toArray 48) = w0 := ⟨_, rfl⟩
  have HB0 : Hid (Below w.heap.size w w0) := Lib.hid (by rw [← hw0]; exact (((Below.refl _ w).alloc (Nat.le_refl _) _).alloc (by simp) _).alloc (by simp; omega) _)
  have HN0 : Hid (Blk w0 (w.heap.size + 1 + 1) 48 (nodeCells n).toArray) := Lib.hid (by rw [← hw0]; exact Blk.new_at (by simp) _ _)
  have HGC : Hid (g.cells = #[.slice g.A0 g.sorts.length g.c0, .slice g.A1 g.funs.length g.c1, .slice g.A2 g.macs.length g.c2]) := Lib.hid rfl
  have HVC : Hid (wl.cells = #[.slice wl.A0 wl.sizes.length wl.c0, .slice wl.A1 wl.funs.length wl.c1]) := Lib.hid rfl
  obtain ⟨op, len, q0, q1, q2, srt, fn, num⟩ := n
  simp only at hop
  subst hop
  have n0 : w0.cell? ⟨w.heap.size + 1 + 1, 0, none⟩ = some (.int .i8 6) := HN0.out.cell 0
  have n7 : w0.cell? ⟨w.heap.size + 1 + 1, 7, none⟩ = some (.int .i64 num) := HN0.out.cell 7
  rw [HGC.out, HVC.out] at hw0 ⊢
  unfold nodeVal
  unfold nodeCells at *
  have HW0 := Lib.hid hw0
  obtain ⟨b, off, rfl, y0, y1⟩ := (hL.below HB0.out).c2
  have HFx : Hid (∀ W, Below w0.heap.size w0 W → (W.cell? ⟨b, off, none⟩ = some (.int .i64 a) ∧ W.cell? ⟨b, off + 1, none⟩ = some (.int .i64 d)) ∧ W.cell? ⟨w.heap.size + 1 + 1, 7, none⟩ = some (.int .i64 num)) := Lib.hid (fun W hW => by
    have hb := World.block_lt_of_cell? _ _ y0
    exact ⟨⟨(hW.cell (p := ⟨b, off, none⟩) hb).trans y0, (hW.cell (p := ⟨b, off + 1, none⟩) hb).trans y1⟩, (HN0.out.below hW HN0.out.lt).cell 7⟩)
  clear hL
  clear hw0 HN0
  go_enter Tryz.func20, Tryz.ntmps20
  go_upto_region 1 with fail
  rw [HW0.out]
  clear HW0
  go_upto_region 15 with fail
  refine wp_region_quiet (C := fun w' => Below w0.heap.size w0 w') (by kernel_rfl) (by kernel_rfl) (⟨rfl, rfl, rfl, Nat.le_refl _, fun _ _ => rfl⟩) ?_
  refine QW.lit ?_
  refine qw_want rfl ?_ (fun w' hw' => ?_) ?_
  rotate_left
  · unfold Oper.quietAt
    go_simp
    exact rfl
  simp only [Act.put, List.setIfInBounds_toArray, List.set_cons_succ, List.set_cons_zero]
  refine qw_want rfl ?_ (fun w' hw' => ?_) ?_
  rotate_left
  · unfold Oper.quietAt
    go_simp
    exact rfl
  simp only [Act.put, List.setIfInBounds_toArray, List.set_cons_succ, List.set_cons_zero]
  refine qw_want rfl ?_ (fun w' hw' => ?_) ?_
  rotate_left
  · obtain ⟨⟨k0, k1⟩, k2⟩ := HFx.out w' hw'
    unfold Oper.quietAt
    go_simp
    exact rfl
  simp only [Act.put, List.setIfInBounds_toArray, List.set_cons_succ, List.set_cons_zero]
  refine qw_want rfl ?_ (fun w' hw' => ?_) ?_
  rotate_left
  · unfold Oper.quietAt
    go_simp
    exact rfl
  simp only [Act.put, List.setIfInBounds_toArray, List.set_cons_succ, List.set_cons_zero]
  refine qw_want rfl ?_ (fun w' hw' => ?_) ?_
  rotate_left
  · unfold Oper.quietAt
    go_simp
    exact rfl
  simp only [Act.put, List.setIfInBounds_toArray, List.set_cons_succ, List.set_cons_zero]
  refine qw_want rfl ?_ (fun w' hw' => ?_) ?_
  rotate_left
  · obtain ⟨⟨k0, k1⟩, k2⟩ := HFx.out w' hw'
    unfold Oper.quietAt
    go_simp
    exact rfl
  simp only [Act.put, List.setIfInBounds_toArray, List.set_cons_succ, List.set_cons_zero]
  refine qw_want rfl ?_ (fun w' hw' => ?_) ?_
  rotate_left
  · unfold Oper.quietAt
    go_simp
    exact rfl
  simp only [Act.put, List.setIfInBounds_toArray, List.set_cons_succ, List.set_cons_zero]
  refine qw_want rfl (.int .i64 (bitV (a == d))) (fun w' hw' => ?_) ?_
  · unfold Oper.quietAt
    go_simp
    refine (bitv_ok ((a == d)) w').mono ?_
    rintro e w2 ⟨rfl, rfl⟩
    exact ⟨rfl, hw'⟩
  simp only [Act.put, List.setIfInBounds_toArray, List.set_cons_succ, List.set_cons_zero]
  refine qw_want rfl ?_ (fun w' hw' => ?_) ?_
  rotate_left
  · unfold Oper.quietAt
    go_simp
    exact rfl
  simp only [Act.put, List.setIfInBounds_toArray, List.set_cons_succ, List.set_cons_zero]
  refine qw_want rfl ?_ (fun w' hw' => ?_) ?_
  rotate_left
  · unfold Oper.quietAt
    go_simp
    exact rfl
  simp only [Act.put, List.setIfInBounds_toArray, List.set_cons_succ, List.set_cons_zero]
  refine qw_end (fun w5 hb5 => ?_)
  have HB5 := Lib.hid (HB0.out.trans (hb5.mono HB0.out.size))
  clear hb5
  go_wp2
  refine bodyPost_ret (v := .tuple #[.int .i64 (bitV (a == d)), .bool true]) (by simp [results, Tryz.results20, go_sem]) rfl ⟨rfl, HB5.out⟩
set_option maxRecDepth 100000 in
set_option maxHeartbeats 4000000 in
theorem value_8 {w : World} (g : SigV) (wl : WldV) {n : Nd} {A : Option Addr} {a : Int} {d : Int} (c : Nat) (hop : n.op = 8) (hL : Row w A [a, d]) :
    Calls Tryz.prog 20 #[.agg g.cells, .agg wl.cells, nodeVal n, .slice A 2 c] w (VPost (bitV (decide (a ≤ d))) true w) := by
  obtain ⟨w0, hw0⟩ : ∃ w0, ((w.alloc (.cells g.cells 26)).alloc (.cells wl.cells 30)).alloc (.cells (nodeCells n).toArray 48) = w0 := ⟨_, rfl⟩
  have HB0 : Hid (Below w.heap.size w w0) := Lib.hid (by rw [← hw0]; exact (((Below.refl _ w).alloc (Nat.le_refl _) _).alloc (by simp) _).alloc (by simp; omega) _)
  have HN0 : Hid (Blk w0 (w.heap.size + 1 + 1) 48 (nodeCells n).toArray) := Lib.hid (by rw [← hw0]; exact Blk.new_at (by simp) _ _)
  have HGC : Hid (g.cells = #[.slice g.A0 g.sorts.length g.c0, .slice g.A1 g.funs.length g.c1, .slice g.A2 g.macs.length g.c2]) := Lib.hid rfl
  have HVC : Hid (wl.cells = #[.slice wl.A0 wl.sizes.length wl.c0, .slice wl.A1 wl.funs.length wl.c1]) := Lib.hid rfl
  obtain ⟨op, len, q0, q1, q2, srt, fn, num⟩ := n
  simp only at hop
  subst hop
  have n0 : w0.cell? ⟨w.heap.size + 1 + 1, 0, none⟩ = some (.int .i8 8) := HN0.out.cell 0
  have n7 : w0.cell? ⟨w.heap.size + 1 + 1, 7, none⟩ = some (.int .i64 num) := HN0.out.cell 7
  rw [HGC.out, HVC.out] at hw0 ⊢
  unfold nodeVal
  unfold nodeCells at *
  have HW0 := Lib.hid hw0
  obtain ⟨b, off, rfl, y0, y1⟩ := (hL.below HB0.out).c2
  have HFx : Hid (∀ W, Below w0.heap.size w0 W → (W.cell? ⟨b, off, none⟩ = some (.int .i64 a) ∧ W.cell? ⟨b, off + 1, none⟩ = some (.int .i64 d)) ∧ W.cell? ⟨w.heap.size + 1 + 1, 7, none⟩ = some (.int .i64 num)) := Lib.hid (fun W hW => by
    have hb := World.block_lt_of_cell? _ _ y0
    exact ⟨⟨(hW.cell (p := ⟨b, off, none⟩) hb).trans y0, (hW.cell (p := ⟨b, off + 1, none⟩) hb).trans y1⟩, (HN0.out.below hW HN0.out.lt).cell 7⟩)
  clear hL
  clear hw0 HN0
  go_enter Tryz.func20, Tryz.ntmps20
  go_upto_region 1 with fail
  rw [HW0.out]
  clear HW0
  go_upto_region 21 with fail
  refine wp_region_quiet (C := fun w' => Below w0.heap.size w0 w') (by kernel_rfl) (by kernel_rfl) (⟨rfl, rfl, rfl, Nat.le_refl _, fun _ _ => rfl⟩) ?_
  refine QW.lit ?_
  refine qw_want rfl ?_ (fun w' hw' => ?_) ?_
  rotate_left
  · unfold Oper.quietAt
    go_simp
    exact rfl
  simp only [Act.put, List.setIfInBounds_toArray, List.set_cons_succ, List.set_cons_zero]
  refine qw_want rfl ?_ (fun w' hw' => ?_) ?_
  rotate_left
  · unfold Oper.quietAt
    go_simp
    exact rfl
  simp only [Act.put, List.setIfInBounds_toArray, List.set_cons_succ, List.set_cons_zero]
  refine qw_want rfl ?_ (fun w' hw' => ?_) ?_
  rotate_left
  · obtain ⟨⟨k0, k1⟩, k2⟩ := HFx.out w' hw'
    unfold Oper.quietAt
    go_simp
    exact rfl
  simp only [Act.put, List.setIfInBounds_toArray, List.set_cons_succ, List.set_cons_zero]
  refine qw_want rfl ?_ (fun w' hw' => ?_) ?_
  rotate_left
  · unfold Oper.quietAt
    go_simp
    exact rfl
  simp only [Act.put, List.setIfInBounds_toArray, List.set_cons_succ, List.set_cons_zero]
  refine qw_want rfl ?_ (fun w' hw' => ?_) ?_
  rotate_left
  · unfold Oper.quietAt
    go_simp
    exact rfl
  simp only [Act.put, List.setIfInBounds_toArray, List.set_cons_succ, List.set_cons_zero]
  refine qw_want rfl ?_ (fun w' hw' => ?_) ?_
  rotate_left
  · obtain ⟨⟨k0, k1⟩, k2⟩ := HFx.out w' hw'
    unfold Oper.quietAt
    go_simp
    exact rfl
  simp only [Act.put, List.setIfInBounds_toArray, List.set_cons_succ, List.set_cons_zero]
  refine qw_want rfl ?_ (fun w' hw' => ?_) ?_
  rotate_left
  · unfold Oper.quietAt
    go_simp
    exact rfl
  simp only [Act.put, List.setIfInBounds_toArray, List.set_cons_succ, List.set_cons_zero]
  refine qw_want rfl (.int .i64 (bitV (decide (a ≤ d)))) (fun w' hw' => ?_) ?_
  · unfold Oper.quietAt
    go_simp
    refine (bitv_ok ((decide (a ≤ d))) w').mono ?_
    rintro e w2 ⟨rfl, rfl⟩
    exact ⟨rfl, hw'⟩
  simp only [Act.put, List.setIfInBounds_toArray, List.set_cons_succ, List.set_cons_zero]
  refine qw_want rfl ?_ (fun w' hw' => ?_) ?_
  rotate_left
  · unfold Oper.quietAt
    go_simp
    exact rfl
  simp only [Act.put, List.setIfInBounds_toArray, List.set_cons_succ, List.set_cons_zero]
  refine qw_want rfl ?_ (fun w' hw' => ?_) ?_
  rotate_left
  · unfold Oper.quietAt
    go_simp
    exact rfl
  simp only [Act.put, List.setIfInBounds_toArray, List.set_cons_succ, List.set_cons_zero]
  refine qw_end (fun w5 hb5 => ?_)
  have HB5 := Lib.hid (HB0.out.trans (hb5.mono HB0.out.size))
  clear hb5
  go_wp2
  refine bodyPost_ret (v := .tuple #[.int .i64 (bitV (decide (a ≤ d))), .bool true]) (by simp [results, Tryz.results20, go_sem]) rfl ⟨rfl, HB5.out⟩
set_option maxRecDepth 100000 in
set_option maxHeartbeats 4000000 in
theorem value_9 {w : World} (g : SigV) (wl : WldV) {n : Nd} {A : Option Addr} {a : Int} {d : Int} (c : Nat) (hop : n.op = 9) (hL : Row w A [a, d]) :
    Calls Tryz.prog 20 #[.agg g.cells, .agg wl.cells, nodeVal n, .slice A 2 c] w (VPost (bitV (decide (a < d))) true w) := by
  obtain ⟨w0, hw0⟩ : ∃ w0, ((w.alloc (.cells g.cells 26)).alloc (.cells wl.cells 30)).alloc (.cells (nodeCells n).toArray 48) = w0 := ⟨_, rfl⟩
  have HB0 : Hid (Below w.heap.size w w0) := Lib.hid (by rw [← hw0]; exact (((Below.refl _ w).alloc (Nat.le_refl _) _).alloc (by simp) _).alloc (by simp; omega) _)
  have HN0 : Hid (Blk w0 (w.heap.size + 1 + 1) 48 (nodeCells n).toArray) := Lib.hid (by rw [← hw0]; exact Blk.new_at (by simp) _ _)
  have HGC : Hid (g.cells = #[.slice g.A0 g.sorts.length g.c0, .slice g.A1 g.funs.length g.c1, .slice g.A2 g.macs.length g.c2]) := Lib.hid rfl
  have HVC : Hid (wl.cells = #[.slice wl.A0 wl.sizes.length wl.c0, .slice wl.A1 wl.funs.length wl.c1]) := Lib.hid rfl
  obtain ⟨op, len, q0, q1, q2, srt, fn, num⟩ := n
  simp only at hop
  subst hop
  have n0 : w0.cell? ⟨w.heap.size + 1 + 1, 0, none⟩ = some (.int .i8 9) := HN0.out.cell 0
  have n7 : w0.cell? ⟨w.heap.size + 1 + 1, 7, none⟩ = some (.int .i64 num) := HN0.out.cell 7
  rw [HGC.out, HVC.out] at hw0 ⊢
  unfold nodeVal
  unfold nodeCells at *
  have HW0 := Lib.hid hw0
  obtain ⟨b, off, rfl, y0, y1⟩ := (hL.below HB0.out).c2
  have HFx : Hid (∀ W, Below w0.heap.size w0 W → (W.cell? ⟨b, off, none⟩ = some (.int .i64 a) ∧ W.cell? ⟨b, off + 1, none⟩ = some (.int .i64 d)) ∧ W.cell? ⟨w.heap.size + 1 + 1, 7, none⟩ = some (.int .i64 num)) := Lib.hid (fun W hW => by
    have hb := World.block_lt_of_cell? _ _ y0
    exact ⟨⟨(hW.cell (p := ⟨b, off, none⟩) hb).trans y0, (hW.cell (p := ⟨b, off + 1, none⟩) hb).trans y1⟩, (HN0.out.below hW HN0.out.lt).cell 7⟩)
  clear hL
  clear hw0 HN0
  go_enter Tryz.func20, Tryz.ntmps20
  go_upto_region 1 with fail
  rw [HW0.out]
  clear HW0
  go_upto_region 23 with fail
  refine wp_region_quiet (C := fun w' => Below w0.heap.size w0 w') (by kernel_rfl) (by kernel_rfl) (⟨rfl, rfl, rfl, Nat.le_refl _, fun _ _ => rfl⟩) ?_
  refine QW.lit ?_
  refine qw_want rfl ?_ (fun w' hw' => ?_) ?_
  rotate_left
  · unfold Oper.quietAt
    go_simp
    exact rfl
  simp only [Act.put, List.setIfInBounds_toArray, List.set_cons_succ, List.set_cons_zero]
  refine qw_want rfl ?_ (fun w' hw' => ?_) ?_
  rotate_left
  · unfold Oper.quietAt
    go_simp
    exact rfl
  simp only [Act.put, List.setIfInBounds_toArray, List.set_cons_succ, List.set_cons_zero]
  refine qw_want rfl ?_ (fun w' hw' => ?_) ?_
  rotate_left
  · obtain ⟨⟨k0, k1⟩, k2⟩ := HFx.out w' hw'
    unfold Oper.quietAt
    go_simp
    exact rfl
  simp only [Act.put, List.setIfInBounds_toArray, List.set_cons_succ, List.set_cons_zero]
  refine qw_want rfl ?_ (fun w' hw' => ?_) ?_
  rotate_left
  · unfold Oper.quietAt
    go_simp
    exact rfl
  simp only [Act.put, List.setIfInBounds_toArray, List.set_cons_succ, List.set_cons_zero]
  refine qw_want rfl ?_ (fun w' hw' => ?_) ?_
  rotate_left
  · unfold Oper.quietAt
    go_simp
    exact rfl
  simp only [Act.put, List.setIfInBounds_toArray, List.set_cons_succ, List.set_cons_zero]
  refine qw_want rfl ?_ (fun w' hw' => ?_) ?_
  rotate_left
  · obtain ⟨⟨k0, k1⟩, k2⟩ := HFx.out w' hw'
    unfold Oper.quietAt
    go_simp
    exact rfl
  simp only [Act.put, List.setIfInBounds_toArray, List.set_cons_succ, List.set_cons_zero]
  refine qw_want rfl ?_ (fun w' hw' => ?_) ?_
  rotate_left
  · unfold Oper.quietAt
    go_simp
    exact rfl
  simp only [Act.put, List.setIfInBounds_toArray, List.set_cons_succ, List.set_cons_zero]
  refine qw_want rfl (.int .i64 (bitV (decide (a < d)))) (fun w' hw' => ?_) ?_
  · unfold Oper.quietAt
    go_simp
    refine (bitv_ok ((decide (a < d))) w').mono ?_
    rintro e w2 ⟨rfl, rfl⟩
    exact ⟨rfl, hw'⟩
  simp only [Act.put, List.setIfInBounds_toArray, List.set_cons_succ, List.set_cons_zero]
  refine qw_want rfl ?_ (fun w' hw' => ?_) ?_
  rotate_left
  · unfold Oper.quietAt
    go_simp
    exact rfl
  simp only [Act.put, List.setIfInBounds_toArray, List.set_cons_succ, List.set_cons_zero]
  refine qw_want rfl ?_ (fun w' hw' => ?_) ?_
  rotate_left
  · unfold Oper.quietAt
    go_simp
    exact rfl
  simp only [Act.put, List.setIfInBounds_toArray, List.set_cons_succ, List.set_cons_zero]
  refine qw_end (fun w5 hb5 => ?_)
  have HB5 := Lib.hid (HB0.out.trans (hb5.mono HB0.out.size))
  clear hb5
  go_wp2
  refine bodyPost_ret (v := .tuple #[.int .i64 (bitV (decide (a < d))), .bool true]) (by simp [results, Tryz.results20, go_sem]) rfl ⟨rfl, HB5.out⟩
set_option maxRecDepth 100000 in
set_option maxHeartbeats 4000000 in
theorem value_7 {w : World} (g : SigV) (wl : WldV) {n : Nd} {A : Option Addr} {a : Int} {d : Int} {f : Int} (c : Nat) (hop : n.op = 7) (hL : Row w A [a, d, f]) (h1 : a = 1) :
    Calls Tryz.prog 20 #[.agg g.cells, .agg wl.cells, nodeVal n, .slice A 3 c] w (VPost (d) true w) := by
  obtain ⟨w0, hw0⟩ : ∃ w0, ((w.alloc (.cells g.cells 26)).alloc (.cells wl.cells 30)).alloc (.cells (nodeCells n).toArray 48) = w0 := ⟨_, rfl⟩
  have HB0 : Hid (Below w.heap.size w w0) := Lib.hid (by rw [← hw0]; exact (((Below.refl _ w).alloc (Nat.le_refl _) _).alloc (by simp) _).alloc (by simp; omega) _)
  have HN0 : Hid (Blk w0 (w.heap.size + 1 + 1) 48 (nodeCells n).toArray) := Lib.hid (by rw [← hw0]; exact Blk.new_at (by simp) _ _)
  have HGC : Hid (g.cells = #[.slice g.A0 g.sorts.length g.c0, .slice g.A1 g.funs.length g.c1, .slice g.A2 g.macs.length g.c2]) := Lib.hid rfl
  have HVC : Hid (wl.cells = #[.slice wl.A0 wl.sizes.length wl.c0, .slice wl.A1 wl.funs.length wl.c1]) := Lib.hid rfl
  obtain ⟨op, len, q0, q1, q2, srt, fn, num⟩ := n
  simp only at hop
  subst hop
  have n0 : w0.cell? ⟨w.heap.size + 1 + 1, 0, none⟩ = some (.int .i8 7) := HN0.out.cell 0
  have n7 : w0.cell? ⟨w.heap.size + 1 + 1, 7, none⟩ = some (.int .i64 num) := HN0.out.cell 7
  rw [HGC.out, HVC.out] at hw0 ⊢
  unfold nodeVal
  unfold nodeCells at *
  have HW0 := Lib.hid hw0
  obtain ⟨b, off, rfl, y0, y1, y2⟩ := (hL.below HB0.out).c3
  have HFx : Hid (∀ W, Below w0.heap.size w0 W → (W.cell? ⟨b, off, none⟩ = some (.int .i64 a) ∧ W.cell? ⟨b, off + 1, none⟩ = some (.int .i64 d) ∧ W.cell? ⟨b, off + 2, none⟩ = some (.int .i64 f)) ∧ W.cell? ⟨w.heap.size + 1 + 1, 7, none⟩ = some (.int .i64 num)) := Lib.hid (fun W hW => by
    have hb := World.block_lt_of_cell? _ _ y0
    exact ⟨⟨(hW.cell (p := ⟨b, off, none⟩) hb).trans y0, (hW.cell (p := ⟨b, off + 1, none⟩) hb).trans y1, (hW.cell (p := ⟨b, off + 2, none⟩) hb).trans y2⟩, (HN0.out.below hW HN0.out.lt).cell 7⟩)
  clear hL
  clear hw0 HN0
  go_enter Tryz.func20, Tryz.ntmps20
  go_upto_region 1 with fail
  rw [HW0.out]
  clear HW0
  have e1 : (a == 1) = true := beq_iff_eq.2 h1
  clear h1
  go_wp2
  refine bodyPost_ret (v := .tuple #[.int .i64 d, .bool true]) (by simp [results, Tryz.results20, go_sem]) rfl ⟨rfl, HB0.out⟩
set_option maxRecDepth 100000 in
set_option maxHeartbeats 4000000 in
theorem value_7b {w : World} (g : SigV) (wl : WldV) {n : Nd} {A : Option Addr} {a : Int} {d : Int} {f : Int} (c : Nat) (hop : n.op = 7) (hL : Row w A [a, d, f]) (h1 : a ≠ 1) :
    Calls Tryz.prog 20 #[.agg g.cells, .agg wl.cells, nodeVal n, .slice A 3 c] w (VPost (f) true w) := by
  obtain ⟨w0, hw0⟩ : ∃ w0, ((w.alloc (.cells g.cells 26)).alloc (.cells wl.cells 30)).alloc (.cells (nodeCells n).toArray 48) = w0 := ⟨_, rfl⟩
  have HB0 : Hid (Below w.heap.size w w0) := Lib.hid (by rw [← hw0]; exact (((Below.refl _ w).alloc (Nat.le_refl _) _).alloc (by simp) _).alloc (by simp; omega) _)
  have HN0 : Hid (Blk w0 (w.heap.size + 1 + 1) 48 (nodeCells n).toArray) := Lib.hid (by rw [← hw0]; exact Blk.new_at (by simp) _ _)
  have HGC : Hid (g.cells = #[.slice g.A0 g.sorts.length g.c0, .slice g.A1 g.funs.length g.c1, .slice g.A2 g.macs.length g.c2]) := Lib.hid rfl
  have HVC : Hid (wl.cells = #[.slice wl.A0 wl.sizes.length wl.c0, .slice wl.A1 wl.funs.length wl.c1]) := Lib.hid rfl
  obtain ⟨op, len, q0, q1, q2, srt, fn, num⟩ := n
  simp only at hop
  subst hop
  have n0 : w0.cell? ⟨w.heap.size + 1 + 1, 0, none⟩ = some (.int .i8 7) := HN0.out.cell 0
  have n7 : w0.cell? ⟨w.heap.size + 1 + 1, 7, none⟩ = some (.int .i64 num) := HN0.out.cell 7
  rw [HGC.out, HVC.out] at hw0 ⊢
  unfold nodeVal
  unfold nodeCells at *
  have HW0 := Lib.hid hw0
  obtain ⟨b, off, rfl, y0, y1, y2⟩ := (hL.below HB0.out).c3
  have HFx : Hid (∀ W, Below w0.heap.size w0 W → (W.cell? ⟨b, off, none⟩ = some (.int .i64 a) ∧ W.cell? ⟨b, off + 1, none⟩ = some (.int .i64 d) ∧ W.cell? ⟨b, off + 2, none⟩ = some (.int .i64 f)) ∧ W.cell? ⟨w.heap.size + 1 + 1, 7, none⟩ = some (.int .i64 num)) := Lib.hid (fun W hW => by
    have hb := World.block_lt_of_cell? _ _ y0
    exact ⟨⟨(hW.cell (p := ⟨b, off, none⟩) hb).trans y0, (hW.cell (p := ⟨b, off + 1, none⟩) hb).trans y1, (hW.cell (p := ⟨b, off + 2, none⟩) hb).trans y2⟩, (HN0.out.below hW HN0.out.lt).cell 7⟩)
  clear hL
  clear hw0 HN0
  go_enter Tryz.func20, Tryz.ntmps20
  go_upto_region 1 with fail
  rw [HW0.out]
  clear HW0
  have e1 : (a == 1) = false := beq_eq_false_iff_ne.2 h1
  clear h1
  go_wp2
  refine bodyPost_ret (v := .tuple #[.int .i64 f, .bool true]) (by simp [results, Tryz.results20, go_sem]) rfl ⟨rfl, HB0.out⟩
set_option maxRecDepth 100000 in
set_option maxHeartbeats 4000000 in
theorem value_12 {w : World} (g : SigV) (wl : WldV) {n : Nd} {A : Option Addr} {a : Int} {d : Int} (c : Nat) (hop : n.op = 12) (hL : Row w A [a, d]) :
    Calls Tryz.prog 20 #[.agg g.cells, .agg wl.cells, nodeVal n, .slice A 2 c] w (VPost (bitV (atMostM a d n.num)) true w) := by
  obtain ⟨w0, hw0⟩ : ∃ w0, ((w.alloc (.cells g.cells 26)).alloc (.cells wl.cells 30)).alloc (.cells (nodeCells n).toArray 48) = w0 := ⟨_, rfl⟩
  have HB0 : Hid (Below w.heap.size w w0) := Lib.hid (by rw [← hw0]; exact (((Below.refl _ w).alloc (Nat.le_refl _) _).alloc (by simp) _).alloc (by simp; omega) _)
  have HN0 : Hid (Blk w0 (w.heap.size + 1 + 1) 48 (nodeCells n).toArray) := Lib.hid (by rw [← hw0]; exact Blk.new_at (by simp) _ _)
  have HGC : Hid (g.cells = #[.slice g.A0 g.sorts.length g.c0, .slice g.A1 g.funs.length g.c1, .slice g.A2 g.macs.length g.c2]) := Lib.hid rfl
  have HVC : Hid (wl.cells = #[.slice wl.A0 wl.sizes.length wl.c0, .slice wl.A1 wl.funs.length wl.c1]) := Lib.hid rfl
  obtain ⟨op, len, q0, q1, q2, srt, fn, num⟩ := n
  simp only at hop
  subst hop
  have n0 : w0.cell? ⟨w.heap.size + 1 + 1, 0, none⟩ = some (.int .i8 12) := HN0.out.cell 0
  have n7 : w0.cell? ⟨w.heap.size + 1 + 1, 7, none⟩ = some (.int .i64 num) := HN0.out.cell 7
  rw [HGC.out, HVC.out] at hw0 ⊢
  unfold nodeVal
  unfold nodeCells at *
  have HW0 := Lib.hid hw0
  obtain ⟨b, off, rfl, y0, y1⟩ := (hL.below HB0.out).c2
  have HFx : Hid (∀ W, Below w0.heap.size w0 W → (W.cell? ⟨b, off, none⟩ = some (.int .i64 a) ∧ W.cell? ⟨b, off + 1, none⟩ = some (.int .i64 d)) ∧ W.cell? ⟨w.heap.size + 1 + 1, 7, none⟩ = some (.int .i64 num)) := Lib.hid (fun W hW => by
    have hb := World.block_lt_of_cell? _ _ y0
    exact ⟨⟨(hW.cell (p := ⟨b, off, none⟩) hb).trans y0, (hW.cell (p := ⟨b, off + 1, none⟩) hb).trans y1⟩, (HN0.out.below hW HN0.out.lt).cell 7⟩)
  clear hL
  clear hw0 HN0
  go_enter Tryz.func20, Tryz.ntmps20
  go_upto_region 1 with fail
  rw [HW0.out]
  clear HW0
  go_upto_region 27 with fail
  refine wp_region_quiet (C := fun w' => Below w0.heap.size w0 w') (by kernel_rfl) (by kernel_rfl) (⟨rfl, rfl, rfl, Nat.le_refl _, fun _ _ => rfl⟩) ?_
  refine QW.lit ?_
  refine qw_want rfl ?_ (fun w' hw' => ?_) ?_
  rotate_left
  · unfold Oper.quietAt
    go_simp
    exact rfl
  simp only [Act.put, List.setIfInBounds_toArray, List.set_cons_succ, List.set_cons_zero]
  refine qw_want rfl ?_ (fun w' hw' => ?_) ?_
  rotate_left
  · unfold Oper.quietAt
    go_simp
    exact rfl
  simp only [Act.put, List.setIfInBounds_toArray, List.set_cons_succ, List.set_cons_zero]
  refine qw_want rfl ?_ (fun w' hw' => ?_) ?_
  rotate_left
  · obtain ⟨⟨k0, k1⟩, k2⟩ := HFx.out w' hw'
    unfold Oper.quietAt
    go_simp
    exact rfl
  simp only [Act.put, List.setIfInBounds_toArray, List.set_cons_succ, List.set_cons_zero]
  refine qw_want rfl ?_ (fun w' hw' => ?_) ?_
  rotate_left
  · unfold Oper.quietAt
    go_simp
    exact rfl
  simp only [Act.put, List.setIfInBounds_toArray, List.set_cons_succ, List.set_cons_zero]
  refine qw_want rfl ?_ (fun w' hw' => ?_) ?_
  rotate_left
  · unfold Oper.quietAt
    go_simp
    exact rfl
  simp only [Act.put, List.setIfInBounds_toArray, List.set_cons_succ, List.set_cons_zero]
  refine qw_want rfl ?_ (fun w' hw' => ?_) ?_
  rotate_left
  · obtain ⟨⟨k0, k1⟩, k2⟩ := HFx.out w' hw'
    unfold Oper.quietAt
    go_simp
    exact rfl
  simp only [Act.put, List.setIfInBounds_toArray, List.set_cons_succ, List.set_cons_zero]
  refine qw_want rfl ?_ (fun w' hw' => ?_) ?_
  rotate_left
  · unfold Oper.quietAt
    go_simp
    exact rfl
  simp only [Act.put, List.setIfInBounds_toArray, List.set_cons_succ, List.set_cons_zero]
  refine qw_want rfl ?_ (fun w' hw' => ?_) ?_
  rotate_left
  · obtain ⟨⟨k0, k1⟩, k2⟩ := HFx.out w' hw'
    unfold Oper.quietAt
    go_simp
    exact rfl
  simp only [Act.put, List.setIfInBounds_toArray, List.set_cons_succ, List.set_cons_zero]
  refine qw_want rfl (.bool (atMostM a d num)) (fun w' hw' => ?_) ?_
  · unfold Oper.quietAt
    go_simp
    refine (atMost_ok a d num w').mono ?_
    rintro e w2 ⟨rfl, rfl⟩
    exact ⟨rfl, hw'⟩
  simp only [Act.put, List.setIfInBounds_toArray, List.set_cons_succ, List.set_cons_zero]
  refine qw_want rfl (.int .i64 (bitV (atMostM a d num))) (fun w' hw' => ?_) ?_
  · unfold Oper.quietAt
    go_simp
    refine (bitv_ok (atMostM a d num) w').mono ?_
    rintro e w2 ⟨rfl, rfl⟩
    exact ⟨rfl, hw'⟩
  simp only [Act.put, List.setIfInBounds_toArray, List.set_cons_succ, List.set_cons_zero]
  refine qw_want rfl ?_ (fun w' hw' => ?_) ?_
  rotate_left
  · unfold Oper.quietAt
    go_simp
    exact rfl
  simp only [Act.put, List.setIfInBounds_toArray, List.set_cons_succ, List.set_cons_zero]
  refine qw_want rfl ?_ (fun w' hw' => ?_) ?_
  rotate_left
  · unfold Oper.quietAt
    go_simp
    exact rfl
  simp only [Act.put, List.setIfInBounds_toArray, List.set_cons_succ, List.set_cons_zero]
  refine qw_end (fun w5 hb5 => ?_)
  have HB5 := Lib.hid (HB0.out.trans (hb5.mono HB0.out.size))
  clear hb5
  go_wp2
  refine bodyPost_ret (v := .tuple #[.int .i64 (bitV (atMostM a d num)), .bool true]) (by simp [results, Tryz.results20, go_sem]) rfl ⟨rfl, HB5.out⟩
theorem half_in {x : Int} (h : -4611686018427387904 ≤ x ∧ x ≤ 4611686018427387904) : -2305843009213693952 ≤ x.tdiv 2 ∧ x.tdiv 2 ≤ 2305843009213693952 ∧ -1 ≤ x - 2 * x.tdiv 2 ∧ x - 2 * x.tdiv 2 ≤ 1 := by
  rcases Int.le_total 0 x with h0 | h0
  · rw [Int.tdiv_eq_ediv_of_nonneg h0]; omega
  · have e : x.tdiv 2 = -((-x).tdiv 2) := by rw [Int.neg_tdiv]; omega
    rw [e, Int.tdiv_eq_ediv_of_nonneg (show (0 : Int) ≤ -x by omega)]; omega
set_option maxRecDepth 100000 in
set_option maxHeartbeats 4000000 in
theorem value_11 {w : World} (g : SigV) (wl : WldV) {n : Nd} {A : Option Addr} {a : Int} (c : Nat) (hop : n.op = 11) (hL : Row w A [a]) (ha : -4611686018427387904 ≤ a ∧ a ≤ 4611686018427387904) (hn : -4611686018427387904 ≤ n.num ∧ n.num ≤ 4611686018427387904) :
    Calls Tryz.prog 20 #[.agg g.cells, .agg wl.cells, nodeVal n, .slice A 1 c] w (fun e w' => ∃ x ok, e = .returned (.tuple #[.int .i64 x, .bool ok]) ∧ (ok = true → x = a + n.num ∧ mayN x = true) ∧ I64 x ∧ Below w.heap.size w w') := by
  obtain ⟨w0, hw0⟩ : ∃ w0, ((w.alloc (.cells g.cells 26)).alloc (.cells wl.cells 30)).alloc (.cells (nodeCells n).toArray 48) = w0 := ⟨_, rfl⟩
  have HB0 : Hid (Below w.heap.size w w0) := Lib.hid (by rw [← hw0]; exact (((Below.refl _ w).alloc (Nat.le_refl _) _).alloc (by simp) _).alloc (by simp; omega) _)
  have HN0 : Hid (Blk w0 (w.heap.size + 1 + 1) 48 (nodeCells n).toArray) := Lib.hid (by rw [← hw0]; exact Blk.new_at (by simp) _ _)
  have HGC : Hid (g.cells = #[.slice g.A0 g.sorts.length g.c0, .slice g.A1 g.funs.length g.c1, .slice g.A2 g.macs.length g.c2]) := Lib.hid rfl
  have HVC : Hid (wl.cells = #[.slice wl.A0 wl.sizes.length wl.c0, .slice wl.A1 wl.funs.length wl.c1]) := Lib.hid rfl
  obtain ⟨op, len, q0, q1, q2, srt, fn, num⟩ := n
  simp only at hop
  subst hop
  have n0 : w0.cell? ⟨w.heap.size + 1 + 1, 0, none⟩ = some (.int .i8 11) := HN0.out.cell 0
  have n7 : w0.cell? ⟨w.heap.size + 1 + 1, 7, none⟩ = some (.int .i64 num) := HN0.out.cell 7
  rw [HGC.out, HVC.out] at hw0 ⊢
  unfold nodeVal
  unfold nodeCells at *
  have HW0 := Lib.hid hw0
  obtain ⟨b, off, rfl, y0⟩ := (hL.below HB0.out).c1
  have HFx : Hid (∀ W, Below w0.heap.size w0 W → (W.cell? ⟨b, off, none⟩ = some (.int .i64 a)) ∧ W.cell? ⟨w.heap.size + 1 + 1, 7, none⟩ = some (.int .i64 num)) := Lib.hid (fun W hW => by
    have hb := World.block_lt_of_cell? _ _ y0
    exact ⟨(hW.cell (p := ⟨b, off, none⟩) hb).trans y0, (HN0.out.below hW HN0.out.lt).cell 7⟩)
  clear hL
  clear hw0 HN0
  go_enter Tryz.func20, Tryz.ntmps20
  go_upto_region 1 with fail
  rw [HW0.out]
  clear HW0
  simp only at hn
  obtain ⟨u0, u1, u2, u3⟩ := half_in ha
  obtain ⟨v0, v1, v2, v3⟩ := half_in hn
  obtain ⟨ah, hah⟩ : ∃ z, a.tdiv 2 = z := ⟨_, rfl⟩
  obtain ⟨nh, hnh⟩ : ∃ z, num.tdiv 2 = z := ⟨_, rfl⟩
  rw [hah] at u0 u1 u2 u3
  rw [hnh] at v0 v1 v2 v3
  have e1 : IntKind.i64.wrap ah = ah := by unfold IntKind.wrap; simp [IntKind.bits, IntKind.signed]; omega
  have e2 : IntKind.i64.wrap nh = nh := by unfold IntKind.wrap; simp [IntKind.bits, IntKind.signed]; omega
  have e3 : IntKind.i64.wrap (ah + nh) = ah + nh := by unfold IntKind.wrap; simp [IntKind.bits, IntKind.signed]; omega
  have HU := Lib.hid (And.intro u2 (And.intro u3 (And.intro v2 v3)))
  have HAh := Lib.hid (And.intro ha hn)
  clear u0 u1 u2 u3 v0 v1 v2 v3 ha hn
  go_upto_region 29 with fail
  refine wp_region_quiet (C := fun w' => Below w0.heap.size w0 w') (by kernel_rfl) (by kernel_rfl) (⟨rfl, rfl, rfl, Nat.le_refl _, fun _ _ => rfl⟩) ?_
  refine QW.lit ?_
  refine qw_want rfl ?_ (fun w' hw' => ?_) ?_
  rotate_left
  · unfold Oper.quietAt
    go_simp
    exact rfl
  simp only [Act.put, List.setIfInBounds_toArray, List.set_cons_succ, List.set_cons_zero]
  refine qw_want rfl ?_ (fun w' hw' => ?_) ?_
  rotate_left
  · unfold Oper.quietAt
    go_simp
    exact rfl
  simp only [Act.put, List.setIfInBounds_toArray, List.set_cons_succ, List.set_cons_zero]
  refine qw_want rfl ?_ (fun w' hw' => ?_) ?_
  rotate_left
  · obtain ⟨k0, k1⟩ := HFx.out w' hw'
    unfold Oper.quietAt
    go_simp
    exact rfl
  simp only [Act.put, List.setIfInBounds_toArray, List.set_cons_succ, List.set_cons_zero]
  refine qw_want rfl ?_ (fun w' hw' => ?_) ?_
  rotate_left
  · unfold Oper.quietAt
    go_simp
    exact rfl
  simp only [Act.put, List.setIfInBounds_toArray, List.set_cons_succ, List.set_cons_zero]
  refine qw_want rfl ?_ (fun w' hw' => ?_) ?_
  rotate_left
  · unfold Oper.quietAt
    go_simp
    exact rfl
  simp only [Act.put, List.setIfInBounds_toArray, List.set_cons_succ, List.set_cons_zero]
  refine qw_want rfl ?_ (fun w' hw' => ?_) ?_
  rotate_left
  · obtain ⟨k0, k1⟩ := HFx.out w' hw'
    unfold Oper.quietAt
    go_simp
    exact rfl
  simp only [Act.put, List.setIfInBounds_toArray, List.set_cons_succ, List.set_cons_zero]
  refine qw_want rfl ?_ (fun w' hw' => ?_) ?_
  rotate_left
  · unfold Oper.quietAt
    go_simp
    exact rfl
  simp only [Act.put, List.setIfInBounds_toArray, List.set_cons_succ, List.set_cons_zero]
  refine qw_want rfl ?_ (fun w' hw' => ?_) ?_
  rotate_left
  · unfold Oper.quietAt
    go_simp
    exact rfl
  simp only [Act.put, List.setIfInBounds_toArray, List.set_cons_succ, List.set_cons_zero]
  refine qw_want rfl ?_ (fun w' hw' => ?_) ?_
  rotate_left
  · unfold Oper.quietAt
    go_simp
    exact rfl
  simp only [Act.put, List.setIfInBounds_toArray, List.set_cons_succ, List.set_cons_zero]
  refine qw_end (fun w5 hb5 => ?_)
  have HB5 := Lib.hid (HB0.out.trans (hb5.mono HB0.out.size))
  obtain ⟨z0, z1⟩ := HFx.out w5 hb5
  have HF5 := Lib.hid (fun W (hW : Below w5.heap.size w5 W) => HFx.out W (hb5.trans (hW.mono hb5.size)))
  clear hb5 y0
  clear hah hnh e1 e2 e3
  by_cases h1 : ah + nh > 2305843009213693953
  · have d1 : decide (ah + nh > 2305843009213693953) = true := decide_eq_true h1
    have d1' : decide (2305843009213693953 < ah + nh) = true := decide_eq_true h1
    clear h1
    go_wp2
    refine bodyPost_ret (v := .tuple #[.int .i64 0, .bool false]) (by simp [results, Tryz.results20, go_sem]) rfl ⟨0, false, rfl, fun e => (by cases e), ⟨by decide, by decide⟩, HB5.out⟩
  have d1 : decide (ah + nh > 2305843009213693953) = false := decide_eq_false h1
  have d1' : decide (2305843009213693953 < ah + nh) = false := decide_eq_false h1
  by_cases h2 : ah + nh < -2305843009213693953
  · have d2 : decide (ah + nh < -2305843009213693953) = true := decide_eq_true h2
    clear h1 h2
    go_wp2
    refine bodyPost_ret (v := .tuple #[.int .i64 0, .bool false]) (by simp [results, Tryz.results20, go_sem]) rfl ⟨0, false, rfl, fun e => (by cases e), ⟨by decide, by decide⟩, HB5.out⟩
  have d2 : decide (ah + nh < -2305843009213693953) = false := decide_eq_false h2
  have hsum : -4611686018427387910 ≤ a + num ∧ a + num ≤ 4611686018427387910 := by have := HU.out; omega
  have HSum := Lib.hid hsum
  have e4 : IntKind.i64.wrap (a + num) = a + num := by unfold IntKind.wrap; simp [IntKind.bits, IntKind.signed]; omega
  have e4' : wrap64 (a + num) = a + num := by unfold wrap64; omega
  obtain ⟨sm, hsm⟩ : ∃ z, a + num = z := ⟨_, rfl⟩
  have HSm := Lib.hid hsm
  rw [hsm] at e4 e4' HSum
  clear h1 h2 hsum
  go_upto_region 32 with fail
  refine wp_region_quiet (C := fun w' => Below w5.heap.size w5 w') (by kernel_rfl) (by kernel_rfl) (⟨rfl, rfl, rfl, Nat.le_refl _, fun _ _ => rfl⟩) ?_
  refine QW.lit ?_
  refine qw_want rfl ?_ (fun w' hw' => ?_) ?_
  rotate_left
  · unfold Oper.quietAt
    go_simp
    exact rfl
  simp only [Act.put, List.setIfInBounds_toArray, List.set_cons_succ, List.set_cons_zero]
  refine qw_want rfl ?_ (fun w' hw' => ?_) ?_
  rotate_left
  · unfold Oper.quietAt
    go_simp
    exact rfl
  simp only [Act.put, List.setIfInBounds_toArray, List.set_cons_succ, List.set_cons_zero]
  refine qw_want rfl ?_ (fun w' hw' => ?_) ?_
  rotate_left
  · obtain ⟨k0, k1⟩ := HF5.out w' hw'
    unfold Oper.quietAt
    go_simp
    exact rfl
  simp only [Act.put, List.setIfInBounds_toArray, List.set_cons_succ, List.set_cons_zero]
  refine qw_want rfl ?_ (fun w' hw' => ?_) ?_
  rotate_left
  · unfold Oper.quietAt
    go_simp
    exact rfl
  simp only [Act.put, List.setIfInBounds_toArray, List.set_cons_succ, List.set_cons_zero]
  refine qw_want rfl ?_ (fun w' hw' => ?_) ?_
  rotate_left
  · obtain ⟨k0, k1⟩ := HF5.out w' hw'
    unfold Oper.quietAt
    go_simp
    exact rfl
  simp only [Act.put, List.setIfInBounds_toArray, List.set_cons_succ, List.set_cons_zero]
  refine qw_want rfl ?_ (fun w' hw' => ?_) ?_
  rotate_left
  · unfold Oper.quietAt
    go_simp
    exact rfl
  simp only [Act.put, List.setIfInBounds_toArray, List.set_cons_succ, List.set_cons_zero]
  refine qw_want rfl ?_ (fun w' hw' => ?_) ?_
  rotate_left
  · unfold Oper.quietAt
    go_simp
    exact rfl
  simp only [Act.put, List.setIfInBounds_toArray, List.set_cons_succ, List.set_cons_zero]
  refine qw_want rfl ?_ (fun w' hw' => ?_) ?_
  rotate_left
  · unfold Oper.quietAt
    go_simp
    exact rfl
  simp only [Act.put, List.setIfInBounds_toArray, List.set_cons_succ, List.set_cons_zero]
  refine qw_want rfl ?_ (fun w' hw' => ?_) ?_
  rotate_left
  · obtain ⟨k0, k1⟩ := HF5.out w' hw'
    unfold Oper.quietAt
    go_simp
    exact rfl
  simp only [Act.put, List.setIfInBounds_toArray, List.set_cons_succ, List.set_cons_zero]
  refine qw_want rfl ?_ (fun w' hw' => ?_) ?_
  rotate_left
  · unfold Oper.quietAt
    go_simp
    exact rfl
  simp only [Act.put, List.setIfInBounds_toArray, List.set_cons_succ, List.set_cons_zero]
  refine qw_want rfl ?_ (fun w' hw' => ?_) ?_
  rotate_left
  · obtain ⟨k0, k1⟩ := HF5.out w' hw'
    unfold Oper.quietAt
    go_simp
    exact rfl
  simp only [Act.put, List.setIfInBounds_toArray, List.set_cons_succ, List.set_cons_zero]
  refine qw_want rfl ?_ (fun w' hw' => ?_) ?_
  rotate_left
  · unfold Oper.quietAt
    go_simp
    exact rfl
  simp only [Act.put, List.setIfInBounds_toArray, List.set_cons_succ, List.set_cons_zero]
  refine qw_want rfl (.bool (mayN sm)) (fun w' hw' => ?_) ?_
  · unfold Oper.quietAt
    go_simp
    refine (fits10_ok sm w').mono ?_
    rintro e w2 ⟨rfl, rfl⟩
    exact ⟨rfl, hw'⟩
  simp only [Act.put, List.setIfInBounds_toArray, List.set_cons_succ, List.set_cons_zero]
  refine qw_want rfl ?_ (fun w' hw' => ?_) ?_
  rotate_left
  · unfold Oper.quietAt
    go_simp
    exact rfl
  simp only [Act.put, List.setIfInBounds_toArray, List.set_cons_succ, List.set_cons_zero]
  refine qw_want rfl ?_ (fun w' hw' => ?_) ?_
  rotate_left
  · unfold Oper.quietAt
    go_simp
    exact rfl
  simp only [Act.put, List.setIfInBounds_toArray, List.set_cons_succ, List.set_cons_zero]
  refine qw_end (fun w5 hb5 => ?_)
  have HB6 := Lib.hid (HB5.out.trans (hb5.mono HB5.out.size))
  clear hb5
  go_wp2
  refine bodyPost_ret (v := .tuple #[.int .i64 sm, .bool (mayN sm)]) (by simp [results, Tryz.results20, go_sem]) rfl ⟨sm, mayN sm, rfl, fun e => ⟨HSm.out.symm, e⟩, ⟨by have := HSum.out; omega, by have := HSum.out; omega⟩, HB6.out⟩
end Go.Proofs.YtkapbdjobfbhhaaGreat

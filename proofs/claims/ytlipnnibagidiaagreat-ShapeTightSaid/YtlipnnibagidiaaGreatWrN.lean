/- shape.writer.write. -/
import Derived.Test.YtlipnnibagidiaaGreatWrM
import Derived.Laws.EntriesVeiled
namespace Go.Proofs.YtlipnnibagidiaaGreat
open Go.RowKit Go.Lib
set_option maxRecDepth 100000 in
set_option maxHeartbeats 2000000 in
theorem wwrite_1 {w : World} {r c k : Nat} {A : Option Addr} {T : List Nd} {ov : Value} {rows : List (Option Addr × Nat × List Int)} {bad : Bool} (h : WrS w r A T c k ov rows bad) (hk : k < T.length) (ho : (ndAt T k).op = 1) :
    Calls Tryz.prog 46 #[.pointer (some ⟨r, 0, none⟩)] w fun e w' => e = .returned (.tuple #[]) ∧ WrP r c k A T rows bad w w' [] := by
  have hrl := h.blk.lt
  have x0 : w.cell? ⟨r, 0, none⟩ = some (.slice A T.length c) := h.blk.cell 0
  have x1 : w.cell? ⟨r, 1, none⟩ = some (.int .i64 k) := h.blk.cell 1
  have t1 : (0 : Int) ≤ (k : Int) := by omega
  have t2 : (k : Int) < (T.length : Int) := by omega
  obtain ⟨bk, off, hA, hbb, hcell⟩ := h.tab.at_.resolve_left (by omega)
  have y0 := (hcell k hk).all.1
  rw [← ndAt_nat hk, ho] at y0
  subst hA
  have KK := Lib.hid (fun (W : World) (hW : Below w.heap.size w W) => wnone_ok (r := r) (W := W) (h.keep hW))
  clear hcell h hk ho
  go_enter Tryz.func46, Tryz.ntmps46
  go_upto_region 1 with (fail)
  have hbx := (Blk.new w 133 #[Value.func (.func 79) #[Value.pointer (some ⟨r, 0, none⟩)] #[], Value.nilFunc, Value.func (.func 80) #[Value.pointer (some ⟨r, 0, none⟩)] #[], Value.func (.func 81) #[Value.pointer (some ⟨r, 0, none⟩)] #[], Value.nilFunc, Value.nilFunc, Value.func (.func 82) #[Value.pointer (some ⟨r, 0, none⟩)] #[], Value.func (.func 83) #[Value.pointer (some ⟨r, 0, none⟩)] #[], Value.nilFunc, Value.nilFunc, Value.nilFunc, Value.nilFunc, Value.nilFunc, Value.nilFunc]).cell 1
  have hb0 : Below w.heap.size w (w.alloc (.cells #[Value.func (.func 79) #[Value.pointer (some ⟨r, 0, none⟩)] #[], Value.nilFunc, Value.func (.func 80) #[Value.pointer (some ⟨r, 0, none⟩)] #[], Value.func (.func 81) #[Value.pointer (some ⟨r, 0, none⟩)] #[], Value.nilFunc, Value.nilFunc, Value.func (.func 82) #[Value.pointer (some ⟨r, 0, none⟩)] #[], Value.func (.func 83) #[Value.pointer (some ⟨r, 0, none⟩)] #[], Value.nilFunc, Value.nilFunc, Value.nilFunc, Value.nilFunc, Value.nilFunc, Value.nilFunc] 133)) := (Below.refl _ w).alloc (Nat.le_refl _) _
  have z0 := (hb0.cell (p := ⟨r, 0, none⟩) hrl).trans x0
  have z1 := (hb0.cell (p := ⟨r, 1, none⟩) hrl).trans x1
  have z2 := (hb0.cell (p := ⟨bk, off + k * 8, none⟩) hbb).trans y0
  simp only [List.getElem?_toArray, List.getElem?_cons_zero, List.getElem?_cons_succ] at hbx
  generalize (w.alloc (.cells #[Value.func (.func 79) #[Value.pointer (some ⟨r, 0, none⟩)] #[], Value.nilFunc, Value.func (.func 80) #[Value.pointer (some ⟨r, 0, none⟩)] #[], Value.func (.func 81) #[Value.pointer (some ⟨r, 0, none⟩)] #[], Value.nilFunc, Value.nilFunc, Value.func (.func 82) #[Value.pointer (some ⟨r, 0, none⟩)] #[], Value.func (.func 83) #[Value.pointer (some ⟨r, 0, none⟩)] #[], Value.nilFunc, Value.nilFunc, Value.nilFunc, Value.nilFunc, Value.nilFunc, Value.nilFunc] 133)) = wx at *
  have HB := Lib.hid hb0
  have KK2 := Lib.hid (fun n => KK.out (wx.drewN n) (below_drewN HB.out n))
  clear hb0 x0 x1 y0
  go_quiet (fail)
  have hnf : ∀ w : World, (binOp .eql 1 .nilFunc .nilFunc).run Tryz.prog w = .ok (.bool true) w := fun _ => by kernel_rfl
  go_wp2_with fail
  refine (KK2.out _).mono ?_
  rintro e w2 ⟨rfl, hp⟩
  have HP := Lib.hid hp
  clear hp
  go_wp2
  refine bodyPost_end (results_none rfl _ _ _) rfl ⟨rfl, ?_⟩
  exact HP.out.from (below_drewN (HB.out.mono (Nat.le_of_lt hrl)) _)
set_option maxRecDepth 100000 in
set_option maxHeartbeats 2000000 in
theorem wwrite_10 {w : World} {r c k : Nat} {A : Option Addr} {T : List Nd} {ov : Value} {rows : List (Option Addr × Nat × List Int)} {bad : Bool} (h : WrS w r A T c k ov rows bad) (hk : k < T.length) (ho : (ndAt T k).op = 10) :
    Calls Tryz.prog 46 #[.pointer (some ⟨r, 0, none⟩)] w fun e w' => e = .returned (.tuple #[]) ∧ WrP r c k A T rows bad w w' [] := by
  have hrl := h.blk.lt
  have x0 : w.cell? ⟨r, 0, none⟩ = some (.slice A T.length c) := h.blk.cell 0
  have x1 : w.cell? ⟨r, 1, none⟩ = some (.int .i64 k) := h.blk.cell 1
  have t1 : (0 : Int) ≤ (k : Int) := by omega
  have t2 : (k : Int) < (T.length : Int) := by omega
  obtain ⟨bk, off, hA, hbb, hcell⟩ := h.tab.at_.resolve_left (by omega)
  have y0 := (hcell k hk).all.1
  rw [← ndAt_nat hk, ho] at y0
  subst hA
  have KK := Lib.hid (fun (W : World) (hW : Below w.heap.size w W) => wnone_ok (r := r) (W := W) (h.keep hW))
  clear hcell h hk ho
  go_enter Tryz.func46, Tryz.ntmps46
  go_upto_region 1 with (fail)
  have hbx := (Blk.new w 133 #[Value.func (.func 79) #[Value.pointer (some ⟨r, 0, none⟩)] #[], Value.nilFunc, Value.func (.func 80) #[Value.pointer (some ⟨r, 0, none⟩)] #[], Value.func (.func 81) #[Value.pointer (some ⟨r, 0, none⟩)] #[], Value.nilFunc, Value.nilFunc, Value.func (.func 82) #[Value.pointer (some ⟨r, 0, none⟩)] #[], Value.func (.func 83) #[Value.pointer (some ⟨r, 0, none⟩)] #[], Value.nilFunc, Value.nilFunc, Value.nilFunc, Value.nilFunc, Value.nilFunc, Value.nilFunc]).cell 10
  have hb0 : Below w.heap.size w (w.alloc (.cells #[Value.func (.func 79) #[Value.pointer (some ⟨r, 0, none⟩)] #[], Value.nilFunc, Value.func (.func 80) #[Value.pointer (some ⟨r, 0, none⟩)] #[], Value.func (.func 81) #[Value.pointer (some ⟨r, 0, none⟩)] #[], Value.nilFunc, Value.nilFunc, Value.func (.func 82) #[Value.pointer (some ⟨r, 0, none⟩)] #[], Value.func (.func 83) #[Value.pointer (some ⟨r, 0, none⟩)] #[], Value.nilFunc, Value.nilFunc, Value.nilFunc, Value.nilFunc, Value.nilFunc, Value.nilFunc] 133)) := (Below.refl _ w).alloc (Nat.le_refl _) _
  have z0 := (hb0.cell (p := ⟨r, 0, none⟩) hrl).trans x0
  have z1 := (hb0.cell (p := ⟨r, 1, none⟩) hrl).trans x1
  have z2 := (hb0.cell (p := ⟨bk, off + k * 8, none⟩) hbb).trans y0
  simp only [List.getElem?_toArray, List.getElem?_cons_zero, List.getElem?_cons_succ] at hbx
  generalize (w.alloc (.cells #[Value.func (.func 79) #[Value.pointer (some ⟨r, 0, none⟩)] #[], Value.nilFunc, Value.func (.func 80) #[Value.pointer (some ⟨r, 0, none⟩)] #[], Value.func (.func 81) #[Value.pointer (some ⟨r, 0, none⟩)] #[], Value.nilFunc, Value.nilFunc, Value.func (.func 82) #[Value.pointer (some ⟨r, 0, none⟩)] #[], Value.func (.func 83) #[Value.pointer (some ⟨r, 0, none⟩)] #[], Value.nilFunc, Value.nilFunc, Value.nilFunc, Value.nilFunc, Value.nilFunc, Value.nilFunc] 133)) = wx at *
  have HB := Lib.hid hb0
  have KK2 := Lib.hid (fun n => KK.out (wx.drewN n) (below_drewN HB.out n))
  clear hb0 x0 x1 y0
  go_quiet (fail)
  have hnf : ∀ w : World, (binOp .eql 1 .nilFunc .nilFunc).run Tryz.prog w = .ok (.bool true) w := fun _ => by kernel_rfl
  go_wp2_with fail
  refine (KK2.out _).mono ?_
  rintro e w2 ⟨rfl, hp⟩
  have HP := Lib.hid hp
  clear hp
  go_wp2
  refine bodyPost_end (results_none rfl _ _ _) rfl ⟨rfl, ?_⟩
  exact HP.out.from (below_drewN (HB.out.mono (Nat.le_of_lt hrl)) _)
set_option maxRecDepth 100000 in
set_option maxHeartbeats 2000000 in
theorem wwrite_11 {w : World} {r c k : Nat} {A : Option Addr} {T : List Nd} {ov : Value} {rows : List (Option Addr × Nat × List Int)} {bad : Bool} (h : WrS w r A T c k ov rows bad) (hk : k < T.length) (ho : (ndAt T k).op = 11) :
    Calls Tryz.prog 46 #[.pointer (some ⟨r, 0, none⟩)] w fun e w' => e = .returned (.tuple #[]) ∧ WrP r c k A T rows bad w w' [] := by
  have hrl := h.blk.lt
  have x0 : w.cell? ⟨r, 0, none⟩ = some (.slice A T.length c) := h.blk.cell 0
  have x1 : w.cell? ⟨r, 1, none⟩ = some (.int .i64 k) := h.blk.cell 1
  have t1 : (0 : Int) ≤ (k : Int) := by omega
  have t2 : (k : Int) < (T.length : Int) := by omega
  obtain ⟨bk, off, hA, hbb, hcell⟩ := h.tab.at_.resolve_left (by omega)
  have y0 := (hcell k hk).all.1
  rw [← ndAt_nat hk, ho] at y0
  subst hA
  have KK := Lib.hid (fun (W : World) (hW : Below w.heap.size w W) => wnone_ok (r := r) (W := W) (h.keep hW))
  clear hcell h hk ho
  go_enter Tryz.func46, Tryz.ntmps46
  go_upto_region 1 with (fail)
  have hbx := (Blk.new w 133 #[Value.func (.func 79) #[Value.pointer (some ⟨r, 0, none⟩)] #[], Value.nilFunc, Value.func (.func 80) #[Value.pointer (some ⟨r, 0, none⟩)] #[], Value.func (.func 81) #[Value.pointer (some ⟨r, 0, none⟩)] #[], Value.nilFunc, Value.nilFunc, Value.func (.func 82) #[Value.pointer (some ⟨r, 0, none⟩)] #[], Value.func (.func 83) #[Value.pointer (some ⟨r, 0, none⟩)] #[], Value.nilFunc, Value.nilFunc, Value.nilFunc, Value.nilFunc, Value.nilFunc, Value.nilFunc]).cell 11
  have hb0 : Below w.heap.size w (w.alloc (.cells #[Value.func (.func 79) #[Value.pointer (some ⟨r, 0, none⟩)] #[], Value.nilFunc, Value.func (.func 80) #[Value.pointer (some ⟨r, 0, none⟩)] #[], Value.func (.func 81) #[Value.pointer (some ⟨r, 0, none⟩)] #[], Value.nilFunc, Value.nilFunc, Value.func (.func 82) #[Value.pointer (some ⟨r, 0, none⟩)] #[], Value.func (.func 83) #[Value.pointer (some ⟨r, 0, none⟩)] #[], Value.nilFunc, Value.nilFunc, Value.nilFunc, Value.nilFunc, Value.nilFunc, Value.nilFunc] 133)) := (Below.refl _ w).alloc (Nat.le_refl _) _
  have z0 := (hb0.cell (p := ⟨r, 0, none⟩) hrl).trans x0
  have z1 := (hb0.cell (p := ⟨r, 1, none⟩) hrl).trans x1
  have z2 := (hb0.cell (p := ⟨bk, off + k * 8, none⟩) hbb).trans y0
  simp only [List.getElem?_toArray, List.getElem?_cons_zero, List.getElem?_cons_succ] at hbx
  generalize (w.alloc (.cells #[Value.func (.func 79) #[Value.pointer (some ⟨r, 0, none⟩)] #[], Value.nilFunc, Value.func (.func 80) #[Value.pointer (some ⟨r, 0, none⟩)] #[], Value.func (.func 81) #[Value.pointer (some ⟨r, 0, none⟩)] #[], Value.nilFunc, Value.nilFunc, Value.func (.func 82) #[Value.pointer (some ⟨r, 0, none⟩)] #[], Value.func (.func 83) #[Value.pointer (some ⟨r, 0, none⟩)] #[], Value.nilFunc, Value.nilFunc, Value.nilFunc, Value.nilFunc, Value.nilFunc, Value.nilFunc] 133)) = wx at *
  have HB := Lib.hid hb0
  have KK2 := Lib.hid (fun n => KK.out (wx.drewN n) (below_drewN HB.out n))
  clear hb0 x0 x1 y0
  go_quiet (fail)
  have hnf : ∀ w : World, (binOp .eql 1 .nilFunc .nilFunc).run Tryz.prog w = .ok (.bool true) w := fun _ => by kernel_rfl
  go_wp2_with fail
  refine (KK2.out _).mono ?_
  rintro e w2 ⟨rfl, hp⟩
  have HP := Lib.hid hp
  clear hp
  go_wp2
  refine bodyPost_end (results_none rfl _ _ _) rfl ⟨rfl, ?_⟩
  exact HP.out.from (below_drewN (HB.out.mono (Nat.le_of_lt hrl)) _)
set_option maxRecDepth 100000 in
set_option maxHeartbeats 2000000 in
theorem wwrite_12 {w : World} {r c k : Nat} {A : Option Addr} {T : List Nd} {ov : Value} {rows : List (Option Addr × Nat × List Int)} {bad : Bool} (h : WrS w r A T c k ov rows bad) (hk : k < T.length) (ho : (ndAt T k).op = 12) :
    Calls Tryz.prog 46 #[.pointer (some ⟨r, 0, none⟩)] w fun e w' => e = .returned (.tuple #[]) ∧ WrP r c k A T rows bad w w' [] := by
  have hrl := h.blk.lt
  have x0 : w.cell? ⟨r, 0, none⟩ = some (.slice A T.length c) := h.blk.cell 0
  have x1 : w.cell? ⟨r, 1, none⟩ = some (.int .i64 k) := h.blk.cell 1
  have t1 : (0 : Int) ≤ (k : Int) := by omega
  have t2 : (k : Int) < (T.length : Int) := by omega
  obtain ⟨bk, off, hA, hbb, hcell⟩ := h.tab.at_.resolve_left (by omega)
  have y0 := (hcell k hk).all.1
  rw [← ndAt_nat hk, ho] at y0
  subst hA
  have KK := Lib.hid (fun (W : World) (hW : Below w.heap.size w W) => wnone_ok (r := r) (W := W) (h.keep hW))
  clear hcell h hk ho
  go_enter Tryz.func46, Tryz.ntmps46
  go_upto_region 1 with (fail)
  have hbx := (Blk.new w 133 #[Value.func (.func 79) #[Value.pointer (some ⟨r, 0, none⟩)] #[], Value.nilFunc, Value.func (.func 80) #[Value.pointer (some ⟨r, 0, none⟩)] #[], Value.func (.func 81) #[Value.pointer (some ⟨r, 0, none⟩)] #[], Value.nilFunc, Value.nilFunc, Value.func (.func 82) #[Value.pointer (some ⟨r, 0, none⟩)] #[], Value.func (.func 83) #[Value.pointer (some ⟨r, 0, none⟩)] #[], Value.nilFunc, Value.nilFunc, Value.nilFunc, Value.nilFunc, Value.nilFunc, Value.nilFunc]).cell 12
  have hb0 : Below w.heap.size w (w.alloc (.cells #[Value.func (.func 79) #[Value.pointer (some ⟨r, 0, none⟩)] #[], Value.nilFunc, Value.func (.func 80) #[Value.pointer (some ⟨r, 0, none⟩)] #[], Value.func (.func 81) #[Value.pointer (some ⟨r, 0, none⟩)] #[], Value.nilFunc, Value.nilFunc, Value.func (.func 82) #[Value.pointer (some ⟨r, 0, none⟩)] #[], Value.func (.func 83) #[Value.pointer (some ⟨r, 0, none⟩)] #[], Value.nilFunc, Value.nilFunc, Value.nilFunc, Value.nilFunc, Value.nilFunc, Value.nilFunc] 133)) := (Below.refl _ w).alloc (Nat.le_refl _) _
  have z0 := (hb0.cell (p := ⟨r, 0, none⟩) hrl).trans x0
  have z1 := (hb0.cell (p := ⟨r, 1, none⟩) hrl).trans x1
  have z2 := (hb0.cell (p := ⟨bk, off + k * 8, none⟩) hbb).trans y0
  simp only [List.getElem?_toArray, List.getElem?_cons_zero, List.getElem?_cons_succ] at hbx
  generalize (w.alloc (.cells #[Value.func (.func 79) #[Value.pointer (some ⟨r, 0, none⟩)] #[], Value.nilFunc, Value.func (.func 80) #[Value.pointer (some ⟨r, 0, none⟩)] #[], Value.func (.func 81) #[Value.pointer (some ⟨r, 0, none⟩)] #[], Value.nilFunc, Value.nilFunc, Value.func (.func 82) #[Value.pointer (some ⟨r, 0, none⟩)] #[], Value.func (.func 83) #[Value.pointer (some ⟨r, 0, none⟩)] #[], Value.nilFunc, Value.nilFunc, Value.nilFunc, Value.nilFunc, Value.nilFunc, Value.nilFunc] 133)) = wx at *
  have HB := Lib.hid hb0
  have KK2 := Lib.hid (fun n => KK.out (wx.drewN n) (below_drewN HB.out n))
  clear hb0 x0 x1 y0
  go_quiet (fail)
  have hnf : ∀ w : World, (binOp .eql 1 .nilFunc .nilFunc).run Tryz.prog w = .ok (.bool true) w := fun _ => by kernel_rfl
  go_wp2_with fail
  refine (KK2.out _).mono ?_
  rintro e w2 ⟨rfl, hp⟩
  have HP := Lib.hid hp
  clear hp
  go_wp2
  refine bodyPost_end (results_none rfl _ _ _) rfl ⟨rfl, ?_⟩
  exact HP.out.from (below_drewN (HB.out.mono (Nat.le_of_lt hrl)) _)
set_option maxRecDepth 100000 in
set_option maxHeartbeats 2000000 in
theorem wwrite_13 {w : World} {r c k : Nat} {A : Option Addr} {T : List Nd} {ov : Value} {rows : List (Option Addr × Nat × List Int)} {bad : Bool} (h : WrS w r A T c k ov rows bad) (hk : k < T.length) (ho : (ndAt T k).op = 13) :
    Calls Tryz.prog 46 #[.pointer (some ⟨r, 0, none⟩)] w fun e w' => e = .returned (.tuple #[]) ∧ WrP r c k A T rows bad w w' [] := by
  have hrl := h.blk.lt
  have x0 : w.cell? ⟨r, 0, none⟩ = some (.slice A T.length c) := h.blk.cell 0
  have x1 : w.cell? ⟨r, 1, none⟩ = some (.int .i64 k) := h.blk.cell 1
  have t1 : (0 : Int) ≤ (k : Int) := by omega
  have t2 : (k : Int) < (T.length : Int) := by omega
  obtain ⟨bk, off, hA, hbb, hcell⟩ := h.tab.at_.resolve_left (by omega)
  have y0 := (hcell k hk).all.1
  rw [← ndAt_nat hk, ho] at y0
  subst hA
  have KK := Lib.hid (fun (W : World) (hW : Below w.heap.size w W) => wnone_ok (r := r) (W := W) (h.keep hW))
  clear hcell h hk ho
  go_enter Tryz.func46, Tryz.ntmps46
  go_upto_region 1 with (fail)
  have hbx := (Blk.new w 133 #[Value.func (.func 79) #[Value.pointer (some ⟨r, 0, none⟩)] #[], Value.nilFunc, Value.func (.func 80) #[Value.pointer (some ⟨r, 0, none⟩)] #[], Value.func (.func 81) #[Value.pointer (some ⟨r, 0, none⟩)] #[], Value.nilFunc, Value.nilFunc, Value.func (.func 82) #[Value.pointer (some ⟨r, 0, none⟩)] #[], Value.func (.func 83) #[Value.pointer (some ⟨r, 0, none⟩)] #[], Value.nilFunc, Value.nilFunc, Value.nilFunc, Value.nilFunc, Value.nilFunc, Value.nilFunc]).cell 13
  have hb0 : Below w.heap.size w (w.alloc (.cells #[Value.func (.func 79) #[Value.pointer (some ⟨r, 0, none⟩)] #[], Value.nilFunc, Value.func (.func 80) #[Value.pointer (some ⟨r, 0, none⟩)] #[], Value.func (.func 81) #[Value.pointer (some ⟨r, 0, none⟩)] #[], Value.nilFunc, Value.nilFunc, Value.func (.func 82) #[Value.pointer (some ⟨r, 0, none⟩)] #[], Value.func (.func 83) #[Value.pointer (some ⟨r, 0, none⟩)] #[], Value.nilFunc, Value.nilFunc, Value.nilFunc, Value.nilFunc, Value.nilFunc, Value.nilFunc] 133)) := (Below.refl _ w).alloc (Nat.le_refl _) _
  have z0 := (hb0.cell (p := ⟨r, 0, none⟩) hrl).trans x0
  have z1 := (hb0.cell (p := ⟨r, 1, none⟩) hrl).trans x1
  have z2 := (hb0.cell (p := ⟨bk, off + k * 8, none⟩) hbb).trans y0
  simp only [List.getElem?_toArray, List.getElem?_cons_zero, List.getElem?_cons_succ] at hbx
  generalize (w.alloc (.cells #[Value.func (.func 79) #[Value.pointer (some ⟨r, 0, none⟩)] #[], Value.nilFunc, Value.func (.func 80) #[Value.pointer (some ⟨r, 0, none⟩)] #[], Value.func (.func 81) #[Value.pointer (some ⟨r, 0, none⟩)] #[], Value.nilFunc, Value.nilFunc, Value.func (.func 82) #[Value.pointer (some ⟨r, 0, none⟩)] #[], Value.func (.func 83) #[Value.pointer (some ⟨r, 0, none⟩)] #[], Value.nilFunc, Value.nilFunc, Value.nilFunc, Value.nilFunc, Value.nilFunc, Value.nilFunc] 133)) = wx at *
  have HB := Lib.hid hb0
  have KK2 := Lib.hid (fun n => KK.out (wx.drewN n) (below_drewN HB.out n))
  clear hb0 x0 x1 y0
  go_quiet (fail)
  have hnf : ∀ w : World, (binOp .eql 1 .nilFunc .nilFunc).run Tryz.prog w = .ok (.bool true) w := fun _ => by kernel_rfl
  go_wp2_with fail
  refine (KK2.out _).mono ?_
  rintro e w2 ⟨rfl, hp⟩
  have HP := Lib.hid hp
  clear hp
  go_wp2
  refine bodyPost_end (results_none rfl _ _ _) rfl ⟨rfl, ?_⟩
  exact HP.out.from (below_drewN (HB.out.mono (Nat.le_of_lt hrl)) _)
end Go.Proofs.YtlipnnibagidiaaGreat

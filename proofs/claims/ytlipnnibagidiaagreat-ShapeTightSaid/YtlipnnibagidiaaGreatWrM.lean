/- shape.writer.write. -/
import Derived.Test.YtlipnnibagidiaaGreatWrL
import Derived.Laws.EntriesVeiled
namespace Go.Proofs.YtlipnnibagidiaaGreat
open Go.RowKit Go.Lib
theorem WrP.from {r c k : Nat} {A : Option Addr} {T : List Nd} {rows : List (Option Addr × Nat × List Int)} {bad : Bool} {w w1 w2 : World} {cs : List (List Int)} (h : WrP r c k A T rows bad w1 w2 cs) (hb : Below r w w1) : WrP r c k A T rows bad w w2 cs := by
  obtain ⟨ov, ps, hw, hp, hb2⟩ := h
  exact ⟨ov, ps, hw, hp, hb.trans hb2⟩
set_option maxRecDepth 100000 in
theorem wnone_ok {W : World} {r c k : Nat} {A : Option Addr} {T : List Nd} {ov : Value} {rows : List (Option Addr × Nat × List Int)} {bad : Bool} (h : WrS W r A T c k ov rows bad) : Calls Tryz.prog 84 #[.pointer (some ⟨r, 0, none⟩)] W fun e w' => e = .returned (.tuple #[]) ∧ WrP r c k A T rows bad W w' [] := by
  have HP := Lib.hid (WrP.start h (Below.refl r W))
  clear h
  go_enter Tryz.func84, Tryz.ntmps84
  go_wp2
  exact bodyPost_end (results_none rfl _ _ _) rfl ⟨rfl, HP.out⟩
set_option maxRecDepth 100000 in
set_option maxHeartbeats 2000000 in
theorem wwrite_0 {w : World} {r c k : Nat} {A : Option Addr} {T : List Nd} {ov : Value} {rows : List (Option Addr × Nat × List Int)} {bad : Bool} (h : WrS w r A T c k ov rows bad) (hk : k < T.length) (ho : (ndAt T k).op = 0) {cs : List (List Int)} (hK : ∀ (W : World) (ov : Value), WrS W r A T c k ov rows bad → Calls Tryz.prog 79 #[.pointer (some ⟨r, 0, none⟩)] W fun e w' => e = .returned (.tuple #[]) ∧ WrP r c k A T rows bad W w' cs) :
    Calls Tryz.prog 46 #[.pointer (some ⟨r, 0, none⟩)] w fun e w' => e = .returned (.tuple #[]) ∧ WrP r c k A T rows bad w w' cs := by
  have hrl := h.blk.lt
  have x0 : w.cell? ⟨r, 0, none⟩ = some (.slice A T.length c) := h.blk.cell 0
  have x1 : w.cell? ⟨r, 1, none⟩ = some (.int .i64 k) := h.blk.cell 1
  have t1 : (0 : Int) ≤ (k : Int) := by omega
  have t2 : (k : Int) < (T.length : Int) := by omega
  obtain ⟨bk, off, hA, hbb, hcell⟩ := h.tab.at_.resolve_left (by omega)
  have y0 := (hcell k hk).all.1
  rw [← ndAt_nat hk, ho] at y0
  subst hA
  have KK := Lib.hid (fun (W : World) (hW : Below w.heap.size w W) => hK W ov (h.keep hW))
  clear hcell h hk ho hK
  go_enter Tryz.func46, Tryz.ntmps46
  go_upto_region 1 with (fail)
  have hbx := (Blk.new w 133 #[Value.func (.func 79) #[Value.pointer (some ⟨r, 0, none⟩)] #[], Value.nilFunc, Value.func (.func 80) #[Value.pointer (some ⟨r, 0, none⟩)] #[], Value.func (.func 81) #[Value.pointer (some ⟨r, 0, none⟩)] #[], Value.nilFunc, Value.nilFunc, Value.func (.func 82) #[Value.pointer (some ⟨r, 0, none⟩)] #[], Value.func (.func 83) #[Value.pointer (some ⟨r, 0, none⟩)] #[], Value.nilFunc, Value.nilFunc, Value.nilFunc, Value.nilFunc, Value.nilFunc, Value.nilFunc]).cell 0
  have hb0 : Below w.heap.size w (w.alloc (.cells #[Value.func (.func 79) #[Value.pointer (some ⟨r, 0, none⟩)] #[], Value.nilFunc, Value.func (.func 80) #[Value.pointer (some ⟨r, 0, none⟩)] #[], Value.func (.func 81) #[Value.pointer (some ⟨r, 0, none⟩)] #[], Value.nilFunc, Value.nilFunc, Value.func (.func 82) #[Value.pointer (some ⟨r, 0, none⟩)] #[], Value.func (.func 83) #[Value.pointer (some ⟨r, 0, none⟩)] #[], Value.nilFunc, Value.nilFunc, Value.nilFunc, Value.nilFunc, Value.nilFunc, Value.nilFunc] 133)) := (Below.refl _ w).alloc (Nat.le_refl _) _
  have z0 := (hb0.cell (p := ⟨r, 0, none⟩) hrl).trans x0
  have z1 := (hb0.cell (p := ⟨r, 1, none⟩) hrl).trans x1
  have z2 := (hb0.cell (p := ⟨bk, off + k * 8, none⟩) hbb).trans y0
  simp only [List.getElem?_toArray, List.getElem?_cons_zero] at hbx
  generalize (w.alloc (.cells #[Value.func (.func 79) #[Value.pointer (some ⟨r, 0, none⟩)] #[], Value.nilFunc, Value.func (.func 80) #[Value.pointer (some ⟨r, 0, none⟩)] #[], Value.func (.func 81) #[Value.pointer (some ⟨r, 0, none⟩)] #[], Value.nilFunc, Value.nilFunc, Value.func (.func 82) #[Value.pointer (some ⟨r, 0, none⟩)] #[], Value.func (.func 83) #[Value.pointer (some ⟨r, 0, none⟩)] #[], Value.nilFunc, Value.nilFunc, Value.nilFunc, Value.nilFunc, Value.nilFunc, Value.nilFunc] 133)) = wx at *
  have HB := Lib.hid hb0
  have KK2 := Lib.hid (fun n => KK.out (wx.drewN n) (below_drewN HB.out n))
  clear hb0 x0 x1 y0
  go_quiet (fail)
  have hnf : ∀ w : World, (binOp .eql 1 (.func (.func 79) #[Value.pointer (some ⟨r, 0, none⟩)] #[]) .nilFunc).run Tryz.prog w = .ok (.bool false) w := fun _ => by kernel_rfl
  go_wp2_with fail
  refine (KK2.out _).mono ?_
  rintro e w2 ⟨rfl, hp⟩
  have HP := Lib.hid hp
  clear hp
  go_wp2
  refine bodyPost_end (results_none rfl _ _ _) rfl ⟨rfl, ?_⟩
  exact HP.out.from (below_drewN (HB.out.mono (Nat.le_of_lt hrl)) _)
set_option maxRecDepth 100000 in
set_option maxHeartbeats 2000000 in
theorem wwrite_2 {w : World} {r c k : Nat} {A : Option Addr} {T : List Nd} {ov : Value} {rows : List (Option Addr × Nat × List Int)} {bad : Bool} (h : WrS w r A T c k ov rows bad) (hk : k < T.length) (ho : (ndAt T k).op = 2) {cs : List (List Int)} (hK : ∀ (W : World) (ov : Value), WrS W r A T c k ov rows bad → Calls Tryz.prog 80 #[.pointer (some ⟨r, 0, none⟩)] W fun e w' => e = .returned (.tuple #[]) ∧ WrP r c k A T rows bad W w' cs) :
    Calls Tryz.prog 46 #[.pointer (some ⟨r, 0, none⟩)] w fun e w' => e = .returned (.tuple #[]) ∧ WrP r c k A T rows bad w w' cs := by
  have hrl := h.blk.lt
  have x0 : w.cell? ⟨r, 0, none⟩ = some (.slice A T.length c) := h.blk.cell 0
  have x1 : w.cell? ⟨r, 1, none⟩ = some (.int .i64 k) := h.blk.cell 1
  have t1 : (0 : Int) ≤ (k : Int) := by omega
  have t2 : (k : Int) < (T.length : Int) := by omega
  obtain ⟨bk, off, hA, hbb, hcell⟩ := h.tab.at_.resolve_left (by omega)
  have y0 := (hcell k hk).all.1
  rw [← ndAt_nat hk, ho] at y0
  subst hA
  have KK := Lib.hid (fun (W : World) (hW : Below w.heap.size w W) => hK W ov (h.keep hW))
  clear hcell h hk ho hK
  go_enter Tryz.func46, Tryz.ntmps46
  go_upto_region 1 with (fail)
  have hbx := (Blk.new w 133 #[Value.func (.func 79) #[Value.pointer (some ⟨r, 0, none⟩)] #[], Value.nilFunc, Value.func (.func 80) #[Value.pointer (some ⟨r, 0, none⟩)] #[], Value.func (.func 81) #[Value.pointer (some ⟨r, 0, none⟩)] #[], Value.nilFunc, Value.nilFunc, Value.func (.func 82) #[Value.pointer (some ⟨r, 0, none⟩)] #[], Value.func (.func 83) #[Value.pointer (some ⟨r, 0, none⟩)] #[], Value.nilFunc, Value.nilFunc, Value.nilFunc, Value.nilFunc, Value.nilFunc, Value.nilFunc]).cell 2
  have hb0 : Below w.heap.size w (w.alloc (.cells #[Value.func (.func 79) #[Value.pointer (some ⟨r, 0, none⟩)] #[], Value.nilFunc, Value.func (.func 80) #[Value.pointer (some ⟨r, 0, none⟩)] #[], Value.func (.func 81) #[Value.pointer (some ⟨r, 0, none⟩)] #[], Value.nilFunc, Value.nilFunc, Value.func (.func 82) #[Value.pointer (some ⟨r, 0, none⟩)] #[], Value.func (.func 83) #[Value.pointer (some ⟨r, 0, none⟩)] #[], Value.nilFunc, Value.nilFunc, Value.nilFunc, Value.nilFunc, Value.nilFunc, Value.nilFunc] 133)) := (Below.refl _ w).alloc (Nat.le_refl _) _
  have z0 := (hb0.cell (p := ⟨r, 0, none⟩) hrl).trans x0
  have z1 := (hb0.cell (p := ⟨r, 1, none⟩) hrl).trans x1
  have z2 := (hb0.cell (p := ⟨bk, off + k * 8, none⟩) hbb).trans y0
  simp only [List.getElem?_toArray, List.getElem?_cons_zero, List.getElem?_cons_succ] at hbx
  generalize (w.alloc (.cells #[Value.func (.func 79) #[Value.pointer (some ⟨r, 0, none⟩)] #[], Value.nilFunc, Value.func (.func 80) #[Value.pointer (some ⟨r, 0, none⟩)] #[], Value.func (.func 81) #[Value.pointer (some ⟨r, 0, none⟩)] #[], Value.nilFunc, Value.nilFunc, Value.func (.func 82) #[Value.pointer (some ⟨r, 0, none⟩)] #[], Value.func (.func 83) #[Value.pointer (some ⟨r, 0, none⟩)] #[], Value.nilFunc, Value.nilFunc, Value.nilFunc, Value.nilFunc, Value.nilFunc, Value.nilFunc] 133)) = wx at *
  have HB := Lib.hid hb0
  have KK2 := Lib.hid (fun n => KK.out (wx.drewN n) (below_drewN HB.out n))
  clear hb0 x0 x1 y0
  go_quiet (fail)
  have hnf : ∀ w : World, (binOp .eql 1 (.func (.func 80) #[Value.pointer (some ⟨r, 0, none⟩)] #[]) .nilFunc).run Tryz.prog w = .ok (.bool false) w := fun _ => by kernel_rfl
  go_wp2_with fail
  refine (KK2.out _).mono ?_
  rintro e w2 ⟨rfl, hp⟩
  have HP := Lib.hid hp
  clear hp
  go_wp2
  refine bodyPost_end (results_none rfl _ _ _) rfl ⟨rfl, ?_⟩
  exact HP.out.from (below_drewN (HB.out.mono (Nat.le_of_lt hrl)) _)
set_option maxRecDepth 100000 in
set_option maxHeartbeats 2000000 in
theorem wwrite_3 {w : World} {r c k : Nat} {A : Option Addr} {T : List Nd} {ov : Value} {rows : List (Option Addr × Nat × List Int)} {bad : Bool} (h : WrS w r A T c k ov rows bad) (hk : k < T.length) (ho : (ndAt T k).op = 3) {cs : List (List Int)} (hK : ∀ (W : World) (ov : Value), WrS W r A T c k ov rows bad → Calls Tryz.prog 81 #[.pointer (some ⟨r, 0, none⟩)] W fun e w' => e = .returned (.tuple #[]) ∧ WrP r c k A T rows bad W w' cs) :
    Calls Tryz.prog 46 #[.pointer (some ⟨r, 0, none⟩)] w fun e w' => e = .returned (.tuple #[]) ∧ WrP r c k A T rows bad w w' cs := by
  have hrl := h.blk.lt
  have x0 : w.cell? ⟨r, 0, none⟩ = some (.slice A T.length c) := h.blk.cell 0
  have x1 : w.cell? ⟨r, 1, none⟩ = some (.int .i64 k) := h.blk.cell 1
  have t1 : (0 : Int) ≤ (k : Int) := by omega
  have t2 : (k : Int) < (T.length : Int) := by omega
  obtain ⟨bk, off, hA, hbb, hcell⟩ := h.tab.at_.resolve_left (by omega)
  have y0 := (hcell k hk).all.1
  rw [← ndAt_nat hk, ho] at y0
  subst hA
  have KK := Lib.hid (fun (W : World) (hW : Below w.heap.size w W) => hK W ov (h.keep hW))
  clear hcell h hk ho hK
  go_enter Tryz.func46, Tryz.ntmps46
  go_upto_region 1 with (fail)
  have hbx := (Blk.new w 133 #[Value.func (.func 79) #[Value.pointer (some ⟨r, 0, none⟩)] #[], Value.nilFunc, Value.func (.func 80) #[Value.pointer (some ⟨r, 0, none⟩)] #[], Value.func (.func 81) #[Value.pointer (some ⟨r, 0, none⟩)] #[], Value.nilFunc, Value.nilFunc, Value.func (.func 82) #[Value.pointer (some ⟨r, 0, none⟩)] #[], Value.func (.func 83) #[Value.pointer (some ⟨r, 0, none⟩)] #[], Value.nilFunc, Value.nilFunc, Value.nilFunc, Value.nilFunc, Value.nilFunc, Value.nilFunc]).cell 3
  have hb0 : Below w.heap.size w (w.alloc (.cells #[Value.func (.func 79) #[Value.pointer (some ⟨r, 0, none⟩)] #[], Value.nilFunc, Value.func (.func 80) #[Value.pointer (some ⟨r, 0, none⟩)] #[], Value.func (.func 81) #[Value.pointer (some ⟨r, 0, none⟩)] #[], Value.nilFunc, Value.nilFunc, Value.func (.func 82) #[Value.pointer (some ⟨r, 0, none⟩)] #[], Value.func (.func 83) #[Value.pointer (some ⟨r, 0, none⟩)] #[], Value.nilFunc, Value.nilFunc, Value.nilFunc, Value.nilFunc, Value.nilFunc, Value.nilFunc] 133)) := (Below.refl _ w).alloc (Nat.le_refl _) _
  have z0 := (hb0.cell (p := ⟨r, 0, none⟩) hrl).trans x0
  have z1 := (hb0.cell (p := ⟨r, 1, none⟩) hrl).trans x1
  have z2 := (hb0.cell (p := ⟨bk, off + k * 8, none⟩) hbb).trans y0
  simp only [List.getElem?_toArray, List.getElem?_cons_zero, List.getElem?_cons_succ] at hbx
  generalize (w.alloc (.cells #[Value.func (.func 79) #[Value.pointer (some ⟨r, 0, none⟩)] #[], Value.nilFunc, Value.func (.func 80) #[Value.pointer (some ⟨r, 0, none⟩)] #[], Value.func (.func 81) #[Value.pointer (some ⟨r, 0, none⟩)] #[], Value.nilFunc, Value.nilFunc, Value.func (.func 82) #[Value.pointer (some ⟨r, 0, none⟩)] #[], Value.func (.func 83) #[Value.pointer (some ⟨r, 0, none⟩)] #[], Value.nilFunc, Value.nilFunc, Value.nilFunc, Value.nilFunc, Value.nilFunc, Value.nilFunc] 133)) = wx at *
  have HB := Lib.hid hb0
  have KK2 := Lib.hid (fun n => KK.out (wx.drewN n) (below_drewN HB.out n))
  clear hb0 x0 x1 y0
  go_quiet (fail)
  have hnf : ∀ w : World, (binOp .eql 1 (.func (.func 81) #[Value.pointer (some ⟨r, 0, none⟩)] #[]) .nilFunc).run Tryz.prog w = .ok (.bool false) w := fun _ => by kernel_rfl
  go_wp2_with fail
  refine (KK2.out _).mono ?_
  rintro e w2 ⟨rfl, hp⟩
  have HP := Lib.hid hp
  clear hp
  go_wp2
  refine bodyPost_end (results_none rfl _ _ _) rfl ⟨rfl, ?_⟩
  exact HP.out.from (below_drewN (HB.out.mono (Nat.le_of_lt hrl)) _)
set_option maxRecDepth 100000 in
set_option maxHeartbeats 2000000 in
theorem wwrite_6 {w : World} {r c k : Nat} {A : Option Addr} {T : List Nd} {ov : Value} {rows : List (Option Addr × Nat × List Int)} {bad : Bool} (h : WrS w r A T c k ov rows bad) (hk : k < T.length) (ho : (ndAt T k).op = 6) {cs : List (List Int)} (hK : ∀ (W : World) (ov : Value), WrS W r A T c k ov rows bad → Calls Tryz.prog 82 #[.pointer (some ⟨r, 0, none⟩)] W fun e w' => e = .returned (.tuple #[]) ∧ WrP r c k A T rows bad W w' cs) :
    Calls Tryz.prog 46 #[.pointer (some ⟨r, 0, none⟩)] w fun e w' => e = .returned (.tuple #[]) ∧ WrP r c k A T rows bad w w' cs := by
  have hrl := h.blk.lt
  have x0 : w.cell? ⟨r, 0, none⟩ = some (.slice A T.length c) := h.blk.cell 0
  have x1 : w.cell? ⟨r, 1, none⟩ = some (.int .i64 k) := h.blk.cell 1
  have t1 : (0 : Int) ≤ (k : Int) := by omega
  have t2 : (k : Int) < (T.length : Int) := by omega
  obtain ⟨bk, off, hA, hbb, hcell⟩ := h.tab.at_.resolve_left (by omega)
  have y0 := (hcell k hk).all.1
  rw [← ndAt_nat hk, ho] at y0
  subst hA
  have KK := Lib.hid (fun (W : World) (hW : Below w.heap.size w W) => hK W ov (h.keep hW))
  clear hcell h hk ho hK
  go_enter Tryz.func46, Tryz.ntmps46
  go_upto_region 1 with (fail)
  have hbx := (Blk.new w 133 #[Value.func (.func 79) #[Value.pointer (some ⟨r, 0, none⟩)] #[], Value.nilFunc, Value.func (.func 80) #[Value.pointer (some ⟨r, 0, none⟩)] #[], Value.func (.func 81) #[Value.pointer (some ⟨r, 0, none⟩)] #[], Value.nilFunc, Value.nilFunc, Value.func (.func 82) #[Value.pointer (some ⟨r, 0, none⟩)] #[], Value.func (.func 83) #[Value.pointer (some ⟨r, 0, none⟩)] #[], Value.nilFunc, Value.nilFunc, Value.nilFunc, Value.nilFunc, Value.nilFunc, Value.nilFunc]).cell 6
  have hb0 : Below w.heap.size w (w.alloc (.cells #[Value.func (.func 79) #[Value.pointer (some ⟨r, 0, none⟩)] #[], Value.nilFunc, Value.func (.func 80) #[Value.pointer (some ⟨r, 0, none⟩)] #[], Value.func (.func 81) #[Value.pointer (some ⟨r, 0, none⟩)] #[], Value.nilFunc, Value.nilFunc, Value.func (.func 82) #[Value.pointer (some ⟨r, 0, none⟩)] #[], Value.func (.func 83) #[Value.pointer (some ⟨r, 0, none⟩)] #[], Value.nilFunc, Value.nilFunc, Value.nilFunc, Value.nilFunc, Value.nilFunc, Value.nilFunc] 133)) := (Below.refl _ w).alloc (Nat.le_refl _) _
  have z0 := (hb0.cell (p := ⟨r, 0, none⟩) hrl).trans x0
  have z1 := (hb0.cell (p := ⟨r, 1, none⟩) hrl).trans x1
  have z2 := (hb0.cell (p := ⟨bk, off + k * 8, none⟩) hbb).trans y0
  simp only [List.getElem?_toArray, List.getElem?_cons_zero, List.getElem?_cons_succ] at hbx
  generalize (w.alloc (.cells #[Value.func (.func 79) #[Value.pointer (some ⟨r, 0, none⟩)] #[], Value.nilFunc, Value.func (.func 80) #[Value.pointer (some ⟨r, 0, none⟩)] #[], Value.func (.func 81) #[Value.pointer (some ⟨r, 0, none⟩)] #[], Value.nilFunc, Value.nilFunc, Value.func (.func 82) #[Value.pointer (some ⟨r, 0, none⟩)] #[], Value.func (.func 83) #[Value.pointer (some ⟨r, 0, none⟩)] #[], Value.nilFunc, Value.nilFunc, Value.nilFunc, Value.nilFunc, Value.nilFunc, Value.nilFunc] 133)) = wx at *
  have HB := Lib.hid hb0
  have KK2 := Lib.hid (fun n => KK.out (wx.drewN n) (below_drewN HB.out n))
  clear hb0 x0 x1 y0
  go_quiet (fail)
  have hnf : ∀ w : World, (binOp .eql 1 (.func (.func 82) #[Value.pointer (some ⟨r, 0, none⟩)] #[]) .nilFunc).run Tryz.prog w = .ok (.bool false) w := fun _ => by kernel_rfl
  go_wp2_with fail
  refine (KK2.out _).mono ?_
  rintro e w2 ⟨rfl, hp⟩
  have HP := Lib.hid hp
  clear hp
  go_wp2
  refine bodyPost_end (results_none rfl _ _ _) rfl ⟨rfl, ?_⟩
  exact HP.out.from (below_drewN (HB.out.mono (Nat.le_of_lt hrl)) _)
set_option maxRecDepth 100000 in
set_option maxHeartbeats 2000000 in
theorem wwrite_7 {w : World} {r c k : Nat} {A : Option Addr} {T : List Nd} {ov : Value} {rows : List (Option Addr × Nat × List Int)} {bad : Bool} (h : WrS w r A T c k ov rows bad) (hk : k < T.length) (ho : (ndAt T k).op = 7) {cs : List (List Int)} (hK : ∀ (W : World) (ov : Value), WrS W r A T c k ov rows bad → Calls Tryz.prog 83 #[.pointer (some ⟨r, 0, none⟩)] W fun e w' => e = .returned (.tuple #[]) ∧ WrP r c k A T rows bad W w' cs) :
    Calls Tryz.prog 46 #[.pointer (some ⟨r, 0, none⟩)] w fun e w' => e = .returned (.tuple #[]) ∧ WrP r c k A T rows bad w w' cs := by
  have hrl := h.blk.lt
  have x0 : w.cell? ⟨r, 0, none⟩ = some (.slice A T.length c) := h.blk.cell 0
  have x1 : w.cell? ⟨r, 1, none⟩ = some (.int .i64 k) := h.blk.cell 1
  have t1 : (0 : Int) ≤ (k : Int) := by omega
  have t2 : (k : Int) < (T.length : Int) := by omega
  obtain ⟨bk, off, hA, hbb, hcell⟩ := h.tab.at_.resolve_left (by omega)
  have y0 := (hcell k hk).all.1
  rw [← ndAt_nat hk, ho] at y0
  subst hA
  have KK := Lib.hid (fun (W : World) (hW : Below w.heap.size w W) => hK W ov (h.keep hW))
  clear hcell h hk ho hK
  go_enter Tryz.func46, Tryz.ntmps46
  go_upto_region 1 with (fail)
  have hbx := (Blk.new w 133 #[Value.func (.func 79) #[Value.pointer (some ⟨r, 0, none⟩)] #[], Value.nilFunc, Value.func (.func 80) #[Value.pointer (some ⟨r, 0, none⟩)] #[], Value.func (.func 81) #[Value.pointer (some ⟨r, 0, none⟩)] #[], Value.nilFunc, Value.nilFunc, Value.func (.func 82) #[Value.pointer (some ⟨r, 0, none⟩)] #[], Value.func (.func 83) #[Value.pointer (some ⟨r, 0, none⟩)] #[], Value.nilFunc, Value.nilFunc, Value.nilFunc, Value.nilFunc, Value.nilFunc, Value.nilFunc]).cell 7
  have hb0 : Below w.heap.size w (w.alloc (.cells #[Value.func (.func 79) #[Value.pointer (some ⟨r, 0, none⟩)] #[], Value.nilFunc, Value.func (.func 80) #[Value.pointer (some ⟨r, 0, none⟩)] #[], Value.func (.func 81) #[Value.pointer (some ⟨r, 0, none⟩)] #[], Value.nilFunc, Value.nilFunc, Value.func (.func 82) #[Value.pointer (some ⟨r, 0, none⟩)] #[], Value.func (.func 83) #[Value.pointer (some ⟨r, 0, none⟩)] #[], Value.nilFunc, Value.nilFunc, Value.nilFunc, Value.nilFunc, Value.nilFunc, Value.nilFunc] 133)) := (Below.refl _ w).alloc (Nat.le_refl _) _
  have z0 := (hb0.cell (p := ⟨r, 0, none⟩) hrl).trans x0
  have z1 := (hb0.cell (p := ⟨r, 1, none⟩) hrl).trans x1
  have z2 := (hb0.cell (p := ⟨bk, off + k * 8, none⟩) hbb).trans y0
  simp only [List.getElem?_toArray, List.getElem?_cons_zero, List.getElem?_cons_succ] at hbx
  generalize (w.alloc (.cells #[Value.func (.func 79) #[Value.pointer (some ⟨r, 0, none⟩)] #[], Value.nilFunc, Value.func (.func 80) #[Value.pointer (some ⟨r, 0, none⟩)] #[], Value.func (.func 81) #[Value.pointer (some ⟨r, 0, none⟩)] #[], Value.nilFunc, Value.nilFunc, Value.func (.func 82) #[Value.pointer (some ⟨r, 0, none⟩)] #[], Value.func (.func 83) #[Value.pointer (some ⟨r, 0, none⟩)] #[], Value.nilFunc, Value.nilFunc, Value.nilFunc, Value.nilFunc, Value.nilFunc, Value.nilFunc] 133)) = wx at *
  have HB := Lib.hid hb0
  have KK2 := Lib.hid (fun n => KK.out (wx.drewN n) (below_drewN HB.out n))
  clear hb0 x0 x1 y0
  go_quiet (fail)
  have hnf : ∀ w : World, (binOp .eql 1 (.func (.func 83) #[Value.pointer (some ⟨r, 0, none⟩)] #[]) .nilFunc).run Tryz.prog w = .ok (.bool false) w := fun _ => by kernel_rfl
  go_wp2_with fail
  refine (KK2.out _).mono ?_
  rintro e w2 ⟨rfl, hp⟩
  have HP := Lib.hid hp
  clear hp
  go_wp2
  refine bodyPost_end (results_none rfl _ _ _) rfl ⟨rfl, ?_⟩
  exact HP.out.from (below_drewN (HB.out.mono (Nat.le_of_lt hrl)) _)
end Go.Proofs.YtlipnnibagidiaaGreat

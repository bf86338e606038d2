/- The writer's strings.Builder. -/
import Derived.Test.YtiklliiamljogaaGreatDoorRefA
import Derived.Lib.Builder
import Derived.Lib.AppendStr
import Derived.Lib.UnsafeStr
import Derived.Laws.Externs
namespace Go.Proofs.YtiklliiamljogaaGreatDoor
open Go.RowKit Go.Lib

/-- A writer whose builder holds some bytes; its box is b, its row lies behind D. -/
structure WB (w : World) (D b : Nat) (bs : List UInt8) : Prop where
  box : ∃ p v, (p = .pointer none ∨ p = .pointer (some ⟨b, 0, none⟩)) ∧ Blk w b 54 #[p, v] ∧ w.ownsRow D 5 1 v bs.length (Go.Lib.byteCells bs)
  lt : b < D
  le : D ≤ w.heap.size

theorem WB.keep {w w' : World} {D b : Nat} {bs : List UInt8} (h : WB w D b bs) (hb : Below w.heap.size w w') : WB w' D b bs := by
  obtain ⟨p, v, hp, hB, ho⟩ := h.box
  exact ⟨⟨p, v, hp, hB.below hb hB.lt, own_kept ho (Kept.of_below (S := fun _ => False) hb) (fun _ _ h => h)⟩, h.lt, Nat.le_trans h.le hb.size⟩
theorem wcells {w : World} {b : Nat} {t : TypeId} {c0 c1 : Value} (h : Blk w b t #[c0, c1]) :
    w.cell? ⟨b, 0, none⟩ = some c0 ∧ w.cell? ⟨b, 1, none⟩ = some c1 ∧ w.frozen? ⟨b, 0, none⟩ = false ∧ w.frozen? ⟨b, 1, none⟩ = false :=
  ⟨h.cell 0, h.cell 1, h.frozen 0, h.frozen 1⟩
theorem Blk.shape {w : World} {b : Nat} {t : TypeId} {cs : Array Value} (h : Blk w b t cs) : w.shape? b = some (t, cs.size) := by
  unfold Blk at h
  unfold World.shape?
  rw [h]
theorem builder_info : (Tryz.prog.info? 54).map (·.size) = some 2 := by kernel_rfl
theorem builder_lies : liesAt Tryz.prog Tryz.prog.depth 54 (2 / Tryz.prog.cellsOf 54) 0 54 1 = true := by kernel_rfl
theorem byte_info : (Tryz.prog.info? 5).map (fun i => (i.zero, i.size, i.bytes)) = some (some (.int .u8 0), 1, 1) := by kernel_rfl
theorem byte_cells : Tryz.prog.cellsOf 5 = 1 := by kernel_rfl

set_option maxHeartbeats 1000000 in
set_option maxRecDepth 100000 in
theorem check_used (w : World) (b : Nat) (h0 : w.cell? ⟨b, 0, none⟩ = some (.pointer (some ⟨b, 0, none⟩))) :
    Calls Tryz.prog 72 #[.pointer (some ⟨b, 0, none⟩)] w fun e w' => e = .returned (.tuple #[]) ∧ w = w' := by
  obtain ⟨j, hj, _⟩ := Option.map_eq_some_iff.1 builder_info
  go_enter Tryz.func72, Tryz.ntmps72
  go_wp2
  rw [Lib.run_neq_ptr_same w _ Tryz.underlying51 hj]
  go_wp2
  go_end0
  exact ⟨rfl, rfl⟩
set_option maxHeartbeats 1000000 in
set_option maxRecDepth 100000 in
theorem check_fresh (w : World) (b : Nat) (v : Value) (h : Blk w b 54 #[.pointer none, v]) :
    Calls Tryz.prog 72 #[.pointer (some ⟨b, 0, none⟩)] w fun e w' => e = .returned (.tuple #[]) ∧ w.setCell ⟨b, 0, none⟩ (.pointer (some ⟨b, 0, none⟩)) = w' := by
  obtain ⟨j, hj, hjs⟩ := Option.map_eq_some_iff.1 builder_info
  have hsh := h.shape
  obtain ⟨c0, c1, f0, f1⟩ := wcells h
  go_enter Tryz.func72, Tryz.ntmps72
  go_wp2
  rw [Lib.run_to_unsafe w ⟨b, 0, none⟩ Tryz.underlying51 Tryz.underlying114 hj (by rw [hjs]; decide) hsh (Nat.zero_lt_succ 1)]
  simp only [Result.andThen]
  rw [Oper.upon_value]
  go_wp2
  rw [run_callFunc_extern Tryz.func88 (by kernel_rfl) (by kernel_rfl) (by kernel_rfl) (e := Extern.AbiNoEscape.same) (by kernel_rfl)]
  rw [Lib.run_noEscape]
  simp only [Result.andThen]
  rw [Oper.upon_value]
  go_wp2
  rw [Lib.run_from_unsafe w ⟨b, 0, none⟩ Tryz.underlying114 Tryz.underlying51 hj hsh builder_lies]
  simp only [Result.andThen]
  rw [Oper.upon_value]
  go_wp2
  go_end0
  exact ⟨rfl, rfl⟩

/-- copyCheck: behind it the builder is one that has been used. -/
theorem check_ok (w : World) (D b : Nat) (bs : List UInt8) (h : WB w D b bs) :
    Calls Tryz.prog 72 #[.pointer (some ⟨b, 0, none⟩)] w fun e w' => e = .returned (.tuple #[]) ∧ (∃ v, Blk w' b 54 #[.pointer (some ⟨b, 0, none⟩), v] ∧ w'.ownsRow D 5 1 v bs.length (Go.Lib.byteCells bs)) ∧ Kept (fun i => i = b) w w' := by
  obtain ⟨p, v, hp, hB, ho⟩ := h.box
  have hlt := h.lt
  rcases hp with rfl | rfl
  · refine (check_fresh w b v hB).mono ?_
    rintro e w' ⟨rfl, rfl⟩
    have hk := (Kept.refl (fun i => i = b) w).setCell (p := ⟨b, 0, none⟩) (.inl rfl) (.pointer (some ⟨b, 0, none⟩))
    exact ⟨rfl, ⟨v, hB.set_ 0 _, own_kept ho hk (fun g hg e => by have := (ho.lt g hg).1; omega)⟩, hk⟩
  · refine (check_used w b (hB.cell 0)).mono ?_
    rintro e w' ⟨rfl, rfl⟩
    exact ⟨rfl, ⟨v, hB, ho⟩, Kept.refl _ _⟩

set_option maxHeartbeats 1000000 in
set_option maxRecDepth 100000 in
theorem wbyte_ok (w : World) (D b : Nat) (bs : List UInt8) (h : WB w D b bs) (c : UInt8) (hn : bs.length ≤ 100000000) :
    Calls Tryz.prog 56 #[.pointer (some ⟨b, 0, none⟩), .int .u8 c.toNat] w fun e w' => e = .returned .nilIface ∧ WB w' D b (bs ++ [c]) ∧ Kept (fun i => i = b ∨ D ≤ i) w w' := by
  have HC := Lib.hid (check_ok w D b bs h)
  obtain ⟨i0, hi, hz0, hz1, hz2⟩ := info_parts byte_info
  have hlt := h.lt
  have hle := h.le
  clear h
  go_enter Tryz.func56, Tryz.ntmps56
  go_wp2_with (first
    | (go_at_call 72; refine HC.out.mono ?_; rintro e w1 ⟨rfl, ⟨v, hB, ho⟩, hk⟩; obtain ⟨A, cap, rfl⟩ := own_slice ho; obtain ⟨c0, c1, f0, f1⟩ := wcells hB)
    | (at_builtin; have z1 := ho.alloc (.cells #[.int .u8 c.toNat] 5); have z2 : Blk (w1.alloc (.cells #[.int .u8 c.toNat] 5)) w1.heap.size 5 #[.int .u8 c.toNat] := Blk.new _ _ _; have z4 : ∀ u ∈ (#[Value.int .u8 c.toNat] : Array Value).toList, u.oneCell' = true := (by simp [Value.oneCell']); have z3 : D ≤ w1.heap.size := Nat.le_trans hle hk.size; refine list_push _ rfl (.tmp 11) (.tmp 13) 52 rfl D 5 i0 (.int .u8 0) 1 1 Tryz.underlying52 hi hz0 hz1 hz2 rfl (by decide) (.slice A bs.length cap) bs.length (Go.Lib.byteCells bs) rfl z1 w1.heap.size #[.int .u8 c.toNat] rfl z2 rfl z4 (by omega) (by decide) z3 ?_; intro g cap2 w5 hown hgrow hat hlt5; have hX5 := (hB.alloc (.cells #[.int .u8 c.toNat] 5)).grown hgrow (fun h => by have := (ho.lt b h.symm).1; omega); obtain ⟨v0, v1, g0, g1⟩ := wcells hX5))
  go_ret
  have hkk := ((((hk.mono (S' := fun i => i = b ∨ D ≤ i) (fun _ _ h => .inl h)).alloc (.cells #[.int .u8 c.toNat] 5)).grown hgrow (fun i hi => .inl (.inr (ho.lt i hi).1))).setCell (p := ⟨b, 1, none⟩) (.inl (.inl rfl)) (.slice (some ⟨g, 0, none⟩) (bs.length + 1) cap2))
  refine ⟨rfl, ⟨⟨_, _, .inr rfl, hX5.set_ 1 _, ?_⟩, hlt, Nat.le_trans hle hkk.size⟩, hkk⟩
  have hz := own_kept hown (Kept.set1 w5 b 1 (.slice (some ⟨g, 0, none⟩) (bs.length + 1) cap2)) (fun g hg e => by have := (hown.lt g hg).1; omega)
  rw [List.length_append, List.length_singleton, byteCells_append]
  exact hz

set_option maxHeartbeats 1000000 in
set_option maxRecDepth 100000 in
theorem wstring_ok (w : World) (D b : Nat) (bs : List UInt8) (h : WB w D b bs) (s : ByteArray) (hn : bs.length + s.size ≤ 100000000) :
    Calls Tryz.prog 55 #[.pointer (some ⟨b, 0, none⟩), .string s] w fun e w' => e = .returned (.tuple #[.int .i64 s.size, .nilIface]) ∧ WB w' D b (bs ++ byts s) ∧ Kept (fun i => i = b ∨ D ≤ i) w w' := by
  have HC := Lib.hid (check_ok w D b bs h)
  obtain ⟨i0, hi, hz0, hz1, hz2⟩ := info_parts byte_info
  have hlt := h.lt
  have hle := h.le
  clear h
  go_enter Tryz.func55, Tryz.ntmps55
  go_wp2_with (first
    | (go_at_call 72; refine HC.out.mono ?_; rintro e w1 ⟨rfl, ⟨v, hB, ho⟩, hk⟩; obtain ⟨A, cap, rfl⟩ := own_slice ho; obtain ⟨c0, c1, f0, f1⟩ := wcells hB)
    | (at_builtin; have z3 : D ≤ w1.heap.size := Nat.le_trans hle hk.size; refine wpList_append_own_string w1 rfl (.tmp 12) (.tmp 13) 52 9 rfl D 5 i0 Tryz.underlying52 Tryz.underlying9 hi hz0 hz1 hz2 (.slice A bs.length cap) bs.length (Go.Lib.byteCells bs) rfl ho s rfl (by unfold maxLen; omega) (by omega) z3 ?_; intro v' w5 hown hgrow _; have hX5 := hB.grown hgrow (fun h => by have := (ho.lt b h.symm).1; omega); obtain ⟨v0, v1, g0, g1⟩ := wcells hX5; obtain ⟨A5, cap5, rfl⟩ := own_slice hown))
  have hkk := (((hk.mono (S' := fun i => i = b ∨ D ≤ i) (fun _ _ h => .inl h)).grown hgrow (fun i hi => .inl (.inr (ho.lt i hi).1))).setCell (p := ⟨b, 1, none⟩) (.inl (.inl rfl)) (.slice A5 (bs.length + s.size) cap5))
  refine bodyPost_ret (v := .tuple #[.int .i64 s.size, .nilIface]) (by simp [results, Tryz.results55, go_sem]) rfl ⟨rfl, ⟨⟨_, _, .inr rfl, hX5.set_ 1 _, ?_⟩, hlt, Nat.le_trans hle hkk.size⟩, hkk⟩
  have hz := own_kept hown (Kept.set1 w5 b 1 (.slice A5 (bs.length + s.size) cap5)) (fun g hg e => by have := (hown.lt g hg).1; omega)
  rw [List.length_append, byts_len, byteCells_append]
  exact hz

set_option maxHeartbeats 1000000 in
set_option maxRecDepth 100000 in
theorem wstr_ok (w : World) (D b : Nat) (bs : List UInt8) (h : WB w D b bs) (h0 : bs ≠ []) :
    Calls Tryz.prog 31 #[.pointer (some ⟨b, 0, none⟩)] w fun e w' => e = .returned (.string ⟨bs.toArray⟩) ∧ Below D w w' := by
  obtain ⟨p, v, _, hB, ho⟩ := h.box
  have hl0 : 0 < bs.length := List.length_pos_iff.2 h0
  rcases ho.2 with ⟨_, hz⟩ | ⟨g, cap, cur, rfl, hbg, hg, hnc, hcm, hcs, htake⟩
  · omega
  have c1 : w.drew.cell? ⟨b, 1, none⟩ = some (.slice (some ⟨g, 0, none⟩) bs.length cap) := (hB.drew).cell 1
  have hSD : (Builtin.unsafeSliceData_ #[52] 83 #[.slice (some ⟨g, 0, none⟩) bs.length cap]).run Tryz.prog w.drew = .ok (.pointer (some ⟨g, 0, none⟩)) w.drew :=
    Lib.run_unsafeSliceData_row _ _ _ _ _ _ (by omega)
  have hUS : (Builtin.unsafeString_ #[83, 3] 9 #[.pointer (some ⟨g, 0, none⟩), .int .i64 bs.length]).run Tryz.prog w.drew = .ok (.string ⟨bs.toArray⟩) (w.drew.freeze ⟨g, 0, none⟩ bs.length) := by
    refine Lib.run_unsafeString_row w.drew 83 3 9 5 Tryz.underlying83 byte_cells g cur.size (by have hg' : w.drew.heap[g]? = some (.cells cur 5 (0, 0)) := hg; simp [World.shape?, hg']) bs h0 (by omega) (by unfold maxLen at hcm; omega) ?_
    intro j x hx
    exact ho.cells (g := g) rfl j (.int .u8 x.toNat) (by simp [Lib.byteCells, hx])
  have hfin := Lib.below_freeze (Below.drew (Below.refl D w)) (p := ⟨g, 0, none⟩) hbg bs.length
  clear h ho hg hcs htake hnc hcm
  go_enter Tryz.func31, Tryz.ntmps31
  go_wp2
  go_region
  go_wp2
  go_ret
  exact ⟨rfl, hfin⟩
end Go.Proofs.YtiklliiamljogaaGreatDoor

/- The document's Find, Same, Great. -/
import Derived.Test.YtlipnnibagidiaaGreatTaB
namespace Go.Proofs.YtlipnnibagidiaaGreat
open Go.RowKit Go.Lib
def Fr (A : Option Addr) (T : List Nd) (w : World) (A' : Option Addr) : Prop := ∀ b, A' = some b → (A = some b ∧ 0 < T.length) ∨ w.heap.size ≤ b.block
theorem Fr.none {A : Option Addr} {T : List Nd} {w : World} : Fr A T w none := fun b h => by cases h
theorem Tab.lt {w : World} {b : Addr} {T : List Nd} (h : Tab w (some b) T) (hp : 0 < T.length) : b.block < w.heap.size := by
  obtain ⟨c, off, e, h1, _⟩ := h.at_.resolve_left (by omega)
  injection e with e
  rw [e]
  exact h1
def PutIs (A : Option Addr) (T : List Nd) (r : PutR) (w : World) (e : Ending) (w' : World) : Prop :=
  ∃ A' c, e = .returned (.tuple #[.agg #[.slice A' r.T.length c], .int .i64 r.id, .int .i64 r.e]) ∧ Tab w' A' r.T ∧ r.T.length ≤ c ∧ Fr A T w A' ∧ Below w.heap.size w w'
theorem Tab.kept1 {w w' : World} {A : Option Addr} {T : List Nd} {r : Nat} (h : Tab w A T) (hk : Kept (fun b => b = r) w w') (hr : ∀ b, A = some b → b.block ≠ r) : Tab w' A T := by
  refine ⟨h.len, h.at_.imp id fun ⟨b, off, h1, h2, h3⟩ => ⟨b, off, h1, Nat.lt_of_lt_of_le h2 hk.size, fun i hi => ⟨Nat.lt_of_lt_of_le h2 hk.size, fun j hj => ?_, (h3 i hi).wf⟩⟩⟩
  have hb : w'.heap[b]? = w.heap[b]? := hk.block b h2 (hr _ h1)
  rw [show w'.cell? ⟨b, off + i * 8 + j, none⟩ = w.cell? ⟨b, off + i * 8 + j, none⟩ by unfold World.cell?; rw [hb]]
  exact (h3 i hi).cells j hj
theorem Tab.alloc {w : World} {A : Option Addr} {T : List Nd} (h : Tab w A T) (o : Obj) : Tab (w.alloc o) A T := h.below ((Below.refl _ w).alloc (Nat.le_refl _) o)
theorem Tab.wfs {w : World} {A : Option Addr} {T : List Nd} (h : Tab w A T) : ∀ n ∈ T, NdWf n := fun n hn => by
  obtain ⟨i, hi, rfl⟩ := List.getElem_of_mem hn
  rcases h.at_ with h0 | ⟨b, off, _, _, hc⟩
  · omega
  · exact (hc i hi).wf
def FindIs (T : List Nd) (n : Nd) (w : World) (e : Ending) (w' : World) : Prop := ∃ i r, e = .returned (.tuple #[.int .i64 i, .bool r]) ∧ (r = true ↔ n ∈ T) ∧ (n ∈ T → i = (T.idxOf n : Nat)) ∧ (n ∉ T → i = 0) ∧ Below w.heap.size w w'
theorem notin_take {T : List Nd} {n : Nd} {i : Nat} (h : n ∉ T.take i) (hi : i < T.length) (hn : T[i] ≠ n) : n ∉ T.take (i + 1) := by
  rw [List.take_add_one, List.getElem?_eq_getElem hi]
  intro hm
  rcases List.mem_append.1 hm with hm | hm
  · exact h hm
  · exact hn (by simpa using (show n ∈ [T[i]] from hm) : n = T[i]).symm
theorem idx_take {T : List Nd} {n : Nd} {i : Nat} (h : n ∉ T.take i) (hi : i < T.length) (hn : T[i] = n) : T.idxOf n = i := by
  have h1 : T = T.take i ++ T.drop i := (List.take_append_drop i T).symm
  have h2 : T.drop i = n :: T.drop (i + 1) := by rw [List.drop_eq_getElem_cons hi, hn]
  rw [h1, List.idxOf_append, if_neg h, h2, List.idxOf_cons_self, List.length_take]
  omega
set_option maxRecDepth 100000 in
set_option maxHeartbeats 4000000 in
theorem rfind_ok {T : List Nd} {w : World} {A : Option Addr} (c : Nat) (n : Nd) (hwn : NdWf n) (h : Tab w A T) : Calls Tryz.prog 37 #[.agg #[.slice A T.length c], nodeVal n] w (FindIs T n w) := by
  have hlen := h.len
  have HB0 := Lib.hid (show Below w.heap.size w ((w.alloc (.cells #[.slice A T.length c] 33)).alloc (.cells (nodeCells n).toArray 51)) from ((Below.refl _ w).alloc (Nat.le_refl _) _).alloc (by simp) _)
  have HBT := Lib.hid (show Blk ((w.alloc (.cells #[.slice A T.length c] 33)).alloc (.cells (nodeCells n).toArray 51)) w.heap.size 33 #[.slice A T.length c] from (Blk.new w _ _).alloc _)
  have HBN := Lib.hid (show Blk ((w.alloc (.cells #[.slice A T.length c] 33)).alloc (.cells (nodeCells n).toArray 51)) (w.heap.size + 1) 51 (nodeCells n).toArray from Blk.new_at (by simp) _ _)
  have H := Lib.hid h
  have HW := Lib.hid hwn
  have HIN := Lib.hid (fun (m : Nd) (hm : NdWf m) => node_eq hm hwn)
  clear h hwn
  simp only [nodeVal, nodeCells] at HB0 HBT HBN HIN ⊢
  go_enter Tryz.func37, Tryz.ntmps37
  go_wp2
  go_loopg [6] T.length (fun g v wr => ∃ i : Nat, i + g = T.length ∧ v = .int .i64 i ∧ n ∉ T.take i ∧ Below w.heap.size w wr ∧ Blk wr w.heap.size 33 #[.slice A T.length c] ∧ Blk wr (w.heap.size + 1) 51 #[.int .i8 n.op, .int .i8 n.len, .int .i64 n.a0, .int .i64 n.a1, .int .i64 n.a2, .int .i64 n.sort, .int .i64 n.fn, .int .i64 n.num])
  case atStart => exact ⟨0, by omega, rfl, by simp, HB0.out, HBT.out, HBN.out⟩
  case round =>
    obtain ⟨i, hig, rfl, hnot, hb, hbt, hbn⟩ := hrel
    have HNOT := Lib.hid hnot
    have HB := Lib.hid hb
    have c0 := hbt.cell 0
    have n0 := hbn.cell 0
    have n1 := hbn.cell 1
    have n2 := hbn.cell 2
    have n3 := hbn.cell 3
    have n4 := hbn.cell 4
    have n5 := hbn.cell 5
    have n6 := hbn.cell 6
    have n7 := hbn.cell 7
    simp only [List.getElem?_toArray, List.getElem?_cons_zero, List.getElem?_cons_succ] at c0 n0 n1 n2 n3 n4 n5 n6 n7
    have HBTr := Lib.hid hbt
    have HBNr := Lib.hid hbn
    clear hnot hb hbt hbn
    cases gk with
    | zero =>
      obtain rfl : i = T.length := by omega
      have d1 : decide ((T.length : Int) < T.length) = false := by simp
      go_wp2
      go_ret2
      have hn : n ∉ T := by have := HNOT.out; rwa [List.take_length] at this
      exact ⟨0, false, rfl, ⟨fun e => (by cases e), fun e => absurd e hn⟩, fun e => absurd e hn, fun _ => rfl, HB.out⟩
    | succ gk =>
      have hlt : i < T.length := by omega
      have d1 : decide ((i : Int) < T.length) = true := by simp; omega
      have t1 : (0 : Int) ≤ (i : Int) := by omega
      have t2 : (i : Int) < (T.length : Int) := by omega
      obtain ⟨b, off, hA, hbb, hcell⟩ := (H.out.below HB.out).at_.resolve_left (by omega)
      subst hA
      have hm := hcell i hlt
      obtain ⟨r, hr, he⟩ := HIN.out T[i] hm.wf
      obtain ⟨y0, y1, y2, y3, y4, y5, y6, y7⟩ := hm.all
      have HYes : Hid (r = true → n ∈ T ∧ T.idxOf n = i) := Lib.hid fun e => ⟨hr.1 e ▸ List.getElem_mem hlt, idx_take HNOT.out hlt (hr.1 e)⟩
      have HNo : Hid (r = false → n ∉ T.take (i + 1)) := Lib.hid fun e => notin_take HNOT.out hlt fun e2 => by rw [hr.2 e2] at e; cases e
      clear hcell hm hr
      generalize T[i] = m at *
      have ge := node_eql he
      have gg := node_guard
      clear he
      cases r with
      | true =>
        have HY := Lib.hid (HYes.out rfl)
        go_wp2
        go_quiet (fail)
        go_wp2
        go_ret2
        exact ⟨i, true, rfl, ⟨fun _ => HY.out.1, fun _ => rfl⟩, fun _ => by rw [HY.out.2], fun e => absurd HY.out.1 e, below_drewN HB.out _⟩
      | false =>
        have HN := Lib.hid (HNo.out rfl)
        go_wp2
        go_quiet (fail)
        go_wp2
        go_roundg gk
        case measure => omega
        case rel => exact ⟨i + 1, by omega, by go_num, HN.out, below_drewN HB.out _, HBTr.out.drewN _, HBNr.out.drewN _⟩
theorem rgreat_ok {w : World} (A : Option Addr) (n c : Nat) : Calls Tryz.prog 12 #[.agg #[.slice A n c]] w fun e w' => e = .returned (.bool (decide (300 < n))) ∧ Below w.heap.size w w' := by
  have HB0 := Lib.hid (show Below w.heap.size w (w.alloc (.cells #[.slice A n c] 33)) from (Below.refl _ w).alloc (Nat.le_refl _) _)
  go_enter Tryz.func12, Tryz.ntmps12
  go_wp2
  go_ret
  refine ⟨?_, HB0.out⟩
  exact ret_bool (a := decide (300 < (n : Int))) (by rw [Bool.eq_iff_iff]; simp; omega)
end Go.Proofs.YtlipnnibagidiaaGreat

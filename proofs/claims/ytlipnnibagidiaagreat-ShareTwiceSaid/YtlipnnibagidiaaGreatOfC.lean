/- The document's Find, Same, Great. -/
import Derived.Test.YtlipnnibagidiaaGreatTaA
import Derived.Test.YtlipnnibagidiaaGreatTaC
import Derived.Test.YtlipnnibagidiaaGreatOfE
namespace Go.Proofs.YtlipnnibagidiaaGreat
open Go.RowKit

def FindIs (T : List Nd) (n : Nd) (w : World) (e : Ending) (w' : World) : Prop := ∃ i r, e = .returned (.tuple #[.int .i64 i, .bool r]) ∧ (r = true ↔ n ∈ T) ∧ (n ∈ T → i = (T.idxOf n : Nat)) ∧ (n ∉ T → i = 0) ∧ Below w.heap.size w w'
theorem notin_take {T : List Nd} {n : Nd} {i : Nat} (h : n ∉ T.take i) (hi : i < T.length) (hn : T[i] ≠ n) : n ∉ T.take (i + 1) := by
  rw [List.take_add_one, List.getElem?_eq_getElem hi]
  intro hm
  rcases List.mem_append.1 hm with hm | hm
  · exact h hm
  · exact hn (by simpa using (show n ∈ [T[i]] from hm) : n = T[i]).symm
theorem idx_take {T : List Nd} {n : Nd} {i : Nat} (h : n ∉ T.take i) (hi : i < T.length) (hn : T[i] = n) : T.idxOf n = i := by
  have h1 : T = T.take i ++ T.drop i := (List.take_append_drop i T).symm
  have h2 : T.drop i = n :: T.drop (i + 1) := by rw [List.drop_eq_getElem_cons hi, hn]
  rw [h1, List.idxOf_append, if_neg h, h2, List.idxOf_cons_self, List.length_take]
  omega

set_option maxRecDepth 100000 in
set_option maxHeartbeats 4000000 in
theorem rfind_ok {T : List Nd} {w : World} {A : Option Addr} (c : Nat) (n : Nd) (hwn : NdWf n) (h : Tab w A T) : Calls Tryz.prog 37 #[.agg #[.slice A T.length c], nodeVal n] w (FindIs T n w) := by
  have hlen := h.len
  have HB0 := Lib.hid (show Below w.heap.size w ((w.alloc (.cells #[.slice A T.length c] 33)).alloc (.cells (nodeCells n).toArray 51)) from ((Below.refl _ w).alloc (Nat.le_refl _) _).alloc (by simp) _)
  have HBT := Lib.hid (show Blk ((w.alloc (.cells #[.slice A T.length c] 33)).alloc (.cells (nodeCells n).toArray 51)) w.heap.size 33 #[.slice A T.length c] from (Blk.new w _ _).alloc _)
  have HBN := Lib.hid (show Blk ((w.alloc (.cells #[.slice A T.length c] 33)).alloc (.cells (nodeCells n).toArray 51)) (w.heap.size + 1) 51 (nodeCells n).toArray from Blk.new_at (by simp) _ _)
  have H := Lib.hid h
  have HW := Lib.hid hwn
  have HIN := Lib.hid (fun (m : Nd) (hm : NdWf m) => node_eq hm hwn)
  clear h hwn
  simp only [nodeVal, nodeCells] at HB0 HBT HBN HIN ⊢
  go_enter Tryz.func37, Tryz.ntmps37
  go_wp2
  go_loopg [6] T.length (fun g v wr => ∃ i : Nat, i + g = T.length ∧ v = .int .i64 i ∧ n ∉ T.take i ∧ Below w.heap.size w wr ∧ Blk wr w.heap.size 33 #[.slice A T.length c] ∧ Blk wr (w.heap.size + 1) 51 #[.int .i8 n.op, .int .i8 n.len, .int .i64 n.a0, .int .i64 n.a1, .int .i64 n.a2, .int .i64 n.sort, .int .i64 n.fn, .int .i64 n.num])
  case atStart => exact ⟨0, by omega, rfl, by simp, HB0.out, HBT.out, HBN.out⟩
  case round =>
    obtain ⟨i, hig, rfl, hnot, hb, hbt, hbn⟩ := hrel
    have HNOT := Lib.hid hnot
    have HB := Lib.hid hb
    have c0 := hbt.cell 0
    have n0 := hbn.cell 0
    have n1 := hbn.cell 1
    have n2 := hbn.cell 2
    have n3 := hbn.cell 3
    have n4 := hbn.cell 4
    have n5 := hbn.cell 5
    have n6 := hbn.cell 6
    have n7 := hbn.cell 7
    simp only [List.getElem?_toArray, List.getElem?_cons_zero, List.getElem?_cons_succ] at c0 n0 n1 n2 n3 n4 n5 n6 n7
    have HBTr := Lib.hid hbt
    have HBNr := Lib.hid hbn
    clear hnot hb hbt hbn
    cases gk with
    | zero =>
      obtain rfl : i = T.length := by omega
      have d1 : decide ((T.length : Int) < T.length) = false := by simp
      go_wp2
      go_ret2
      have hn : n ∉ T := by have := HNOT.out; rwa [List.take_length] at this
      exact ⟨0, false, rfl, ⟨fun e => (by cases e), fun e => absurd e hn⟩, fun e => absurd e hn, fun _ => rfl, HB.out⟩
    | succ gk =>
      have hlt : i < T.length := by omega
      have d1 : decide ((i : Int) < T.length) = true := by simp; omega
      have t1 : (0 : Int) ≤ (i : Int) := by omega
      have t2 : (i : Int) < (T.length : Int) := by omega
      obtain ⟨b, off, hA, hbb, hcell⟩ := (H.out.below HB.out).at_.resolve_left (by omega)
      subst hA
      have hm := hcell i hlt
      obtain ⟨r, hr, he⟩ := HIN.out T[i] hm.wf
      obtain ⟨y0, y1, y2, y3, y4, y5, y6, y7⟩ := hm.all
      have HYes : Hid (r = true → n ∈ T ∧ T.idxOf n = i) := Lib.hid fun e => ⟨hr.1 e ▸ List.getElem_mem hlt, idx_take HNOT.out hlt (hr.1 e)⟩
      have HNo : Hid (r = false → n ∉ T.take (i + 1)) := Lib.hid fun e => notin_take HNOT.out hlt fun e2 => by rw [hr.2 e2] at e; cases e
      clear hcell hm hr
      generalize T[i] = m at *
      have ge := node_eql he
      have gg := node_guard
      clear he
      cases r with
      | true =>
        have HY := Lib.hid (HYes.out rfl)
        go_wp2
        go_quiet (fail)
        go_wp2
        go_ret2
        exact ⟨i, true, rfl, ⟨fun _ => HY.out.1, fun _ => rfl⟩, fun _ => by rw [HY.out.2], fun e => absurd HY.out.1 e, below_drewN HB.out _⟩
      | false =>
        have HN := Lib.hid (HNo.out rfl)
        go_wp2
        go_quiet (fail)
        go_wp2
        go_roundg gk
        case measure => omega
        case rel => exact ⟨i + 1, by omega, by go_num, HN.out, below_drewN HB.out _, HBTr.out.drewN _, HBNr.out.drewN _⟩

theorem rgreat_ok {w : World} (A : Option Addr) (n c : Nat) : Calls Tryz.prog 12 #[.agg #[.slice A n c]] w fun e w' => e = .returned (.bool (decide (300 < n))) ∧ Below w.heap.size w w' := by
  have HB0 := Lib.hid (show Below w.heap.size w (w.alloc (.cells #[.slice A n c] 33)) from (Below.refl _ w).alloc (Nat.le_refl _) _)
  go_enter Tryz.func12, Tryz.ntmps12
  go_wp2
  go_ret
  refine ⟨?_, HB0.out⟩
  exact ret_bool (a := decide (300 < (n : Int))) (by rw [Bool.eq_iff_iff]; simp; omega)

def SameIs (T U : List Nd) (w : World) (e : Ending) (w' : World) : Prop := ∃ r, e = .returned (.bool r) ∧ (r = true ↔ T = U) ∧ Below w.heap.size w w'
set_option maxRecDepth 100000 in
set_option maxHeartbeats 4000000 in
theorem rsame_ok {T U : List Nd} {w : World} {A B : Option Addr} (c d : Nat) (h : Tab w A T) (k : Tab w B U) : Calls Tryz.prog 26 #[.agg #[.slice A T.length c], .agg #[.slice B U.length d]] w (SameIs T U w) := by
  have hlen := h.len
  have HB0 := Lib.hid (show Below w.heap.size w ((w.alloc (.cells #[.slice A T.length c] 33)).alloc (.cells #[.slice B U.length d] 33)) from ((Below.refl _ w).alloc (Nat.le_refl _) _).alloc (by simp) _)
  have HBT := Lib.hid (show Blk ((w.alloc (.cells #[.slice A T.length c] 33)).alloc (.cells #[.slice B U.length d] 33)) w.heap.size 33 #[.slice A T.length c] from (Blk.new w _ _).alloc _)
  have HBU := Lib.hid (show Blk ((w.alloc (.cells #[.slice A T.length c] 33)).alloc (.cells #[.slice B U.length d] 33)) (w.heap.size + 1) 33 #[.slice B U.length d] from Blk.new_at (by simp) _ _)
  have c0 := HBT.out.cell 0
  have c1 := HBU.out.cell 0
  simp only [List.getElem?_toArray, List.getElem?_cons_zero] at c0 c1
  have H := Lib.hid h
  have K := Lib.hid k
  clear h k
  by_cases hne : T.length = U.length
  rotate_left
  · have d1 : ((T.length : Int) == (U.length : Int)) = false := by simp; omega
    have HNE : Hid (T ≠ U) := Lib.hid (fun e => hne (by rw [e]))
    clear hne
    go_enter Tryz.func26, Tryz.ntmps26
    go_wp2
    go_ret
    exact ⟨false, rfl, ⟨fun e => (by cases e), fun e => absurd e HNE.out⟩, HB0.out⟩
  have HEQ := Lib.hid hne
  have d1 : ((T.length : Int) == (U.length : Int)) = true := by simp; omega
  obtain ⟨nl, hnl⟩ : ∃ nl, T.length = nl := ⟨_, rfl⟩
  have hul : U.length = nl := by omega
  have HTL := Lib.hid hnl
  have HUL := Lib.hid hul
  rw [hnl] at c0 hlen
  rw [hul] at c1
  rw [hnl, hul] at d1 HB0 HBT HBU ⊢
  clear hne hnl hul
  go_enter Tryz.func26, Tryz.ntmps26
  go_wp2
  go_loopg [5] nl (fun g v wr => ∃ i : Nat, i + g = nl ∧ v = .int .i64 i ∧ T.take i = U.take i ∧ Below w.heap.size w wr ∧ Blk wr w.heap.size 33 #[.slice A nl c] ∧ Blk wr (w.heap.size + 1) 33 #[.slice B nl d])
  case atStart => exact ⟨0, by omega, rfl, rfl, HB0.out, HBT.out, HBU.out⟩
  case round =>
    obtain ⟨i, hig, rfl, heq, hb, hbt, hbu⟩ := hrel
    have HE := Lib.hid heq
    have HB := Lib.hid hb
    have HBTr := Lib.hid hbt
    have HBUr := Lib.hid hbu
    have c2 := hbt.cell 0
    have c3 := hbu.cell 0
    simp only [List.getElem?_toArray, List.getElem?_cons_zero] at c2 c3
    clear heq hb hbt hbu c0 c1
    cases gk with
    | zero =>
      obtain rfl : i = nl := by omega
      have d2 : decide ((i : Int) < i) = false := by simp
      go_wp2
      go_ret
      refine ⟨true, rfl, ⟨fun _ => ?_, fun _ => rfl⟩, HB.out⟩
      have := HE.out
      rwa [List.take_of_length_le (Nat.le_of_eq HTL.out), List.take_of_length_le (Nat.le_of_eq HUL.out)] at this
    | succ gk =>
      have hlt : i < T.length := by have := HTL.out; omega
      have hlu : i < U.length := by have := HUL.out; omega
      have d2 : decide ((i : Int) < (nl : Int)) = true := by simp; omega
      have t1 : (0 : Int) ≤ (i : Int) := by omega
      have t2 : (i : Int) < (nl : Int) := by omega
      obtain ⟨b, off, hA, hbb, hcell⟩ := (H.out.below HB.out).at_.resolve_left (by omega)
      obtain ⟨b', off', hB, hbb', hcell'⟩ := (K.out.below HB.out).at_.resolve_left (by omega)
      subst hA hB
      have hm := hcell i hlt
      have hm' := hcell' i hlu
      obtain ⟨r, hr, he⟩ := node_eq hm.wf hm'.wf
      obtain ⟨y0, y1, y2, y3, y4, y5, y6, y7⟩ := hm.all
      obtain ⟨z0, z1, z2, z3, z4, z5, z6, z7⟩ := hm'.all
      have HYes : Hid (r = true → T.take (i + 1) = U.take (i + 1)) := Lib.hid fun e => by
        rw [List.take_add_one, List.take_add_one, HE.out, List.getElem?_eq_getElem hlt, List.getElem?_eq_getElem hlu, hr.1 e]
      have HNo : Hid (r = false → T ≠ U) := Lib.hid fun e e2 => by
        have : T[i] = U[i] := by subst e2; rfl
        rw [hr.2 this] at e
        cases e
      clear hcell hcell' hm hm' hr
      generalize T[i] = m at *
      generalize U[i] = m' at *
      simp only [nodeVal, nodeCells] at he
      have ge := node_neq he
      have gg := node_guard
      clear he hlt hlu
      cases r with
      | true =>
        have HY := Lib.hid (HYes.out rfl)
        go_wp2
        go_quiet (fail)
        go_wp2
        go_roundg gk
        case measure => omega
        case rel => exact ⟨i + 1, by omega, by go_num, HY.out, below_drewN HB.out _, HBTr.out.drewN _, HBUr.out.drewN _⟩
      | false =>
        have HN := Lib.hid (HNo.out rfl)
        go_wp2
        go_quiet (fail)
        go_wp2
        go_ret
        exact ⟨false, rfl, ⟨fun e => (by cases e), fun e => absurd e HN.out⟩, below_drewN HB.out _⟩
end Go.Proofs.YtlipnnibagidiaaGreat

/- Differences: offset.Diff, in a table that is in order. -/
namespace Go.Proofs.YtlipnnibagidiaaGreat
open Go.RowKit

def DiffIs (r : DiffR) (w : World) (e : Ending) (w' : World) : Prop := e = .returned (.tuple #[.int .i64 r.x, .int .i64 r.y, .int .i64 r.d, .int .i64 r.e]) ∧ Below w.heap.size w w'
def sumD (c m n : Int) : Int × Int := stepA (stepS c 0 m).1 (stepS c 0 m).2 n
theorem diffT_sum (T : List Nd) (a b c : Int) : diffT T a b c = if (ofT T a).e ≠ 0 then ⟨0, 0, 0, (ofT T a).e⟩ else if (ofT T b).e ≠ 0 then ⟨0, 0, 0, (ofT T b).e⟩ else if (sumD c (ofT T a).n (ofT T b).n).2 ≠ 0 then ⟨0, 0, 0, (sumD c (ofT T a).n (ofT T b).n).2⟩ else ⟨(ofT T a).b, (ofT T b).b, (sumD c (ofT T a).n (ofT T b).n).1, 0⟩ := by
  unfold diffT sumD stepA stepS
  simp only [if_true]
  by_cases h : (subN c (ofT T a).n).2 = 0
  · simp [h]
  · simp [h]

set_option maxRecDepth 100000 in
set_option maxHeartbeats 4000000 in
theorem diff_ok {T : List Nd} {w : World} {A : Option Addr} (k : Nat) (a b c : Int) (ha : -9223372036854775808 ≤ a ∧ a ≤ 9223372036854775807) (hb : -9223372036854775808 ≤ b ∧ b ≤ 9223372036854775807) (hk : T.length ≤ k) (h : Tab w A T) (ho : TabOk T → ordB T = true) :
    Calls Tryz.prog 91 #[.agg #[.slice A T.length k], .int .i64 a, .int .i64 b, .int .i64 c] w (DiffIs (diffT T a b c) w) := by
  have HB0 := Lib.hid (show Below w.heap.size w (w.alloc (.cells #[.slice A T.length k] 33)) from (Below.refl _ w).alloc (Nat.le_refl _) _)
  have HBL := Lib.hid (show Blk (w.alloc (.cells #[.slice A T.length k] 33)) w.heap.size 33 #[.slice A T.length k] from Blk.new w _ _)
  have HL1 : Hid (w.heap.size < (w.alloc (.cells #[.slice A T.length k] 33)).heap.size) := Lib.hid (by simp)
  have KA := Lib.hid (fun (W : World) (hw : Below w.heap.size w W) => of_ok k a ha hk (h.below hw) ho)
  have KB := Lib.hid (fun (W : World) (hw : Below w.heap.size w W) => of_ok k b hb hk (h.below hw) ho)
  have HD := Lib.hid (diffT_sum T a b c)
  clear h ho hk ha hb
  go_enter Tryz.func91, Tryz.ntmps91
  go_wp2_with fail
  refine (KA.out _ HB0.out).mono ?_
  rintro e w1 ⟨rfl, hb⟩
  generalize ofT T a = p at *
  obtain ⟨p1, p2, p3⟩ := p
  have c0 := (HBL.out.below hb HL1.out).cell 0
  simp only [List.getElem?_toArray, List.getElem?_cons_zero] at c0
  have HB1 : Hid (Below w.heap.size w w1) := Lib.hid (HB0.out.trans (hb.mono (Nat.le_of_lt HL1.out)))
  have HBL1 := Lib.hid (HBL.out.below hb HL1.out)
  clear hb
  by_cases t1 : p3 = 0
  · subst t1
    go_wp2_with fail
    refine (KB.out _ HB1.out).mono ?_
    rintro e w2 ⟨rfl, hb⟩
    generalize ofT T b = q at *
    obtain ⟨q1, q2, q3⟩ := q
    have HB2 : Hid (Below w.heap.size w w2) := Lib.hid (HB1.out.trans (hb.mono HB1.out.size))
    clear hb
    by_cases t2 : q3 = 0
    · subst t2
      have HSM := Lib.hid (show Blk (w2.alloc (.cells #[.int .i64 c, .int .i64 0] 184)) w2.heap.size 184 #[.int .i64 c, .int .i64 0] from Blk.new w2 _ _)
      have HB3 := Lib.hid (HB2.out.alloc HB2.out.size (.cells #[.int .i64 c, .int .i64 0] 184))
      have HS : Hid (diffT T a b c = if (sumD c p2 q2).2 ≠ 0 then ⟨0, 0, 0, (sumD c p2 q2).2⟩ else ⟨p1, q1, (sumD c p2 q2).1, 0⟩) := Lib.hid (by rw [HD.out]; simp)
      go_wp2_with fail
      refine (ssub_ok c 0 p2 HSM.out).mono ?_
      rintro e w3 ⟨rfl, hs, hk3⟩
      have HS3 := Lib.hid hs
      have HB4 := Lib.hid (HB3.out.trans (hk3.below (B := w.heap.size) HB3.out.size (fun k e => by have := HB2.out.size; omega)))
      clear hs hk3
      go_wp2_with fail
      refine (sadd_ok _ _ q2 HS3.out).mono ?_
      rintro e w4 ⟨rfl, hs, hk4⟩
      have HS4 := Lib.hid (show Blk w4 w2.heap.size 184 #[.int .i64 (sumD c p2 q2).1, .int .i64 (sumD c p2 q2).2] from hs)
      have HB5 := Lib.hid (HB4.out.trans (hk4.below (B := w.heap.size) HB4.out.size (fun k e => by have := HB2.out.size; omega)))
      clear hs hk4
      have s0 := HS4.out.cell 0
      have s1 := HS4.out.cell 1
      simp only [List.getElem?_toArray, List.getElem?_cons_zero, List.getElem?_cons_succ] at s0 s1
      generalize sumD c p2 q2 = z at *
      obtain ⟨z1, z2⟩ := z
      by_cases t3 : z2 = 0
      · subst t3
        go_wp2
        go_quiet (fail)
        go_wp2
        refine bodyPost_ret (v := .tuple #[.int .i64 p1, .int .i64 q1, .int .i64 z1, .int .i64 0]) (by simp [results, Tryz.results91, go_sem]) rfl ?_
        rw [HS.out, if_neg (by simp)]
        exact ⟨rfl, below_drewN HB5.out _⟩
      · have d3 : (z2 == 0) = false := by simp [t3]
        have HS' : Hid (diffT T a b c = ⟨0, 0, 0, z2⟩) := Lib.hid (by rw [HS.out, if_pos t3])
        clear t3
        go_wp2
        go_quiet (fail)
        go_wp2
        refine bodyPost_ret (v := .tuple #[.int .i64 0, .int .i64 0, .int .i64 0, .int .i64 z2]) (by simp [results, Tryz.results91, go_sem]) rfl ?_
        rw [HS'.out]
        exact ⟨rfl, below_drewN HB5.out _⟩
    · have d2 : (q3 == 0) = false := by simp [t2]
      have HS : Hid (diffT T a b c = ⟨0, 0, 0, q3⟩) := Lib.hid (by rw [HD.out]; simp [t2])
      clear t2
      go_wp2
      refine bodyPost_ret (v := .tuple #[.int .i64 0, .int .i64 0, .int .i64 0, .int .i64 q3]) (by simp [results, Tryz.results91, go_sem]) rfl ?_
      rw [HS.out]
      exact ⟨rfl, HB2.out⟩
  · have d1 : (p3 == 0) = false := by simp [t1]
    have HS : Hid (diffT T a b c = ⟨0, 0, 0, p3⟩) := Lib.hid (by rw [HD.out]; simp [t1])
    clear t1
    go_wp2
    refine bodyPost_ret (v := .tuple #[.int .i64 0, .int .i64 0, .int .i64 0, .int .i64 p3]) (by simp [results, Tryz.results91, go_sem]) rfl ?_
    rw [HS.out]
    exact ⟨rfl, HB1.out⟩
end Go.Proofs.YtlipnnibagidiaaGreat

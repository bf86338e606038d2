/- The document's Find, Same, Great. -/
import Derived.Test.YtlipnnibagidiaaEuH
import Derived.Test.YtlipnnibagidiaaTaC
import Derived.Test.YtlipnnibagidiaaSwD
import Derived.Test.YtlipnnibagidiaaSwA
namespace Go.Proofs.Ytlipnnibagidiaa
open Go.RowKit

def FindIs (T : List Nd) (n : Nd) (w : World) (e : Ending) (w' : World) : Prop := ∃ i r, e = .returned (.tuple #[.int .i64 i, .bool r]) ∧ (r = true ↔ n ∈ T) ∧ (n ∈ T → i = (T.idxOf n : Nat)) ∧ (n ∉ T → i = 0) ∧ Below w.heap.size w w'
theorem notin_take {T : List Nd} {n : Nd} {i : Nat} (h : n ∉ T.take i) (hi : i < T.length) (hn : T[i] ≠ n) : n ∉ T.take (i + 1) := by
  rw [List.take_add_one, List.getElem?_eq_getElem hi]
  intro hm
  rcases List.mem_append.1 hm with hm | hm
  · exact h hm
  · exact hn (by simpa using (show n ∈ [T[i]] from hm) : n = T[i]).symm
theorem idx_take {T : List Nd} {n : Nd} {i : Nat} (h : n ∉ T.take i) (hi : i < T.length) (hn : T[i] = n) : T.idxOf n = i := by
  have h1 : T = T.take i ++ T.drop i := (List.take_append_drop i T).symm
  have h2 : T.drop i = n :: T.drop (i + 1) := by rw [List.drop_eq_getElem_cons hi, hn]
  rw [h1, List.idxOf_append, if_neg h, h2, List.idxOf_cons_self, List.length_take]
  omega

set_option maxRecDepth 100000 in
set_option maxHeartbeats 4000000 in
theorem rfind_ok {T : List Nd} {w : World} {A : Option Addr} (c : Nat) (n : Nd) (hwn : NdWf n) (h : Tab w A T) : Calls Try.prog 56 #[.agg #[.slice A T.length c], nodeVal n] w (FindIs T n w) := by
  have hlen := h.len
  have HB0 := Lib.hid (show Below w.heap.size w ((w.alloc (.cells #[.slice A T.length c] 24)).alloc (.cells (nodeCells n).toArray 36)) from ((Below.refl _ w).alloc (Nat.le_refl _) _).alloc (by simp) _)
  have HBT := Lib.hid (show Blk ((w.alloc (.cells #[.slice A T.length c] 24)).alloc (.cells (nodeCells n).toArray 36)) w.heap.size 24 #[.slice A T.length c] from (Blk.new w _ _).alloc _)
  have HBN := Lib.hid (show Blk ((w.alloc (.cells #[.slice A T.length c] 24)).alloc (.cells (nodeCells n).toArray 36)) (w.heap.size + 1) 36 (nodeCells n).toArray from Blk.new_at (by simp) _ _)
  have H := Lib.hid h
  have HW := Lib.hid hwn
  have HIN := Lib.hid (fun (m : Nd) (hm : NdWf m) => node_eq hm hwn)
  clear h hwn
  simp only [nodeVal, nodeCells] at HB0 HBT HBN HIN ⊢
  go_enter Try.func56, Try.ntmps56
  go_wp2
  go_loopg [6] T.length (fun g v wr => ∃ i : Nat, i + g = T.length ∧ v = .int .i64 i ∧ n ∉ T.take i ∧ Below w.heap.size w wr ∧ Blk wr w.heap.size 24 #[.slice A T.length c] ∧ Blk wr (w.heap.size + 1) 36 #[.int .i8 n.op, .int .i8 n.len, .int .i64 n.a0, .int .i64 n.a1, .int .i64 n.a2, .int .i64 n.sort, .int .i64 n.fn, .int .i64 n.num])
  case atStart => exact ⟨0, by omega, rfl, by simp, HB0.out, HBT.out, HBN.out⟩
  case round =>
    obtain ⟨i, hig, rfl, hnot, hb, hbt, hbn⟩ := hrel
    have HNOT := Lib.hid hnot
    have HB := Lib.hid hb
    have c0 := hbt.cell 0
    have n0 := hbn.cell 0
    have n1 := hbn.cell 1
    have n2 := hbn.cell 2
    have n3 := hbn.cell 3
    have n4 := hbn.cell 4
    have n5 := hbn.cell 5
    have n6 := hbn.cell 6
    have n7 := hbn.cell 7
    simp only [List.getElem?_toArray, List.getElem?_cons_zero, List.getElem?_cons_succ] at c0 n0 n1 n2 n3 n4 n5 n6 n7
    have HBTr := Lib.hid hbt
    have HBNr := Lib.hid hbn
    clear hnot hb hbt hbn
    cases gk with
    | zero =>
      obtain rfl : i = T.length := by omega
      have d1 : decide ((T.length : Int) < T.length) = false := by simp
      go_wp2
      go_ret2
      have hn : n ∉ T := by have := HNOT.out; rwa [List.take_length] at this
      exact ⟨0, false, rfl, ⟨fun e => (by cases e), fun e => absurd e hn⟩, fun e => absurd e hn, fun _ => rfl, HB.out⟩
    | succ gk =>
      have hlt : i < T.length := by omega
      have d1 : decide ((i : Int) < T.length) = true := by simp; omega
      have t1 : (0 : Int) ≤ (i : Int) := by omega
      have t2 : (i : Int) < (T.length : Int) := by omega
      obtain ⟨b, off, hA, hbb, hcell⟩ := (H.out.below HB.out).at_.resolve_left (by omega)
      subst hA
      have hm := hcell i hlt
      obtain ⟨r, hr, he⟩ := HIN.out T[i] hm.wf
      obtain ⟨y0, y1, y2, y3, y4, y5, y6, y7⟩ := hm.all
      have HYes : Hid (r = true → n ∈ T ∧ T.idxOf n = i) := Lib.hid fun e => ⟨hr.1 e ▸ List.getElem_mem hlt, idx_take HNOT.out hlt (hr.1 e)⟩
      have HNo : Hid (r = false → n ∉ T.take (i + 1)) := Lib.hid fun e => notin_take HNOT.out hlt fun e2 => by rw [hr.2 e2] at e; cases e
      clear hcell hm hr
      generalize T[i] = m at *
      have ge := node_eql he
      have gg := node_guard
      clear he
      cases r with
      | true =>
        have HY := Lib.hid (HYes.out rfl)
        go_wp2
        go_quiet (fail)
        go_wp2
        go_ret2
        exact ⟨i, true, rfl, ⟨fun _ => HY.out.1, fun _ => rfl⟩, fun _ => by rw [HY.out.2], fun e => absurd HY.out.1 e, below_drewN HB.out _⟩
      | false =>
        have HN := Lib.hid (HNo.out rfl)
        go_wp2
        go_quiet (fail)
        go_wp2
        go_roundg gk
        case measure => omega
        case rel => exact ⟨i + 1, by omega, by go_num, HN.out, below_drewN HB.out _, HBTr.out.drewN _, HBNr.out.drewN _⟩

theorem rgreat_ok {w : World} (A : Option Addr) (n c : Nat) : Calls Try.prog 4 #[.agg #[.slice A n c]] w fun e w' => e = .returned (.bool (decide (300 < n))) ∧ Below w.heap.size w w' := by
  have HB0 := Lib.hid (show Below w.heap.size w (w.alloc (.cells #[.slice A n c] 24)) from (Below.refl _ w).alloc (Nat.le_refl _) _)
  go_enter Try.func4, Try.ntmps4
  go_wp2
  go_ret
  refine ⟨?_, HB0.out⟩
  exact ret_bool (a := decide (300 < (n : Int))) (by rw [Bool.eq_iff_iff]; simp; omega)

def SameIs (T U : List Nd) (w : World) (e : Ending) (w' : World) : Prop := ∃ r, e = .returned (.bool r) ∧ (r = true ↔ T = U) ∧ Below w.heap.size w w'
set_option maxRecDepth 100000 in
set_option maxHeartbeats 4000000 in
theorem rsame_ok {T U : List Nd} {w : World} {A B : Option Addr} (c d : Nat) (h : Tab w A T) (k : Tab w B U) : Calls Try.prog 8 #[.agg #[.slice A T.length c], .agg #[.slice B U.length d]] w (SameIs T U w) := by
  have hlen := h.len
  have HB0 := Lib.hid (show Below w.heap.size w ((w.alloc (.cells #[.slice A T.length c] 24)).alloc (.cells #[.slice B U.length d] 24)) from ((Below.refl _ w).alloc (Nat.le_refl _) _).alloc (by simp) _)
  have HBT := Lib.hid (show Blk ((w.alloc (.cells #[.slice A T.length c] 24)).alloc (.cells #[.slice B U.length d] 24)) w.heap.size 24 #[.slice A T.length c] from (Blk.new w _ _).alloc _)
  have HBU := Lib.hid (show Blk ((w.alloc (.cells #[.slice A T.length c] 24)).alloc (.cells #[.slice B U.length d] 24)) (w.heap.size + 1) 24 #[.slice B U.length d] from Blk.new_at (by simp) _ _)
  have c0 := HBT.out.cell 0
  have c1 := HBU.out.cell 0
  simp only [List.getElem?_toArray, List.getElem?_cons_zero] at c0 c1
  have H := Lib.hid h
  have K := Lib.hid k
  clear h k
  by_cases hne : T.length = U.length
  rotate_left
  · have d1 : ((T.length : Int) == (U.length : Int)) = false := by simp; omega
    have HNE : Hid (T ≠ U) := Lib.hid (fun e => hne (by rw [e]))
    clear hne
    go_enter Try.func8, Try.ntmps8
    go_wp2
    go_ret
    exact ⟨false, rfl, ⟨fun e => (by cases e), fun e => absurd e HNE.out⟩, HB0.out⟩
  have HEQ := Lib.hid hne
  have d1 : ((T.length : Int) == (U.length : Int)) = true := by simp; omega
  obtain ⟨nl, hnl⟩ : ∃ nl, T.length = nl := ⟨_, rfl⟩
  have hul : U.length = nl := by omega
  have HTL := Lib.hid hnl
  have HUL := Lib.hid hul
  rw [hnl] at c0 hlen
  rw [hul] at c1
  rw [hnl, hul] at d1 HB0 HBT HBU ⊢
  clear hne hnl hul
  go_enter Try.func8, Try.ntmps8
  go_wp2
  go_loopg [5] nl (fun g v wr => ∃ i : Nat, i + g = nl ∧ v = .int .i64 i ∧ T.take i = U.take i ∧ Below w.heap.size w wr ∧ Blk wr w.heap.size 24 #[.slice A nl c] ∧ Blk wr (w.heap.size + 1) 24 #[.slice B nl d])
  case atStart => exact ⟨0, by omega, rfl, rfl, HB0.out, HBT.out, HBU.out⟩
  case round =>
    obtain ⟨i, hig, rfl, heq, hb, hbt, hbu⟩ := hrel
    have HE := Lib.hid heq
    have HB := Lib.hid hb
    have HBTr := Lib.hid hbt
    have HBUr := Lib.hid hbu
    have c2 := hbt.cell 0
    have c3 := hbu.cell 0
    simp only [List.getElem?_toArray, List.getElem?_cons_zero] at c2 c3
    clear heq hb hbt hbu c0 c1
    cases gk with
    | zero =>
      obtain rfl : i = nl := by omega
      have d2 : decide ((i : Int) < i) = false := by simp
      go_wp2
      go_ret
      refine ⟨true, rfl, ⟨fun _ => ?_, fun _ => rfl⟩, HB.out⟩
      have := HE.out
      rwa [List.take_of_length_le (Nat.le_of_eq HTL.out), List.take_of_length_le (Nat.le_of_eq HUL.out)] at this
    | succ gk =>
      have hlt : i < T.length := by have := HTL.out; omega
      have hlu : i < U.length := by have := HUL.out; omega
      have d2 : decide ((i : Int) < (nl : Int)) = true := by simp; omega
      have t1 : (0 : Int) ≤ (i : Int) := by omega
      have t2 : (i : Int) < (nl : Int) := by omega
      obtain ⟨b, off, hA, hbb, hcell⟩ := (H.out.below HB.out).at_.resolve_left (by omega)
      obtain ⟨b', off', hB, hbb', hcell'⟩ := (K.out.below HB.out).at_.resolve_left (by omega)
      subst hA hB
      have hm := hcell i hlt
      have hm' := hcell' i hlu
      obtain ⟨r, hr, he⟩ := node_eq hm.wf hm'.wf
      obtain ⟨y0, y1, y2, y3, y4, y5, y6, y7⟩ := hm.all
      obtain ⟨z0, z1, z2, z3, z4, z5, z6, z7⟩ := hm'.all
      have HYes : Hid (r = true → T.take (i + 1) = U.take (i + 1)) := Lib.hid fun e => by
        rw [List.take_add_one, List.take_add_one, HE.out, List.getElem?_eq_getElem hlt, List.getElem?_eq_getElem hlu, hr.1 e]
      have HNo : Hid (r = false → T ≠ U) := Lib.hid fun e e2 => by
        have : T[i] = U[i] := by subst e2; rfl
        rw [hr.2 this] at e
        cases e
      clear hcell hcell' hm hm' hr
      generalize T[i] = m at *
      generalize U[i] = m' at *
      simp only [nodeVal, nodeCells] at he
      have ge := node_neq he
      have gg := node_guard
      clear he hlt hlu
      cases r with
      | true =>
        have HY := Lib.hid (HYes.out rfl)
        go_wp2
        go_quiet (fail)
        go_wp2
        go_roundg gk
        case measure => omega
        case rel => exact ⟨i + 1, by omega, by go_num, HY.out, below_drewN HB.out _, HBTr.out.drewN _, HBUr.out.drewN _⟩
      | false =>
        have HN := Lib.hid (HNo.out rfl)
        go_wp2
        go_quiet (fail)
        go_wp2
        go_ret
        exact ⟨false, rfl, ⟨fun e => (by cases e), fun e => absurd e HN.out⟩, below_drewN HB.out _⟩
end Go.Proofs.Ytlipnnibagidiaa

/- The document's offsets: gantryref11.Of. -/
namespace Go.Proofs.Ytlipnnibagidiaa
open Go.RowKit

theorem tabB_false {T : List Nd} (h : ¬ TabOk T) : tabB T = false := by
  cases ht : tabB T with
  | false => rfl
  | true => exact absurd (tabB_iff.1 ht) h
set_option maxRecDepth 100000 in
set_option maxHeartbeats 4000000 in
theorem rof_ok {T : List Nd} {w : World} {A : Option Addr} (c : Nat) (id : Int) (hid : In64 id) (h : Tab w A T) (ho : TabOk T → ordB T = true) :
    Calls Try.prog 57 #[.agg #[.slice A T.length c], .int .i64 id] w (OfIs (ofT T id) w) := by
  have hlen := h.len
  have HB1 := Lib.hid (show Below w.heap.size w (w.alloc (.cells #[.slice A T.length c] 24)) from (Below.refl _ w).alloc (Nat.le_refl _) _)
  have HBL := Lib.hid (show Blk (w.alloc (.cells #[.slice A T.length c] 24)) w.heap.size 24 #[.slice A T.length c] from Blk.new w _ _)
  have H := Lib.hid h
  have HO := Lib.hid ho
  unfold In64 at hid
  clear h ho
  go_enter Try.func57, Try.ntmps57
  go_wp2_with fail
  refine (rcheck_ok c (H.out.below HB1.out)).mono ?_
  rintro e w1 ⟨r, rfl, hr, hb⟩
  have c0 := (HBL.out.below hb HBL.out.lt).cell 0
  simp only [List.getElem?_toArray, List.getElem?_cons_zero] at c0
  have HR := Lib.hid hr
  have HB2 : Hid (Below w.heap.size w w1) := Lib.hid (HB1.out.trans (hb.mono HB1.out.size))
  clear hr hb
  cases r with
  | false =>
    have HN : Hid (tabB T = false) := Lib.hid (tabB_false fun ht => by have := HR.out.2 ht; cases this)
    go_wp2
    go_ret3
    refine ⟨?_, HB2.out⟩
    simp only [ofT, HN.out]
    rfl
  | true =>
  have ht := HR.out.1 rfl
  have HT := Lib.hid ht
  have HT2 := Lib.hid (tabB_iff.2 ht)
  clear ht
  by_cases t1 : id < 0
  · have d1 := decide_eq_true t1
    have HS : Hid (ofT T id = ⟨0, 0, 2⟩) := Lib.hid (by unfold ofT; rw [if_neg (by simp; intro _ h; omega)])
    clear t1
    go_wp2
    go_ret3
    rw [HS.out]
    exact ⟨rfl, HB2.out⟩
  have d1 := decide_eq_false t1
  obtain ⟨i, rfl⟩ : ∃ i : Nat, id = i := ⟨id.toNat, by omega⟩
  by_cases t2 : T.length ≤ i
  · have d2 : decide (T.length ≤ i) = true := by simp; omega
    have HS : Hid (ofT T i = ⟨0, 0, 2⟩) := Lib.hid (by unfold ofT; rw [if_neg (by simp; intro _; omega)])
    clear t1 t2
    go_wp2
    go_ret3
    rw [HS.out]
    exact ⟨rfl, HB2.out⟩
  have d2 : decide (T.length ≤ i) = false := by simp; omega
  have hil : i < T.length := by omega
  obtain ⟨b, off, hA, hbb, hcell⟩ := H.out.at_.resolve_left (by omega)
  subst hA
  have d3 : (0 : Int) ≤ (i : Int) := by omega
  have d4 : (i : Int) < (T.length : Int) := by omega
  have HCell := Lib.hid (fun k hk => (hcell k hk).below HB2.out)
  obtain ⟨x0, x1, x2, x3, x4, x5, x6, x7⟩ := (HCell.out i hil).all
  have HST := Lib.hid (HT.out.st i T[i] (List.getElem?_eq_getElem hil))
  have HM := Lib.hid (List.getElem_mem hil)
  have HND : Hid (ndAt T i = T[i]) := Lib.hid (ndAt_nat hil)
  have HG : Hid (ofT T i = if T[i].sort = 1 then ⟨(baseT T i).1, (baseT T i).2, 0⟩ else ⟨0, 0, 33⟩) := Lib.hid (by unfold ofT; rw [if_pos (by rw [HT2.out]; simp; omega), HND.out])
  clear hcell t1 t2
  generalize T[i] = n at *
  by_cases t3 : n.sort = 1
  rotate_left
  · have d5 : (n.sort == 1) = false := by simp [t3]
    have HS : Hid (ofT T i = ⟨0, 0, 33⟩) := Lib.hid (by rw [HG.out, if_neg t3])
    clear t3
    go_wp2
    go_ret3
    rw [HS.out]
    exact ⟨rfl, HB2.out⟩
  have HS : Hid (ofT T i = ⟨(baseT T i).1, (baseT T i).2, 0⟩) := Lib.hid (by rw [HG.out, if_pos t3])
  rw [t3] at x5
  clear t3
  go_wp2
  go_loopg [1, 7] 1 (fun g vi vn wr => ∃ (k : Nat) (q : Int), vi = .int .i64 k ∧ vn = .int .i64 q ∧ k < T.length ∧ wr = w1 ∧ ((g = 1 ∧ k = i ∧ q = 0) ∨ (g = 0 ∧ ofT T i = ⟨k, q, 0⟩ ∧ (ndAt T k).op ≠ 11 ∧ (ndAt T k).op ≠ 10)))
  case atStart => exact ⟨i, 0, rfl, rfl, hil, rfl, .inl ⟨rfl, rfl, rfl⟩⟩
  case round =>
    obtain ⟨k, q, rfl, rfl, hk, rfl, hst⟩ := hrel
    have e3 : (0 : Int) ≤ (k : Int) := by omega
    have e4 : (k : Int) < (T.length : Int) := by omega
    cases gk with
    | zero =>
      obtain ⟨_, h1, h2, h3⟩ := hst.resolve_left (by omega)
      have HS1 := Lib.hid h1
      rw [ndAt_nat hk] at h2 h3
      obtain ⟨y0, y1, y2, y3, y4, y5, y6, y7⟩ := (HCell.out k hk).all
      clear h1 hst
      generalize T[k] = m at *
      have d6 : (m.op == 11) = false := by simp [h2]
      have d7 : (m.op == 10) = false := by simp [h3]
      clear h2 h3
      go_wp2
      go_ret3
      rw [HS1.out]
      exact ⟨rfl, HB2.out⟩
    | succ gk =>
      obtain ⟨h0, rfl, rfl⟩ := hst.resolve_right (by omega)
      obtain rfl : gk = 0 := by omega
      clear hst h0
      by_cases q1 : n.op = 11
      · rw [q1] at x0
        have hnum : mayI n.num = true := mayI_iff.2 (HST.out.numb.1 (.inr (.inl q1)))
        have HA : Hid (addN 0 n.num = (n.num, 0)) := Lib.hid (by
          unfold addN
          rw [Int.zero_add, hnum]
          rfl)
        have ha0 := HST.out.one (.inr q1)
        obtain ⟨k0, hk0⟩ : ∃ k0 : Nat, n.a0 = k0 := ⟨n.a0.toNat, by omega⟩
        have HBT : Hid (ofT T k = ⟨(k0 : Int), n.num, 0⟩) := Lib.hid (by rw [HS.out]; unfold baseT; rw [HND.out, if_pos q1, hk0])
        have HOD := Lib.hid (ordB_iff.1 (HO.out HT.out) n HM.out q1)
        have hk0T : k0 < T.length := by omega
        rw [hk0] at HOD
        rw [hk0] at x2
        clear q1 hnum ha0 hk0
        go_wp2_with fail
        refine (radd_ok 0 n.num _).mono ?_
        rintro e w3 ⟨rfl, rfl⟩
        rw [HA.out]
        go_wp2
        go_roundg 0
        case measure => omega
        case rel => exact ⟨k0, n.num, rfl, rfl, hk0T, rfl, .inr ⟨rfl, HBT.out, HOD.out.2.1, HOD.out.2.2⟩⟩
      · have d6 : (n.op == 11) = false := by simp [q1]
        by_cases q2 : n.op = 10
        · rw [q2] at x0
          have hnum : mayI n.num = true := mayI_iff.2 (HST.out.numb.1 (.inl q2))
          have HA : Hid (addN 0 n.num = (n.num, 0)) := Lib.hid (by
            unfold addN
            rw [Int.zero_add, hnum]
            rfl)
          have HBT : Hid (ofT T k = ⟨1, n.num, 0⟩) := Lib.hid (by rw [HS.out]; unfold baseT; rw [HND.out, if_neg q1, if_pos q2])
          clear q1 q2 hnum d6
          go_wp2_with fail
          refine (radd_ok 0 n.num _).mono ?_
          rintro e w3 ⟨rfl, rfl⟩
          rw [HA.out]
          go_wp2
          go_ret3
          rw [HBT.out]
          exact ⟨rfl, HB2.out⟩
        · have d7 : (n.op == 10) = false := by simp [q2]
          have HBT : Hid (ofT T k = ⟨(k : Int), 0, 0⟩) := Lib.hid (by rw [HS.out]; unfold baseT; rw [HND.out, if_neg q1, if_neg q2])
          clear q1 q2
          go_wp2
          go_ret3
          rw [HBT.out]
          exact ⟨rfl, HB2.out⟩
end Go.Proofs.Ytlipnnibagidiaa

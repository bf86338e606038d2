/- The document's Ordered: gantryref11.Ordered; base, own of gantryref26. -/
import Derived.Test.YtlipnnibagidiaaGreatSwC
import Derived.Test.YtlipnnibagidiaaGreatSwA
namespace Go.Proofs.YtlipnnibagidiaaGreat
open Go.RowKit

theorem ordB_take {T : List Nd} (h : ∀ k : Nat, k < T.length → ordBad T (ndAt T k) = false) : ordB T = true := by
  rw [ordB_any, Bool.not_eq_true', List.any_eq_false]
  intro n hn
  obtain ⟨k, hk, e⟩ := mem_ndAt hn
  rw [← e, h k hk]
  simp
theorem ordB_bad {T : List Nd} {i : Nat} (hi : i < T.length) (h : ordBad T (ndAt T i) = true) : ordB T = false := by
  rw [ordB_any, Bool.not_eq_false', List.any_eq_true]
  exact ⟨ndAt T i, ndAt_mem (by omega) (by omega), h⟩
set_option maxRecDepth 100000 in
set_option maxHeartbeats 4000000 in
theorem rordered_ok {T : List Nd} {w : World} {A : Option Addr} (c : Nat) (h : Tab w A T) : Calls Tryz.prog 94 #[.agg #[.slice A T.length c]] w (BoolIs (tabB T && ordB T) w) := by
  have hlen := h.len
  have HB1 := Lib.hid (show Below w.heap.size w (w.alloc (.cells #[.slice A T.length c] 33)) from (Below.refl _ w).alloc (Nat.le_refl _) _)
  have HBL := Lib.hid (show Blk (w.alloc (.cells #[.slice A T.length c] 33)) w.heap.size 33 #[.slice A T.length c] from Blk.new w _ _)
  have H := Lib.hid h
  clear h
  go_enter Tryz.func94, Tryz.ntmps94
  go_wp2_with fail
  refine (rcheck_ok c (H.out.below HB1.out)).mono ?_
  rintro e w1 ⟨r, rfl, hr, hb⟩
  have HT1 := Lib.hid (HBL.out.below hb HBL.out.lt)
  have c0 := HT1.out.cell 0
  simp only [List.getElem?_toArray, List.getElem?_cons_zero] at c0
  have HR := Lib.hid hr
  have HB2 : Hid (Below w.heap.size w w1) := Lib.hid (HB1.out.trans (hb.mono HB1.out.size))
  clear hr hb
  cases r with
  | false =>
    have HN : Hid (tabB T = false) := Lib.hid (tabB_false fun ht => by have := HR.out.2 ht; cases this)
    go_wp2
    go_ret
    rw [HN.out]
    exact ⟨rfl, HB2.out⟩
  | true =>
  have HT := Lib.hid (HR.out.1 rfl)
  have HTB := Lib.hid (tabB_iff.2 HT.out)
  go_wp2
  go_loopg [3] T.length (fun g v wr => ∃ i : Nat, i + g = T.length ∧ v = .int .i64 i ∧ Below w.heap.size w wr ∧ Blk wr w.heap.size 33 #[.slice A T.length c] ∧ ∀ k : Nat, k < i → ordBad T (ndAt T k) = false)
  case atStart => exact ⟨0, by omega, rfl, HB2.out, HT1.out, fun k hk => absurd hk (Nat.not_lt_zero _)⟩
  case round =>
    obtain ⟨i, hig, rfl, hb, hbl, hinv⟩ := hrel
    have HB := Lib.hid hb
    have HBl := Lib.hid hbl
    have HI := Lib.hid hinv
    have c1 := hbl.cell 0
    simp only [List.getElem?_toArray, List.getElem?_cons_zero] at c1
    clear hb hbl hinv c0
    cases gk with
    | zero =>
      obtain rfl : i = T.length := by omega
      have d1 : decide ((T.length : Int) < T.length) = false := by simp
      have HO := Lib.hid (ordB_take HI.out)
      go_wp2
      go_ret
      rw [HTB.out, HO.out]
      exact ⟨rfl, HB.out⟩
    | succ gk =>
      have hlt : i < T.length := by omega
      have d1 : decide ((i : Int) < T.length) = true := by simp; omega
      have t1 : (0 : Int) ≤ (i : Int) := by omega
      have t2 : (i : Int) < (T.length : Int) := by omega
      obtain ⟨b, off, hA, hbb, hcell⟩ := (H.out.below HB.out).at_.resolve_left (by omega)
      subst hA
      have HCell := Lib.hid hcell
      obtain ⟨x0, x1, x2, x3, x4, x5, x6, x7⟩ := (hcell i hlt).all
      have HST := Lib.hid (HT.out.st i T[i] (List.getElem?_eq_getElem hlt))
      have HND : Hid (ndAt T i = T[i]) := Lib.hid (ndAt_nat hlt)
      have HNext : Hid (ordBad T (ndAt T i) = false → ∀ k : Nat, k < i + 1 → ordBad T (ndAt T k) = false) := Lib.hid (fun e k hk => by
        by_cases hki : k = i
        · rw [hki]; exact e
        · exact HI.out k (by omega))
      have HStop : Hid (ordBad T (ndAt T i) = true → ordB T = false) := Lib.hid (ordB_bad hlt)
      clear hcell hbb
      generalize T[i] = n at *
      rw [HND.out] at HNext HStop
      by_cases q1 : n.op = 11
      rotate_left
      · have d2 : (n.op == 11) = false := by simp [q1]
        have HN2 := Lib.hid (HNext.out (by unfold ordBad; rw [d2]; rfl))
        clear q1
        go_wp2
        go_roundg gk
        case measure => omega
        case rel => exact ⟨i + 1, by omega, by go_num, HB.out, HBl.out, HN2.out⟩
      have ha0 := HST.out.one (.inr q1)
      obtain ⟨k0, hk0⟩ : ∃ k0 : Nat, n.a0 = k0 := ⟨n.a0.toNat, by omega⟩
      have hk0T : k0 < T.length := by omega
      obtain ⟨y0, y1, y2, y3, y4, y5, y6, y7⟩ := (HCell.out k0 hk0T).all
      have u1 : (0 : Int) ≤ (k0 : Int) := by omega
      have u2 : (k0 : Int) < (T.length : Int) := by omega
      have hob : ordBad T n = (n.num == 0 || T[k0].op == 11 || T[k0].op == 10) := by unfold ordBad; rw [hk0, ndAt_nat hk0T, q1]; rfl
      rw [q1] at x0
      rw [hk0] at x2
      have HOB := Lib.hid hob
      clear q1 ha0 hk0 hob
      generalize T[k0] = m at *
      by_cases s1 : n.num = 0
      · have e1 : (n.num == 0) = true := by simp [s1]
        have HBad := Lib.hid (HStop.out (by rw [HOB.out, e1]; rfl))
        rw [s1] at x7
        clear s1 e1
        go_wp2
        go_quiet (fail)
        go_wp2
        go_ret
        rw [HTB.out, HBad.out]
        exact ⟨rfl, below_drewN HB.out _⟩
      have e1 : (n.num == 0) = false := by simp [s1]
      by_cases s2 : m.op = 11
      · have HBad := Lib.hid (HStop.out (by rw [HOB.out, s2]; simp))
        rw [s2] at y0
        clear s1 s2
        go_wp2
        go_quiet (fail)
        go_wp2
        go_ret
        rw [HTB.out, HBad.out]
        exact ⟨rfl, below_drewN HB.out _⟩
      have e2 : (m.op == 11) = false := by simp [s2]
      by_cases s3 : m.op = 10
      · have HBad := Lib.hid (HStop.out (by rw [HOB.out, s3]; simp))
        rw [s3] at y0 e2
        clear s1 s2 s3
        go_wp2
        go_quiet (fail)
        go_wp2
        go_ret
        rw [HTB.out, HBad.out]
        exact ⟨rfl, below_drewN HB.out _⟩
      have e3 : (m.op == 10) = false := by simp [s3]
      have HN2 := Lib.hid (HNext.out (by rw [HOB.out, e1, e2, e3]; rfl))
      clear s1 s2 s3
      go_wp2
      go_quiet (fail)
      go_wp2
      go_roundg gk
      case measure => omega
      case rel => exact ⟨i + 1, by omega, by go_num, below_drewN HB.out _, HBl.out.drewN _, HN2.out⟩

set_option maxRecDepth 100000 in
set_option maxHeartbeats 4000000 in
theorem rbase_ok {T : List Nd} {w : World} {A : Option Addr} (c k : Nat) (hk : k < T.length) (h : Tab w A T) :
    Calls Tryz.prog 162 #[.agg #[.slice A T.length c], .int .i64 (k : Nat)] w (BaseIs (baseT T k) w) := by
  obtain ⟨b, off, hA, hbb, hcell⟩ := h.at_.resolve_left (by omega)
  subst hA
  have HB0 := Lib.hid (show Below w.heap.size w (w.alloc (.cells #[.slice (some ⟨b, off, none⟩) T.length c] 33)) from (Below.refl _ w).alloc (Nat.le_refl _) _)
  have hm := (hcell k hk).below HB0.out
  have hnd : ndAt T k = T[k] := ndAt_nat hk
  have g1 : (0 : Int) ≤ (k : Int) := by omega
  have g2 : (k : Int) < (T.length : Int) := by omega
  have HR : Hid (baseT T k = if T[k].op = 11 then (T[k].a0, T[k].num) else if T[k].op = 10 then (1, T[k].num) else ((k : Int), 0)) := Lib.hid (by unfold baseT; rw [hnd])
  generalize T[k] = m at *
  obtain ⟨z0, z1, z2, z3, z4, z5, z6, z7⟩ := hm.all
  clear hm hcell hbb hnd h hk
  by_cases q0 : m.op = 10
  · rw [q0] at z0
    have HS : Hid (baseT T k = (1, m.num)) := Lib.hid (by rw [HR.out, if_neg (by omega), if_pos q0])
    clear q0
    go_enter Tryz.func162, Tryz.ntmps162
    go_wp2
    go_quiet (fail)
    go_wp2
    go_ret2
    rw [HS.out]
    exact ⟨rfl, below_drewN (HB0.out.alloc (by simp) _) _⟩
  · have e0 : (m.op == 10) = false := by simp [q0]
    by_cases q1 : m.op = 11
    · rw [q1] at z0
      have HS : Hid (baseT T k = (m.a0, m.num)) := Lib.hid (by rw [HR.out, if_pos q1])
      clear q0 q1
      go_enter Tryz.func162, Tryz.ntmps162
      go_wp2
      go_quiet (fail)
      go_wp2
      go_ret2
      rw [HS.out]
      exact ⟨rfl, below_drewN (HB0.out.alloc (by simp) _) _⟩
    · have e1 : (m.op == 11) = false := by simp [q1]
      have HS : Hid (baseT T k = ((k : Int), 0)) := Lib.hid (by rw [HR.out, if_neg q1, if_neg q0])
      clear q0 q1
      go_enter Tryz.func162, Tryz.ntmps162
      go_wp2
      go_ret2
      rw [HS.out]
      exact ⟨rfl, HB0.out.alloc (by simp) _⟩

set_option maxRecDepth 100000 in
set_option maxHeartbeats 4000000 in
theorem rown_ok {T : List Nd} {w : World} {A : Option Addr} (c k : Nat) (hk : k < T.length) (h : Tab w A T) :
    Calls Tryz.prog 139 #[.agg #[.slice A T.length c], .int .i64 (k : Nat)] w (BoolIs (ownB T k) w) := by
  have HB0 := Lib.hid (show Below w.heap.size w (w.alloc (.cells #[.slice A T.length c] 33)) from (Below.refl _ w).alloc (Nat.le_refl _) _)
  have HBL := Lib.hid (show Blk (w.alloc (.cells #[.slice A T.length c] 33)) w.heap.size 33 #[.slice A T.length c] from Blk.new w _ _)
  have HK := Lib.hid hk
  have H := Lib.hid h
  clear h
  go_enter Tryz.func139, Tryz.ntmps139
  go_wp2_with fail
  refine (rbase_ok c k HK.out (H.out.below HB0.out)).mono ?_
  rintro e w1 ⟨rfl, hb⟩
  have HB1 : Hid (Below w.heap.size w w1) := Lib.hid (HB0.out.trans (hb.mono HB0.out.size))
  have c0 := (HBL.out.below hb HBL.out.lt).cell 0
  simp only [List.getElem?_toArray, List.getElem?_cons_zero] at c0
  obtain ⟨b, off, hA, hbb, hcell⟩ := (H.out.below HB1.out).at_.resolve_left (by omega)
  subst hA
  have hm := hcell k hk
  have hnd : ndAt T k = T[k] := ndAt_nat hk
  have g1 : (0 : Int) ≤ (k : Int) := by omega
  have g2 : (k : Int) < (T.length : Int) := by omega
  have HR : Hid (ownB T k = (decide ((baseT T k).1 = k) && decide (T[k].sort = 1))) := Lib.hid (by unfold ownB; rw [hnd])
  generalize T[k] = m at *
  generalize (baseT T k).1 = x at *
  obtain ⟨z0, z1, z2, z3, z4, z5, z6, z7⟩ := hm.all
  clear hm hcell hbb hnd hk hb
  by_cases q0 : x = k
  · have e0 : (x == (k : Int)) = true := by simp [q0]
    go_wp2
    go_ret
    rw [HR.out]
    exact ⟨by rw [decide_eq_true q0]; rfl, HB1.out⟩
  · have e0 : (x == (k : Int)) = false := by simp [q0]
    go_wp2
    go_ret
    rw [HR.out]
    exact ⟨by rw [decide_eq_false q0]; rfl, HB1.out⟩
end Go.Proofs.YtlipnnibagidiaaGreat

/- In order: offset.Ordered. -/
import Derived.Test.YtlipnnibagidiaaNdF
import Derived.Shelf.Abstract
namespace Go.Proofs.Ytlipnnibagidiaa
open Go.RowKit

def ordBad (T : List Nd) (n : Nd) : Bool := n.op == 11 && (n.num == 0 || (ndAt T n.a0).op == 11 || (ndAt T n.a0).op == 10)
theorem ordB_any (T : List Nd) : ordB T = !T.any (ordBad T) := by
  rw [Bool.eq_iff_iff, ordB_iff, Bool.not_eq_true', List.any_eq_false]
  refine forall_congr' fun n => forall_congr' fun _ => ?_
  unfold ordBad
  simp only [Bool.and_eq_true, Bool.or_eq_true, beq_iff_eq, not_and, not_or]
  exact forall_congr' fun _ => ⟨fun ⟨a, b, c⟩ => ⟨⟨a, b⟩, c⟩, fun ⟨⟨a, b⟩, c⟩ => ⟨a, b, c⟩⟩

set_option maxRecDepth 100000 in
set_option maxHeartbeats 4000000 in
theorem orderedf_ok {W : World} {q : Nat} {A : Option Addr} {c : Nat} {T : List Nd} (hb : Blk W q 24 #[.slice A T.length c]) (ht : Tab W A T) (hT : TabOk T) (x : Nd) (hx : x ∈ T) :
    Calls Try.prog 46 #[nodeVal x, .pointer (some ⟨q, 0, none⟩)] W fun e w' => e = .returned (.bool (ordBad T x)) ∧ Below W.heap.size W w' := by
  obtain ⟨i, hi, hti, hst⟩ := hT.stands hx
  simp only [nodeVal, nodeCells]
  have HB0 := Lib.hid (show Below W.heap.size W (W.alloc (.cells (nodeCells x).toArray 36)) from (Below.refl _ W).alloc (Nat.le_refl _) _)
  by_cases ho : x.op = 11
  · obtain ⟨h0, h1⟩ := hst.one (.inr ho)
    obtain ⟨k, hk⟩ : ∃ k : Nat, x.a0 = k := ⟨x.a0.toNat, by omega⟩
    have hkT : k < T.length := by omega
    obtain ⟨b, off, hA, hbb, hcell⟩ := ht.at_.resolve_left (by omega)
    subst hA
    have hm := (hcell k hkT).below HB0.out
    have hnd : ndAt T x.a0 = T[k] := by rw [hk, ndAt_nat hkT]
    have g1 : (0 : Int) ≤ (k : Int) := by omega
    have g2 : (k : Int) < (T.length : Int) := by omega
    have hb1 := hb.alloc (.cells (nodeCells x).toArray 36)
    have c0 := hb1.cell 0
    simp only [List.getElem?_toArray, List.getElem?_cons_zero] at c0
    have HR : Hid (ordBad T x = (x.num == 0 || T[k].op == 11 || T[k].op == 10)) := Lib.hid (by unfold ordBad; rw [ho, hnd]; rfl)
    generalize T[k] = m at *
    obtain ⟨z0, z1, z2, z3, z4, z5, z6, z7⟩ := hm.all
    simp only [nodeCells] at z0 z1 z2 z3 z4 z5 z6 z7 c0
    rw [ho, hk]
    rw [ho, hk] at z0 z1 z2 z3 z4 z5 z6 z7 c0
    have HX : Hid (Below W.heap.size W (W.alloc (.cells #[.int .i8 11, .int .i8 x.len, .int .i64 k, .int .i64 x.a1, .int .i64 x.a2, .int .i64 x.sort, .int .i64 x.fn, .int .i64 x.num] 36))) := Lib.hid ((Below.refl _ W).alloc (Nat.le_refl _) _)
    clear hm hb1 hb ht hT hcell hbb hnd h0 h1 hst hti hi hx HB0
    cases e1 : x.num == 0 with
    | true =>
      go_enter Try.func46, Try.ntmps46
      go_wp2
      go_ret
      rw [HR.out, e1]
      exact ⟨rfl, HX.out⟩
    | false =>
      cases e2 : m.op == 11 with
      | true =>
        go_enter Try.func46, Try.ntmps46
        go_wp2
        go_ret
        rw [HR.out, e1, e2]
        exact ⟨rfl, HX.out⟩
      | false =>
        go_enter Try.func46, Try.ntmps46
        go_wp2
        go_ret
        rw [HR.out, e1, e2]
        exact ⟨rfl, HX.out⟩
  · have e0 : (x.op == 11) = false := by simp [ho]
    have HR : Hid (ordBad T x = false) := Lib.hid (by unfold ordBad; rw [e0]; rfl)
    have HX : Hid (Below W.heap.size W (W.alloc (.cells #[.int .i8 x.op, .int .i8 x.len, .int .i64 x.a0, .int .i64 x.a1, .int .i64 x.a2, .int .i64 x.sort, .int .i64 x.fn, .int .i64 x.num] 36))) := Lib.hid ((Below.refl _ W).alloc (Nat.le_refl _) _)
    clear hb ht hT hst hti hi hx HB0 ho
    go_enter Try.func46, Try.ntmps46
    go_wp2
    go_ret
    rw [HR.out]
    exact ⟨rfl, HX.out⟩

set_option maxRecDepth 100000 in
set_option maxHeartbeats 4000000 in
theorem ordered_ok {T : List Nd} {w : World} {A : Option Addr} (c : Nat) (hc : T.length ≤ c) (h : Tab w A T) : Calls Try.prog 25 #[.agg #[.slice A T.length c]] w fun e w' => e = .returned (.bool (tabB T && ordB T)) ∧ Below w.heap.size w w' := by
  have hlen := h.len
  have HB1 := Lib.hid (show Below w.heap.size w (w.alloc (.cells #[.slice A T.length c] 24)) from (Below.refl _ w).alloc (Nat.le_refl _) _)
  have HBL := Lib.hid (show Blk (w.alloc (.cells #[.slice A T.length c] 24)) w.heap.size 24 #[.slice A T.length c] from Blk.new w _ _)
  have HL1 : Hid (w.heap.size < (w.alloc (.cells #[.slice A T.length c] 24)).heap.size) := Lib.hid (by simp)
  have H := Lib.hid h
  have HC := Lib.hid hc
  clear h hc
  go_enter Try.func25, Try.ntmps25
  go_wp2_with fail
  refine (check_ok c HC.out (H.out.below HB1.out)).mono ?_
  rintro e w1 ⟨r, rfl, hr, hb⟩
  have c0 := (HBL.out.below hb HL1.out).cell 0
  simp only [List.getElem?_toArray, List.getElem?_cons_zero] at c0
  have HR := Lib.hid hr
  have HB2 : Hid (Below w.heap.size w w1) := Lib.hid (HB1.out.trans (hb.mono (Nat.le_of_lt HL1.out)))
  have HBL2 := Lib.hid (HBL.out.below hb HL1.out)
  clear hr hb
  cases r with
  | false =>
    have HN : Hid ((tabB T && ordB T) = false) := Lib.hid (by
      cases ht : tabB T with
      | false => rfl
      | true => exact absurd (HR.out.2 (tabB_iff.1 ht)) (by simp))
    go_wp2
    go_ret
    rw [HN.out]
    exact ⟨rfl, HB2.out⟩
  | true =>
    have HT := Lib.hid (HR.out.1 rfl)
    have HG : Hid ((tabB T && ordB T) = !T.any (ordBad T)) := Lib.hid (by rw [tabB_iff.2 HT.out, ordB_any]; rfl)
    go_wp2_with fail
    refine (ncontains_ok c 46 #[.pointer (some ⟨w.heap.size, 0, none⟩)] (ordBad T) (enters_of Try.func46 (by kernel_rfl) rfl) (H.out.below HB2.out) (fun W x hx hW => orderedf_ok (HBL2.out.below hW HBL2.out.lt) (H.out.below (HB2.out.trans (hW.mono HB2.out.size))) HT.out x hx)).mono ?_
    rintro e w2 ⟨rfl, hb2⟩
    generalize T.any (ordBad T) = bb at *
    have HB3 := Lib.hid (HB2.out.trans (hb2.mono HB2.out.size))
    clear hb2
    go_wp2
    go_ret
    rw [HG.out]
    exact ⟨rfl, HB3.out⟩
end Go.Proofs.Ytlipnnibagidiaa

/- Bases, own ones, equalities of Ints: share.base, share.own, share.ints. -/
namespace Go.Proofs.Ytlipnnibagidiaa
open Go.RowKit

def BoolIs (r : Bool) (w : World) (e : Ending) (w' : World) : Prop := e = .returned (.bool r) ∧ Below w.heap.size w w'
def BaseIs (r : Int × Int) (w : World) (e : Ending) (w' : World) : Prop := e = .returned (.tuple #[.int .i64 r.1, .int .i64 r.2]) ∧ Below w.heap.size w w'
set_option maxRecDepth 100000 in
set_option maxHeartbeats 4000000 in
theorem sbase_ok {T : List Nd} {w : World} {A : Option Addr} (c k : Nat) (hk : k < T.length) (h : Tab w A T) :
    Calls Try.prog 61 #[.agg #[.slice A T.length c], .int .i64 (k : Nat)] w (BaseIs (baseT T k) w) := by
  obtain ⟨b, off, hA, hbb, hcell⟩ := h.at_.resolve_left (by omega)
  subst hA
  have HB0 := Lib.hid (show Below w.heap.size w (w.alloc (.cells #[.slice (some ⟨b, off, none⟩) T.length c] 24)) from (Below.refl _ w).alloc (Nat.le_refl _) _)
  have hm := (hcell k hk).below HB0.out
  have hnd : ndAt T k = T[k] := ndAt_nat hk
  have g1 : (0 : Int) ≤ (k : Int) := by omega
  have g2 : (k : Int) < (T.length : Int) := by omega
  have HR : Hid (baseT T k = if T[k].op = 11 then (T[k].a0, T[k].num) else if T[k].op = 10 then (1, T[k].num) else ((k : Int), 0)) := Lib.hid (by unfold baseT; rw [hnd])
  generalize T[k] = m at *
  obtain ⟨z0, z1, z2, z3, z4, z5, z6, z7⟩ := hm.all
  clear hm hcell hbb hnd h hk
  by_cases q0 : m.op = 10
  · rw [q0] at z0
    have HS : Hid (baseT T k = (1, m.num)) := Lib.hid (by rw [HR.out, if_neg (by omega), if_pos q0])
    clear q0
    go_enter Try.func61, Try.ntmps61
    go_wp2
    go_quiet (fail)
    go_wp2
    go_ret2
    rw [HS.out]
    exact ⟨rfl, below_drewN (HB0.out.alloc (by simp) _) _⟩
  · have e0 : (m.op == 10) = false := by simp [q0]
    by_cases q1 : m.op = 11
    · rw [q1] at z0
      have HS : Hid (baseT T k = (m.a0, m.num)) := Lib.hid (by rw [HR.out, if_pos q1])
      clear q0 q1
      go_enter Try.func61, Try.ntmps61
      go_wp2
      go_quiet (fail)
      go_wp2
      go_ret2
      rw [HS.out]
      exact ⟨rfl, below_drewN (HB0.out.alloc (by simp) _) _⟩
    · have e1 : (m.op == 11) = false := by simp [q1]
      have HS : Hid (baseT T k = ((k : Int), 0)) := Lib.hid (by rw [HR.out, if_neg q1, if_neg q0])
      clear q0 q1
      go_enter Try.func61, Try.ntmps61
      go_wp2
      go_ret2
      rw [HS.out]
      exact ⟨rfl, HB0.out.alloc (by simp) _⟩

set_option maxRecDepth 100000 in
set_option maxHeartbeats 4000000 in
theorem sown_ok {T : List Nd} {w : World} {A : Option Addr} (c k : Nat) (hk : k < T.length) (h : Tab w A T) :
    Calls Try.prog 48 #[.agg #[.slice A T.length c], .int .i64 (k : Nat)] w (BoolIs (ownB T k) w) := by
  have HB0 := Lib.hid (show Below w.heap.size w (w.alloc (.cells #[.slice A T.length c] 24)) from (Below.refl _ w).alloc (Nat.le_refl _) _)
  have HBL := Lib.hid (show Blk (w.alloc (.cells #[.slice A T.length c] 24)) w.heap.size 24 #[.slice A T.length c] from Blk.new w _ _)
  have HL1 : Hid (w.heap.size < (w.alloc (.cells #[.slice A T.length c] 24)).heap.size) := Lib.hid (by simp)
  have HK := Lib.hid hk
  have H := Lib.hid h
  clear h
  go_enter Try.func48, Try.ntmps48
  go_wp2_with fail
  refine (sbase_ok c k HK.out (H.out.below HB0.out)).mono ?_
  rintro e w1 ⟨rfl, hb⟩
  have HB1 : Hid (Below w.heap.size w w1) := Lib.hid (HB0.out.trans (hb.mono (Nat.le_of_lt HL1.out)))
  have c0 := (HBL.out.below hb HL1.out).cell 0
  simp only [List.getElem?_toArray, List.getElem?_cons_zero] at c0
  obtain ⟨b, off, hA, hbb, hcell⟩ := (H.out.below HB1.out).at_.resolve_left (by omega)
  subst hA
  have hm := hcell k hk
  have hnd : ndAt T k = T[k] := ndAt_nat hk
  have g1 : (0 : Int) ≤ (k : Int) := by omega
  have g2 : (k : Int) < (T.length : Int) := by omega
  have HR : Hid (ownB T k = (decide ((baseT T k).1 = k) && decide (T[k].sort = 1))) := Lib.hid (by unfold ownB; rw [hnd])
  generalize T[k] = m at *
  generalize (baseT T k).1 = x at *
  obtain ⟨z0, z1, z2, z3, z4, z5, z6, z7⟩ := hm.all
  clear hm hcell hbb hnd hk hb
  by_cases q0 : x = k
  · have e0 : (x == (k : Int)) = true := by simp [q0]
    go_wp2
    go_ret
    rw [HR.out]
    exact ⟨by rw [decide_eq_true q0]; rfl, HB1.out⟩
  · have e0 : (x == (k : Int)) = false := by simp [q0]
    go_wp2
    go_ret
    rw [HR.out]
    exact ⟨by rw [decide_eq_false q0]; rfl, HB1.out⟩

def intsB (T : List Nd) (n : Nd) : Bool := decide (n.op = 6) && decide ((ndAt T n.a0).sort = 1)
set_option maxRecDepth 100000 in
set_option maxHeartbeats 4000000 in
theorem sints_ok {T : List Nd} {w : World} {A : Option Addr} (c : Nat) (n : Nd) (hn : n.op = 6 → 0 ≤ n.a0 ∧ n.a0 < T.length) (h : Tab w A T) :
    Calls Try.prog 43 #[.agg #[.slice A T.length c], nodeVal n] w (BoolIs (intsB T n) w) := by
  have HB0 := Lib.hid (show Below w.heap.size w ((w.alloc (.cells #[.slice A T.length c] 24)).alloc (.cells (nodeCells n).toArray 36)) from ((Below.refl _ w).alloc (Nat.le_refl _) _).alloc (by simp) _)
  simp only [nodeVal, nodeCells] at HB0 ⊢
  by_cases q : n.op = 6
  · obtain ⟨h0, h1⟩ := hn q
    obtain ⟨k, hk⟩ : ∃ k : Nat, n.a0 = k := ⟨n.a0.toNat, by omega⟩
    have hkT : k < T.length := by omega
    obtain ⟨b, off, hA, hbb, hcell⟩ := h.at_.resolve_left (by omega)
    subst hA
    have hm := (hcell k hkT).below HB0.out
    have hnd : ndAt T n.a0 = T[k] := by rw [hk, ndAt_nat hkT]
    have g1 : (0 : Int) ≤ (k : Int) := by omega
    have g2 : (k : Int) < (T.length : Int) := by omega
    have HR : Hid (intsB T n = decide (T[k].sort = 1)) := Lib.hid (by unfold intsB; rw [hnd, decide_eq_true q]; rfl)
    generalize T[k] = m at *
    obtain ⟨z0, z1, z2, z3, z4, z5, z6, z7⟩ := hm.all
    rw [q, hk] at z0 z1 z2 z3 z4 z5 z6 z7 HB0 ⊢
    clear hm hcell hbb hnd h h0 h1 hn
    go_enter Try.func43, Try.ntmps43
    go_wp2
    go_ret
    rw [HR.out]
    exact ⟨rfl, HB0.out⟩
  · have e0 : (n.op == 6) = false := by simp [q]
    have HR : Hid (intsB T n = false) := Lib.hid (by unfold intsB; rw [decide_eq_false q]; rfl)
    clear h hn
    go_enter Try.func43, Try.ntmps43
    go_wp2
    go_ret
    rw [HR.out]
    exact ⟨rfl, HB0.out⟩
end Go.Proofs.Ytlipnnibagidiaa

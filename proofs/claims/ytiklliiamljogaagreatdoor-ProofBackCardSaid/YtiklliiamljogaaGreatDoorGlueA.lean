/- Same, and slices.EqualFunc upon it. -/
import Derived.Test.YtiklliiamljogaaGreatDoorTreeJ
import Derived.Test.YtiklliiamljogaaGreatDoorTreeM
import Derived.Test.YtiklliiamljogaaGreatDoorBldB
import Derived.Test.YtiklliiamljogaaGreatDoorStA
namespace Go.Proofs.YtiklliiamljogaaGreatDoor
open Go.RowKit

/-- Same is right at whatever is no greater. -/
def SameAt (F : FuncId) (y : Sx) : Prop := ∀ (z : Sx) (v v' : Value) (w : World), Lies (fun _ => True) w v y → Lies (fun _ => True) w v' z → Calls Tryz.prog F #[v, v'] w fun e w' => e = .returned (.bool (y.same z)) ∧ Below w.heap.size w w'

theorem sames_take (l m : List Sx) (i : Nat) (h1 : i < l.length) (h2 : i < m.length) : Sx.sames (l.take (i + 1)) (m.take (i + 1)) = (Sx.sames (l.take i) (m.take i) && (l[i]).same (m[i])) := by
  induction l generalizing m i with
  | nil => simp at h1
  | cons x r ih =>
    cases m with
    | nil => simp at h2
    | cons y s =>
      cases i with
      | zero => simp [Sx.sames]
      | succ i =>
        have := ih s i (by simpa using h1) (by simpa using h2)
        simp only [List.take_succ_cons, Sx.sames, List.getElem_cons_succ]
        rw [this, Bool.and_assoc]
theorem sames_len : ∀ (l m : List Sx), l.length ≠ m.length → Sx.sames l m = false
  | [], [], h => absurd rfl h
  | [], _ :: _, _ => by simp [Sx.sames]
  | _ :: _, [], _ => by simp [Sx.sames]
  | x :: r, y :: s, h => by
    have h2 : r.length ≠ s.length := fun e => h (by simp [e])
    simp [Sx.sames, sames_len r s h2]
theorem sames_not (l m : List Sx) (i : Nat) (h1 : i < l.length) (h2 : i < m.length) (h : (l[i]).same (m[i]) = false) : Sx.sames l m = false := by
  induction l generalizing m i with
  | nil => simp at h1
  | cons x r ih =>
    cases m with
    | nil => simp at h2
    | cons y s =>
      cases i with
      | zero => simp only [List.getElem_cons_zero] at h; simp [Sx.sames, h]
      | succ i => simp [Sx.sames, ih s i (by simpa using h1) (by simpa using h2) (by simpa using h)]

set_option maxHeartbeats 1000000 in
set_option maxRecDepth 100000 in
theorem equalf_ok (l m : List Sx) (hl : l.length ≤ 9223372036854775807) (ih : ∀ y ∈ l, SameAt 35 y) (w : World) (A B : Option Addr) (c d : Nat) (_hc : l.length ≤ c) (_hd : m.length ≤ d) (hA : Kids (fun _ => True) w A l) (hB : Kids (fun _ => True) w B m) :
    Calls Tryz.prog 57 #[.slice A l.length c, .slice B m.length d, .func (.func 35) #[] #[]] w fun e w' => e = .returned (.bool (Sx.sames l m)) ∧ Below w.heap.size w w' := by
  have HI := Lib.hid ih
  have HA := Lib.hid hA
  have HB := Lib.hid hB
  clear ih hA hB
  by_cases hlm : l.length = m.length
  · have dl : ((l.length : Int) != m.length) = false := by rw [hlm]; simp
    go_enter Tryz.func57, Tryz.ntmps57
    go_wp2
    go_loopw [17] (fun v wx => Below w.heap.size w wx ∧ ∃ i : Nat, i ≤ l.length ∧ v = .int .i64 i ∧ Sx.sames (l.take i) (m.take i) = true) (fun v _ => (l.length - intOf v).toNat)
    case atStart => exact ⟨Below.refl _ w, 0, Nat.zero_le _, rfl, by simp [Sx.sames]⟩
    case round =>
      obtain ⟨hBx, i, hi, rfl, hs⟩ := hrel
      by_cases hin : i < l.length
      · have hiz : (i : Int) < (l.length : Int) := by omega
        have hiz2 : (i : Int) < (m.length : Int) := by omega
        have hin2 : i < m.length := by omega
        have d1 : decide ((i : Int) < l.length) = true := decide_eq_true hiz
        obtain ⟨b, off, k1, t1, B1, n1, m1, rfl, _, hlt, x0, x1, x2, hy⟩ := (HA.out.keep hBx) i hin
        obtain ⟨b2, off2, k2, t2, B2, n2, m2, rfl, _, hlt2, z0, z1, z2, hz⟩ := (HB.out.keep hBx) i hin2
        have HT := Lib.hid (sames_take l m i hin hin2)
        have HS := Lib.hid hs
        have HN := Lib.hid (sames_not l m i hin hin2)
        have HY := Lib.hid (HI.out (l[i]) (List.getElem_mem hin) (m[i]))
        have HLY := Lib.hid hy
        have HLZ := Lib.hid hz
        clear hs hy hz HA HB HI
        obtain ⟨r, hr⟩ : ∃ r, (l[i]).same (m[i]) = r := ⟨_, rfl⟩
        rw [hr] at HT HN HY
        clear hr hlm
        have hbb : Below wr.heap.size wr ((wr.alloc (.cells #[.int .i8 k1, .string t1, .slice B1 n1 m1] 28)).alloc (.cells #[.int .i8 k2, .string t2, .slice B2 n2 m2] 28)) := ((Below.refl _ wr).alloc (Nat.le_refl _) _).alloc (by simp) _
        have hLA := Lib.hid (HLY.out.keep hbb)
        have hLB := Lib.hid (HLZ.out.keep hbb)
        have HBB := Lib.hid hbb
        clear HLY HLZ hbb
        cases r with
        | true =>
          go_wp2_with (go_at_call 35; refine (HY.out _ _ _ hLA.out hLB.out).mono ?_; rintro e w1 ⟨rfl, hb1⟩)
          go_roundw
          case rel => exact ⟨(hBx.trans (HBB.out.mono hBx.size)).trans (hb1.mono (Nat.le_trans hBx.size HBB.out.size)), i + 1, by omega, by go_num, by rw [HT.out, HS.out]; rfl⟩
          case measure => simp only [intOf]; omega
        | false =>
          have HN2 := Lib.hid (HN.out rfl)
          go_wp2_with (go_at_call 35; refine (HY.out _ _ _ hLA.out hLB.out).mono ?_; rintro e w1 ⟨rfl, hb1⟩)
          go_ret
          exact ⟨by rw [HN2.out]; rfl, (hBx.trans (HBB.out.mono hBx.size)).trans (hb1.mono (Nat.le_trans hBx.size HBB.out.size))⟩
      · have d1 : decide ((i : Int) < l.length) = false := decide_eq_false (by omega)
        have d2 : decide ((i : Int) < m.length) = false := decide_eq_false (by omega)
        have d3 : decide (i < m.length) = false := decide_eq_false (by omega)
        have e1 : l.take i = l := List.take_of_length_le (by omega)
        have e2 : m.take i = m := List.take_of_length_le (by omega)
        rw [e1, e2] at hs
        have HS := Lib.hid hs
        clear hs e1 e2
        go_wp2
        go_ret
        exact ⟨by rw [HS.out]; rfl, hBx⟩
  · have dl : ((l.length : Int) != m.length) = true := bne_iff_ne.2 (by omega)
    rw [sames_len l m hlm]
    go_enter Tryz.func57, Tryz.ntmps57
    go_wp2
    go_ret
    exact ⟨rfl, Below.refl _ _⟩

theorem str_eq {t t' : ByteArray} {b : Bool} (h : (byts t == byts t') = b) : (t.toList == t'.toList) = b := by rw [← h, Lib.toList_data, Lib.toList_data]

set_option maxHeartbeats 1000000 in
set_option maxRecDepth 100000 in
theorem same_at (y : Sx) : SameAt 35 y := by
  induction y using Sx.ind with
  | h k T l ih =>
  intro z v v' w hv hv'
  obtain ⟨k', T', l'⟩ := z
  obtain ⟨t, A, c, rfl, rfl, hlc, _, hmax, hk⟩ := hv.open_
  obtain ⟨t', A', c', rfl, rfl, hlc', _, _, hk'⟩ := hv'.open_
  have HI := Lib.hid ih
  have HA := Lib.hid hk
  have HB := Lib.hid hk'
  clear ih hk hk' hv hv'
  have es : (Sx.mk k (byts t) l).same (Sx.mk k' (byts t') l') = ((k == k') && ((byts t == byts t') && Sx.sames l l')) := by rw [Sx.same]
  rw [es]
  clear es
  have hB0 : Below w.heap.size w ((w.alloc (.cells #[.int .i8 k, .string t, .slice A l.length c] 28)).alloc (.cells #[.int .i8 k', .string t', .slice A' l'.length c'] 28)) := ((Below.refl _ w).alloc (Nat.le_refl _) _).alloc (by simp) _
  have HB0 := Lib.hid hB0
  clear hB0
  cases hkk : k == k' with
  | true =>
    cases htt : byts t == byts t' with
    | true =>
      have b2 := str_eq htt
      clear htt
      go_enter Tryz.func35, Tryz.ntmps35
      go_wp2_with (go_at_call 57; refine (equalf_ok l l' hmax HI.out _ A A' c c' hlc hlc' (HA.out.keep HB0.out) (HB.out.keep HB0.out)).mono ?_; rintro e w1 ⟨rfl, hb1⟩)
      go_ret
      exact ⟨rfl, HB0.out.trans (hb1.mono HB0.out.size)⟩
    | false =>
      have b2 := str_eq htt
      clear htt
      go_enter Tryz.func35, Tryz.ntmps35
      go_wp2
      go_ret
      exact ⟨rfl, HB0.out⟩
  | false =>
    go_enter Tryz.func35, Tryz.ntmps35
    go_wp2
    go_ret
    exact ⟨rfl, HB0.out⟩

set_option maxHeartbeats 1000000 in
set_option maxRecDepth 100000 in
theorem rsame_at (y : Sx) : SameAt 14 y := by
  induction y using Sx.ind with
  | h k T l ih =>
  intro z v v' w hv hv'
  obtain ⟨k', T', l'⟩ := z
  obtain ⟨t, A, c, rfl, rfl, hlc, _, hmax, hk⟩ := hv.open_
  obtain ⟨t', A', c', rfl, rfl, hlc', _, _, hk'⟩ := hv'.open_
  have HI := Lib.hid ih
  have es : (Sx.mk k (byts t) l).same (Sx.mk k' (byts t') l') = ((k == k') && ((byts t == byts t') && Sx.sames l l')) := by rw [Sx.same]
  rw [es]
  obtain ⟨W, hW⟩ : ∃ W, (w.alloc (.cells #[.int .i8 k, .string t, .slice A l.length c] 28)).alloc (.cells #[.int .i8 k', .string t', .slice A' l'.length c'] 28) = W := ⟨_, rfl⟩
  have hB0 : Below w.heap.size w W := hW ▸ ((Below.refl _ w).alloc (Nat.le_refl _) _).alloc (by simp) _
  have hba := hW ▸ ((Blk.new w 28 #[.int .i8 k, .string t, .slice A l.length c]).alloc (.cells #[.int .i8 k', .string t', .slice A' l'.length c'] 28))
  have hbb : Blk W (w.heap.size + 1) 28 #[.int .i8 k', .string t', .slice A' l'.length c'] := hW ▸ Blk.new_at (by simp) _ _
  have HB0 := Lib.hid hB0
  have HBA := Lib.hid hba
  have HBB := Lib.hid hbb
  have HA := Lib.hid hk
  have HB := Lib.hid hk'
  clear es ih hk hk' hv hv' hB0 hba hbb
  have hkn : (k != k') = !(k == k') := rfl
  have htn : (t.toList != t'.toList) = !(t.toList == t'.toList) := rfl
  cases hkk : k == k' with
  | true =>
    rw [hkk] at hkn
    cases htt : byts t == byts t' with
    | true =>
      have b2 := str_eq htt
      rw [b2] at htn
      clear htt
      by_cases hll : l.length = l'.length
      · have dl : ((l.length : Int) != l'.length) = false := by rw [hll]; simp
        have HLL := Lib.hid hll
        clear hll
        subst hW
        go_enter Tryz.func14, Tryz.ntmps14
        go_wp2
        generalize (w.alloc (.cells #[.int .i8 k, .string t, .slice A l.length c] 28)).alloc (.cells #[.int .i8 k', .string t', .slice A' l'.length c'] 28) = W at HB0 HBA HBB ⊢
        go_loopw [5] (fun v wx => Below W.heap.size W wx ∧ ∃ i : Nat, i ≤ l.length ∧ v = .int .i64 i ∧ Sx.sames (l.take i) (l'.take i) = true) (fun v _ => (l.length - intOf v).toNat)
        case atStart => exact ⟨Below.refl _ _, 0, Nat.zero_le _, rfl, by simp [Sx.sames]⟩
        case round =>
          obtain ⟨hBx, i, hi, rfl, hs⟩ := hrel
          have hBw := HB0.out.trans (hBx.mono HB0.out.size)
          obtain ⟨p0, p1, p2, _⟩ := blk3 (HBA.out.below hBx HBA.out.lt)
          obtain ⟨q0, q1, q2, _⟩ := blk3 (HBB.out.below hBx HBB.out.lt)
          by_cases hin : i < l.length
          · have hin2 : i < l'.length := by have := HLL.out; omega
            have hiz : (i : Int) < (l.length : Int) := by omega
            have hiz2 : (i : Int) < (l'.length : Int) := by omega
            have d1 : decide ((i : Int) < l.length) = true := decide_eq_true hiz
            obtain ⟨b, off, k1, t1, B1, n1, m1, rfl, _, hlt, x0, x1, x2, hy⟩ := (HA.out.keep hBw) i hin
            obtain ⟨b2', off2, k2, t2, B2, n2, m2, rfl, _, hlt2, z0, z1, z2, hz⟩ := (HB.out.keep hBw) i hin2
            have HT := Lib.hid (sames_take l l' i hin hin2)
            have HS := Lib.hid hs
            have HN := Lib.hid (sames_not l l' i hin hin2)
            have HY := Lib.hid (HI.out (l[i]) (List.getElem_mem hin) (l'[i]))
            have HLY := Lib.hid hy
            have HLZ := Lib.hid hz
            have HBW := Lib.hid hBw
            have hKP : ∀ w1 : World, Below wr.heap.size wr w1 → w1.cell? ⟨w.heap.size, 2, none⟩ = some (.slice (some ⟨b, off, none⟩) l.length c) ∧ w1.cell? ⟨w.heap.size + 1, 2, none⟩ = some (.slice (some ⟨b2', off2, none⟩) l'.length c') ∧ w1.cell? ⟨b, off + i * 3, none⟩ = some (.int .i8 k1) ∧ w1.cell? ⟨b, off + i * 3 + 1, none⟩ = some (.string t1) ∧ w1.cell? ⟨b, off + i * 3 + 2, none⟩ = some (.slice B1 n1 m1) ∧ w1.cell? ⟨b2', off2 + i * 3, none⟩ = some (.int .i8 k2) ∧ w1.cell? ⟨b2', off2 + i * 3 + 1, none⟩ = some (.string t2) ∧ w1.cell? ⟨b2', off2 + i * 3 + 2, none⟩ = some (.slice B2 n2 m2) := fun w1 h1 =>
              ⟨(h1.cell (p := ⟨w.heap.size, 2, none⟩) (HBA.out.below hBx HBA.out.lt).lt).trans p2, (h1.cell (p := ⟨w.heap.size + 1, 2, none⟩) (HBB.out.below hBx HBB.out.lt).lt).trans q2, (h1.cell (p := ⟨b, off + i * 3, none⟩) hlt).trans x0, (h1.cell (p := ⟨b, off + i * 3 + 1, none⟩) hlt).trans x1, (h1.cell (p := ⟨b, off + i * 3 + 2, none⟩) hlt).trans x2, (h1.cell (p := ⟨b2', off2 + i * 3, none⟩) hlt2).trans z0, (h1.cell (p := ⟨b2', off2 + i * 3 + 1, none⟩) hlt2).trans z1, (h1.cell (p := ⟨b2', off2 + i * 3 + 2, none⟩) hlt2).trans z2⟩
            have HKP := Lib.hid hKP
            clear hs hy hz HA HB HI hBw hKP
            obtain ⟨r, hr⟩ : ∃ r, (l[i]).same (l'[i]) = r := ⟨_, rfl⟩
            rw [hr] at HT HN HY
            clear hr
            cases r with
            | true =>
              go_wp2
              go_region_held3 (fun w' => w'.cell? ⟨w.heap.size, 2, none⟩ = some (.slice (some ⟨b, off, none⟩) l.length c) ∧ w'.cell? ⟨w.heap.size + 1, 2, none⟩ = some (.slice (some ⟨b2', off2, none⟩) l'.length c') ∧ w'.cell? ⟨b, off + i * 3, none⟩ = some (.int .i8 k1) ∧ w'.cell? ⟨b, off + i * 3 + 1, none⟩ = some (.string t1) ∧ w'.cell? ⟨b, off + i * 3 + 2, none⟩ = some (.slice B1 n1 m1) ∧ w'.cell? ⟨b2', off2 + i * 3, none⟩ = some (.int .i8 k2) ∧ w'.cell? ⟨b2', off2 + i * 3 + 1, none⟩ = some (.string t2) ∧ w'.cell? ⟨b2', off2 + i * 3 + 2, none⟩ = some (.slice B2 n2 m2)) (go_keep) (first | (go_at_call 14; refine (HY.out _ _ wr.drew (HLY.out.still (Nat.le_refl _) (fun _ _ _ => rfl)) (HLZ.out.still (Nat.le_refl _) (fun _ _ _ => rfl))).mono ?_; rintro e w1 ⟨rfl, hb1⟩; have hb2 := below_undrew hb1; have j0 := (HKP.out w1 hb2).1; have j1 := (HKP.out w1 hb2).2.1; have j2 := (HKP.out w1 hb2).2.2.1; have j3 := (HKP.out w1 hb2).2.2.2.1; have j4 := (HKP.out w1 hb2).2.2.2.2.1; have j5 := (HKP.out w1 hb2).2.2.2.2.2.1; have j6 := (HKP.out w1 hb2).2.2.2.2.2.2.1; have j7 := (HKP.out w1 hb2).2.2.2.2.2.2.2))
              go_wp2
              go_roundw
              case rel => exact ⟨hBx.trans (hb2.mono hBx.size), i + 1, by omega, by go_num, by rw [HT.out, HS.out]; rfl⟩
              case measure => simp only [intOf]; omega
            | false =>
              have HN2 := Lib.hid (HN.out rfl)
              go_wp2
              go_region_held3 (fun w' => w'.cell? ⟨w.heap.size, 2, none⟩ = some (.slice (some ⟨b, off, none⟩) l.length c) ∧ w'.cell? ⟨w.heap.size + 1, 2, none⟩ = some (.slice (some ⟨b2', off2, none⟩) l'.length c') ∧ w'.cell? ⟨b, off + i * 3, none⟩ = some (.int .i8 k1) ∧ w'.cell? ⟨b, off + i * 3 + 1, none⟩ = some (.string t1) ∧ w'.cell? ⟨b, off + i * 3 + 2, none⟩ = some (.slice B1 n1 m1) ∧ w'.cell? ⟨b2', off2 + i * 3, none⟩ = some (.int .i8 k2) ∧ w'.cell? ⟨b2', off2 + i * 3 + 1, none⟩ = some (.string t2) ∧ w'.cell? ⟨b2', off2 + i * 3 + 2, none⟩ = some (.slice B2 n2 m2)) (go_keep) (first | (go_at_call 14; refine (HY.out _ _ wr.drew (HLY.out.still (Nat.le_refl _) (fun _ _ _ => rfl)) (HLZ.out.still (Nat.le_refl _) (fun _ _ _ => rfl))).mono ?_; rintro e w1 ⟨rfl, hb1⟩; have hb2 := below_undrew hb1; have j0 := (HKP.out w1 hb2).1; have j1 := (HKP.out w1 hb2).2.1; have j2 := (HKP.out w1 hb2).2.2.1; have j3 := (HKP.out w1 hb2).2.2.2.1; have j4 := (HKP.out w1 hb2).2.2.2.2.1; have j5 := (HKP.out w1 hb2).2.2.2.2.2.1; have j6 := (HKP.out w1 hb2).2.2.2.2.2.2.1; have j7 := (HKP.out w1 hb2).2.2.2.2.2.2.2))
              go_wp2
              go_ret
              exact ⟨by rw [HN2.out]; rfl, HBW.out.trans (hb2.mono HBW.out.size)⟩
          · have d1 : decide ((i : Int) < l.length) = false := decide_eq_false (by omega)
            have e1 : l.take i = l := List.take_of_length_le (by omega)
            have e2 : l'.take i = l' := List.take_of_length_le (by have := HLL.out; omega)
            rw [e1, e2] at hs
            have HS := Lib.hid hs
            have HBW := Lib.hid hBw
            clear hs e1 e2 hBw
            go_wp2
            go_ret
            exact ⟨by rw [HS.out]; rfl, HBW.out⟩
      · have dl : ((l.length : Int) != l'.length) = true := bne_iff_ne.2 (by omega)
        rw [sames_len l l' hll]
        subst hW
        go_enter Tryz.func14, Tryz.ntmps14
        go_wp2
        go_ret
        exact ⟨rfl, HB0.out⟩
    | false =>
      have b2 := str_eq htt
      rw [b2] at htn
      clear htt
      subst hW
      go_enter Tryz.func14, Tryz.ntmps14
      go_wp2
      go_ret
      exact ⟨rfl, HB0.out⟩
  | false =>
    rw [hkk] at hkn
    subst hW
    go_enter Tryz.func14, Tryz.ntmps14
    go_wp2
    go_ret
    exact ⟨rfl, HB0.out⟩
end Go.Proofs.YtiklliiamljogaaGreatDoor

/- What the walks of the laws share: Read and All as values. -/
namespace Go.Proofs.YtiklliiamljogaaGreatDoor
open Go.RowKit

/-- What is handed over: the expression (or none), where, the error. -/
def Rd.out : Rd → Sx × Nat × Int
  | .ok x q => (x, q, 0)
  | .err n c => (.mk 0 [] [], n, c)
def ReadOut (R : Sx × Nat × Int) (w w' : World) (e : Ending) : Prop := (∃ y : C3, Lies (fun b => w.heap.size ≤ b) w' y.val R.1 ∧ e = .returned (.tuple #[.agg #[.int .i8 y.k, .string y.t, .slice y.A y.n y.c], .int .i64 R.2.1, .int .i64 R.2.2])) ∧ Below w.heap.size w w'
theorem RdIs.out {rd : Rd} {w w' : World} {e : Ending} (h : RdIs (fun b => w.heap.size ≤ b) w' rd e ∧ Below w.heap.size w w') : ReadOut rd.out w w' e := by
  cases rd with
  | ok x q =>
    obtain ⟨⟨v, hl, rfl⟩, hb⟩ := h
    obtain ⟨y, rfl⟩ := hl.c3
    exact ⟨⟨y, hl, rfl⟩, hb⟩
  | err n c =>
    obtain ⟨h, hb⟩ := h
    exact ⟨⟨⟨0, ⟨#[]⟩, none, 0, 0⟩, Lies.leaf _ _ _ _, h⟩, hb⟩
/-- What Read tells of a text. -/
def readM (L : List UInt8) (a : Int) : Sx × Nat × Int := Rd.out (if a < 0 then .err 0 2 else topP L (fromI a L.length))
theorem Read_out (s : ByteArray) (a : Int) (hs : s.size ≤ 1000000) (w : World) : Calls Tryz.prog 63 #[.string s, .int .i64 a] w fun e w' => ReadOut (readM (byts s) a) w w' e := by
  refine (Read_ s a w hs).mono fun e w' h => ?_
  unfold readM
  rw [byts_len]
  exact RdIs.out h
theorem rRead_out (s : ByteArray) (a : Int) (hs : s.size ≤ 1000000) (w : World) : Calls Tryz.prog 65 #[.string s, .int .i64 a] w fun e w' => ReadOut (readM (byts s) a) w w' e := by
  refine (rRead s a w hs).mono fun e w' h => ?_
  unfold readM
  rw [byts_len]
  exact RdIs.out h
/-- What All tells of a text. -/
def allM (L : List UInt8) : List Sx × Nat × Int := allF L (L.length + 1) 0 []
theorem allF_len (L : List UInt8) : ∀ (f p : Nat) (acc : List Sx), p ≤ L.length → acc.length ≤ p → (allF L f p acc).1.length ≤ L.length
  | 0, p, acc, hp, ha => by unfold allF; simp only; omega
  | f + 1, p, acc, hp, ha => by
    unfold allF
    split
    · simp only; omega
    · split
      · rename_i x n ht
        have := topP_ok hp ht
        exact allF_len L f n (acc ++ [x]) this.2.1 (by rw [List.length_append, List.length_singleton]; omega)
      · simp only; omega
def AllOut (R : List Sx × Nat × Int) (w w' : World) (e : Ending) : Prop := (∃ A c, R.1.length ≤ c ∧ Kids (fun b => w.heap.size ≤ b) w' A R.1 ∧ e = .returned (.tuple #[.slice A R.1.length c, .int .i64 R.2.1, .int .i64 R.2.2])) ∧ Below w.heap.size w w'
theorem Acc.row {w : World} {D : Nat} {sv : Value} {cs : List C3} {xs : List Sx} (h : Acc w D sv cs xs) (hn : xs.length < 9223372036854775807) : ∃ A c, sv = .slice A xs.length c ∧ xs.length ≤ c ∧ Kids (fun b => D ≤ b) w A xs := by
  obtain ⟨t, A, c, hv, _, hlc, _, _, hk⟩ := (h.lies hn).open_
  injection hv with e
  injection e with e
  injection e with _ e
  injection e with _ e
  injection e with e2 e
  exact ⟨A, c, e2, hlc, hk⟩
theorem All_out (s : ByteArray) (hs : s.size ≤ 1000000) (w : World) : Calls Tryz.prog 38 #[.string s] w fun e w' => AllOut (allM (byts s)) w w' e := by
  refine (all_ok3 s w hs).mono ?_
  rintro e w' ⟨⟨sv, cs, ha, rfl⟩, hb⟩
  unfold allM
  rw [byts_len]
  have hn := allF_len (byts s) (s.size + 1) 0 [] (Nat.zero_le _) (Nat.zero_le _)
  rw [byts_len] at hn
  obtain ⟨A, c, rfl, hlc, hk⟩ := ha.row (by omega)
  exact ⟨⟨A, c, hlc, hk, rfl⟩, hb⟩
theorem rAll_out (s : ByteArray) (hs : s.size ≤ 1000000) (w : World) : Calls Tryz.prog 39 #[.string s] w fun e w' => AllOut (allM (byts s)) w w' e := by
  refine (rall_ok s w hs).mono ?_
  rintro e w' ⟨⟨sv, cs, ha, rfl⟩, hb⟩
  unfold allM
  rw [byts_len]
  have hn := allF_len (byts s) (s.size + 1) 0 [] (Nat.zero_le _) (Nat.zero_le _)
  rw [byts_len] at hn
  obtain ⟨A, c, rfl, hlc, hk⟩ := ha.row (by omega)
  exact ⟨⟨A, c, hlc, hk, rfl⟩, hb⟩
theorem Kids.mono {S S' : Nat → Prop} {w : World} {A : Option Addr} {l : List Sx} (h : Kids S w A l) (hS : ∀ b, b < w.heap.size → S b → S' b) : Kids S' w A l := fun i hi => by
  obtain ⟨b, off, k, t, B, n, c, e, hSb, hlt, h0, h1, h2, hl⟩ := h i hi
  exact ⟨b, off, k, t, B, n, c, e, hS b hlt hSb, hlt, h0, h1, h2, hl.mono hS⟩
theorem same_refl (x : Sx) : x.same x = true := (Sx.same_eq x x).2 rfl
end Go.Proofs.YtiklliiamljogaaGreatDoor

/- Tokens and what stands about them (the laws of layer 02's XLexO that need no iterator). -/
namespace Go.Proofs.YtiklliiamljogaaGreatDoor
open Go.RowKit

theorem signs_append {l m : List UInt8} (h : signs m = []) : signs (signs l ++ m) = signs l := by
  have h1 : signs (signs l ++ m) = signs l ++ signs m := by
    unfold signs
    rw [List.takeWhile_append_of_pos]
    intro a ha
    exact List.all_eq_true.1 (List.all_takeWhile (p := fun c : UInt8 => signN c.toNat) (l := l)) a ha
  rw [h1, h, List.append_nil]
theorem signs_rest : ∀ l : List UInt8, signs (l.drop (signs l).length) = []
  | [] => rfl
  | c :: t => by
    unfold signs
    rw [List.takeWhile_cons]
    split
    · rw [List.length_cons, List.drop_succ_cons]
      exact signs_rest t
    · rename_i h
      rw [List.length_nil, List.drop_zero, List.takeWhile_cons, if_neg h]
theorem signs_nl {x : List UInt8} (h : signs x = []) (b : List UInt8) : signs (x ++ 10 :: b) = [] := by
  cases x with
  | nil => rfl
  | cons c t =>
    unfold signs at h ⊢
    rw [List.cons_append, List.takeWhile_cons]
    rw [List.takeWhile_cons] at h
    split
    · rename_i h2; rw [if_pos h2] at h; cases h
    · rfl
theorem raw_of {k : Nat} {t : List UInt8} {n : Nat} (h : t.length ≤ 100) : raw k t n = some ⟨k, t, n⟩ := by unfold raw; rw [if_pos h]
theorem raw_le {k : Nat} {t : List UInt8} {n : Nat} {r : Raw} (h : raw k t n = some r) : t.length ≤ 100 := by
  unfold raw at h
  split at h
  · assumption
  · cases h

theorem tok_first : ∀ x : Fin 256, byN x.val ≤ 5 → whiteN x.val = false ∧ x.val ≠ 59 := by decide +kernel
theorem sign_five : ∀ x : Fin 256, (byN x.val = 4 ∨ byN x.val = 5) → signN x.val = true := by decide +kernel

/-- A token is the same whatever stands behind it, or whatever stands behind it that begins with no sign. -/
theorem tok_pre {l : List UInt8} {r : Raw} (h : tok l = some r) :
    (∀ m, tok (l.take r.n ++ m) = some r) ∨ (signs (l.drop r.n) = [] ∧ ∀ m, signs m = [] → tok (l.take r.n ++ m) = some r) := by
  cases l with
  | nil => cases h
  | cons c t =>
    rw [tok_cons] at h
    have hcons : signN c.toNat = true → signs (c :: t) = c :: signs t := fun hs => by
      unfold signs
      rw [List.takeWhile_cons, if_pos hs]
    split at h
    · rename_i hk
      rw [raw_eq h]
      exact .inl fun m => by
        show tok (c :: m) = _
        rw [tok_cons, hk]; rfl
    · rename_i hk
      rw [raw_eq h]
      exact .inl fun m => by
        show tok (c :: m) = _
        rw [tok_cons, hk]; rfl
    · rename_i hk
      unfold tokBar at h
      split at h
      · rename_i hm
        simp only at h
        split at h
        · rename_i hall
          have hle := raw_le h
          rw [raw_eq h]
          simp only
          obtain ⟨u, v, huv, hu⟩ : ∃ u v, t = u ++ 124 :: v ∧ t.takeWhile (fun c => c != 124) = u := by
            have h1 : t = t.takeWhile (fun c => c != 124) ++ t.dropWhile (fun c => c != 124) := (List.takeWhile_append_dropWhile).symm
            cases hd : t.dropWhile (fun c => c != 124) with
            | nil =>
              exfalso
              rw [hd, List.append_nil] at h1
              rw [h1] at hm
              have := List.all_eq_true.1 (List.all_takeWhile (p := fun c : UInt8 => c != 124) (l := t)) _ hm
              simp at this
            | cons a v =>
              have h2 : ¬ (a != 124) = true := by
                have := List.head_dropWhile_not (fun c : UInt8 => c != 124) (l := t) (by rw [hd]; simp)
                simp only [hd, List.head_cons] at this
                simpa using this
              obtain rfl : a = 124 := by simpa using h2
              exact ⟨_, v, by rw [← hd]; exact h1, rfl⟩
          rw [hu] at hall hle ⊢
          refine .inl fun m => ?_
          have h3 : (c :: t).take (u.length + 2) = c :: (u ++ [124]) := by
            rw [huv, List.take_succ_cons, List.take_append, List.take_of_length_le (by omega)]
            have : u.length + 1 - u.length = 1 := by omega
            rw [this]
            rfl
          rw [h3, List.cons_append, tok_cons, hk]
          show tokBar (u ++ [124] ++ m) = _
          have h4 : (u ++ [124] ++ m).takeWhile (fun c => c != 124) = u := by
            rw [List.append_assoc, List.takeWhile_append_of_pos]
            · simp
            · intro a ha
              rw [← hu] at ha
              exact List.all_eq_true.1 (List.all_takeWhile (p := fun c : UInt8 => c != 124) (l := t)) a ha
          unfold tokBar
          rw [if_pos (by simp)]
          simp only [h4]
          rw [if_pos hall, raw_of hle]
        · cases h
      · cases h
    · rename_i hk
      rw [tokKey_eq h]
      refine .inr ⟨by rw [List.drop_succ_cons]; exact signs_rest t, fun m hm => ?_⟩
      simp only
      rw [List.take_succ_cons, take_signs, List.cons_append, tok_cons, hk]
      show tokKey (signs t ++ m) = _
      have := tokKey_eq h
      unfold tokKey at h ⊢
      simp only [signs_append hm]
      rw [h, this]
    · rename_i hk
      have hs := hcons (sign_five ⟨c.toNat, c.toNat_lt⟩ (.inl hk))
      have he := tokNum_eq h
      rw [he]
      refine .inr ⟨signs_rest _, fun m hm => ?_⟩
      simp only
      rw [take_signs]
      have h5 : signs (signs (c :: t) ++ m) = signs (c :: t) := signs_append hm
      have h6 : signs (c :: t) ++ m = c :: (signs t ++ m) := by rw [hs]; rfl
      have h7 : tok (signs (c :: t) ++ m) = tokNum (signs (c :: t) ++ m) := by rw [h6, tok_cons, hk]; rfl
      rw [h7]
      unfold tokNum at h ⊢
      simp only [h5]
      rw [h, he]
    · rename_i hk
      have hs := hcons (sign_five ⟨c.toNat, c.toNat_lt⟩ (.inr hk))
      have he : r = ⟨2, signs (c :: t), (signs (c :: t)).length⟩ := raw_eq h
      rw [he]
      refine .inr ⟨signs_rest _, fun m hm => ?_⟩
      simp only
      rw [take_signs]
      have h5 : signs (signs (c :: t) ++ m) = signs (c :: t) := signs_append hm
      have h6 : signs (c :: t) ++ m = c :: (signs t ++ m) := by rw [hs]; rfl
      have h7 : tok (signs (c :: t) ++ m) = tokName (signs (c :: t) ++ m) := by rw [h6, tok_cons, hk]; rfl
      rw [h7]
      unfold tokName at h ⊢
      simp only [h5]
      rw [h, he]
    · cases h

theorem tok_take {l : List UInt8} {r : Raw} (h : tok l = some r) : tok (l.take r.n) = some r := by
  rcases tok_pre h with h1 | ⟨_, h1⟩
  · have := h1 []; rwa [List.append_nil] at this
  · have := h1 [] rfl; rwa [List.append_nil] at this
theorem tok_nl {l : List UInt8} {r : Raw} (h : tok l = some r) (b : List UInt8) : tok (l ++ 10 :: b) = some r := by
  have hl := tok_len h
  have he : l ++ 10 :: b = l.take r.n ++ (l.drop r.n ++ 10 :: b) := by rw [← List.append_assoc, List.take_append_drop]
  rw [he]
  rcases tok_pre h with h1 | ⟨h2, h1⟩
  · exact h1 _
  · exact h1 _ (signs_nl h2 b)
theorem tok_sk {l : List UInt8} {r : Raw} (h : tok l = some r) (m : List UInt8) : sk false (l ++ m) = 0 := by
  cases l with
  | nil => cases h
  | cons c t =>
    have hb : byN c.toNat ≤ 5 := by
      have := byN_le c.toNat
      rcases Nat.lt_or_ge (byN c.toNat) 6 with h1 | h1
      · omega
      · have h6 : byN c.toNat = 6 := by omega
        rw [tok_cons, h6] at h
        cases h
    have := tok_first ⟨c.toNat, c.toNat_lt⟩ hb
    rw [List.cons_append, sk_f, if_neg this.2, if_neg (by rw [this.1]; decide)]

theorem startL_shift (pre b : List UInt8) (q : Nat) : startL (pre ++ b) (pre.length + q) = pre.length + startL b q := by
  unfold startL
  rw [List.drop_append, List.drop_of_length_le (by omega), List.nil_append]
  have : pre.length + q - pre.length = q := by omega
  rw [this]
  omega
theorem drop_shift (pre b : List UInt8) (q : Nat) : (pre ++ b).drop (pre.length + q) = b.drop q := by
  rw [List.drop_append, List.drop_of_length_le (by omega), List.nil_append]
  congr 1
  omega
theorem sk_glue : ∀ (c : Bool) (x b : List UInt8), sk c x = x.length → sk c (x ++ 10 :: b) = x.length + 1 + sk false b
  | false, [], b, _ => by
    rw [List.nil_append, sk_f, if_neg (by decide), if_pos (by decide)]
    simp
  | true, [], b, _ => by
    rw [List.nil_append, sk_c, if_pos (by decide)]
    simp
  | false, a :: x, b, h => by
    rw [sk_f, List.length_cons] at h
    rw [List.cons_append, sk_f, List.length_cons]
    split
    · rename_i h1
      rw [if_pos h1] at h
      rw [sk_glue true x b (by omega)]; omega
    · rename_i h1
      rw [if_neg h1] at h
      split
      · rename_i h2
        rw [if_pos h2] at h
        rw [sk_glue false x b (by omega)]; omega
      · rename_i h2
        rw [if_neg h2] at h
        omega
  | true, a :: x, b, h => by
    rw [sk_c, List.length_cons] at h
    rw [List.cons_append, sk_c, List.length_cons]
    split
    · rename_i h1
      rw [if_pos h1] at h
      rw [sk_glue false x b (by omega)]; omega
    · rename_i h1
      rw [if_neg h1] at h
      rw [sk_glue true x b (by omega)]; omega
theorem sk_more : ∀ (c : Bool) (x y : List UInt8), sk c x < x.length → sk c (x ++ y) = sk c x
  | c, [], y, h => by cases h
  | false, a :: x, y, h => by
    rw [sk_f, List.length_cons] at h
    rw [List.cons_append, sk_f, sk_f]
    split
    · rename_i h1
      rw [if_pos h1] at h
      rw [sk_more true x y (by omega)]
    · rename_i h1
      rw [if_neg h1] at h
      split
      · rename_i h2
        rw [if_pos h2] at h
        rw [sk_more false x y (by omega)]
      · rfl
  | true, a :: x, y, h => by
    rw [sk_c, List.length_cons] at h
    rw [List.cons_append, sk_c, sk_c]
    split
    · rename_i h1
      rw [if_pos h1] at h
      rw [sk_more false x y (by omega)]
    · rename_i h1
      rw [if_neg h1] at h
      rw [sk_more true x y (by omega)]
end Go.Proofs.YtiklliiamljogaaGreatDoor

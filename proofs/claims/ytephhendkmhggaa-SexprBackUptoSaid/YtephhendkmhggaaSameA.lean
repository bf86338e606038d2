/- Same, and slices.EqualFunc upon it. -/
import Derived.Test.YtephhendkmhggaaTreeI
import Derived.Test.YtephhendkmhggaaTreeM
namespace Go.Proofs.Ytephhendkmhggaa
open Go.RowKit

/-- Same is right at whatever is no greater. -/
def SameAt (F : FuncId) (y : Sx) : Prop := ∀ (z : Sx) (v v' : Value) (w : World), Lies (fun _ => True) w v y → Lies (fun _ => True) w v' z → Calls Try.prog F #[v, v'] w fun e w' => e = .returned (.bool (y.same z)) ∧ Below w.heap.size w w'

theorem sames_take (l m : List Sx) (i : Nat) (h1 : i < l.length) (h2 : i < m.length) : Sx.sames (l.take (i + 1)) (m.take (i + 1)) = (Sx.sames (l.take i) (m.take i) && (l[i]).same (m[i])) := by
  induction l generalizing m i with
  | nil => simp at h1
  | cons x r ih =>
    cases m with
    | nil => simp at h2
    | cons y s =>
      cases i with
      | zero => simp [Sx.sames]
      | succ i =>
        have := ih s i (by simpa using h1) (by simpa using h2)
        simp only [List.take_succ_cons, Sx.sames, List.getElem_cons_succ]
        rw [this, Bool.and_assoc]
theorem sames_len : ∀ (l m : List Sx), l.length ≠ m.length → Sx.sames l m = false
  | [], [], h => absurd rfl h
  | [], _ :: _, _ => by simp [Sx.sames]
  | _ :: _, [], _ => by simp [Sx.sames]
  | x :: r, y :: s, h => by
    have h2 : r.length ≠ s.length := fun e => h (by simp [e])
    simp [Sx.sames, sames_len r s h2]
theorem sames_not (l m : List Sx) (i : Nat) (h1 : i < l.length) (h2 : i < m.length) (h : (l[i]).same (m[i]) = false) : Sx.sames l m = false := by
  induction l generalizing m i with
  | nil => simp at h1
  | cons x r ih =>
    cases m with
    | nil => simp at h2
    | cons y s =>
      cases i with
      | zero => simp only [List.getElem_cons_zero] at h; simp [Sx.sames, h]
      | succ i => simp [Sx.sames, ih s i (by simpa using h1) (by simpa using h2) (by simpa using h)]

set_option maxHeartbeats 1000000 in
set_option maxRecDepth 100000 in
theorem equalf_ok (l m : List Sx) (hl : l.length ≤ 9223372036854775807) (ih : ∀ y ∈ l, SameAt 21 y) (w : World) (A B : Option Addr) (c d : Nat) (hc : l.length ≤ c) (hd : m.length ≤ d) (hA : Kids (fun _ => True) w A l) (hB : Kids (fun _ => True) w B m) :
    Calls Try.prog 35 #[.slice A l.length c, .slice B m.length d, .func (.func 21) #[] #[]] w fun e w' => e = .returned (.bool (Sx.sames l m)) ∧ Below w.heap.size w w' := by
  have HI := Lib.hid ih
  have HA := Lib.hid hA
  have HB := Lib.hid hB
  clear ih hA hB
  by_cases hlm : l.length = m.length
  · have dl : ((l.length : Int) != m.length) = false := by rw [hlm]; simp
    go_enter Try.func35, Try.ntmps35
    go_wp2
    go_loopw [17] (fun v wx => Below w.heap.size w wx ∧ ∃ i : Nat, i ≤ l.length ∧ v = .int .i64 i ∧ Sx.sames (l.take i) (m.take i) = true) (fun v _ => (l.length - intOf v).toNat)
    case atStart => exact ⟨Below.refl _ w, 0, Nat.zero_le _, rfl, by simp [Sx.sames]⟩
    case round =>
      obtain ⟨hBx, i, hi, rfl, hs⟩ := hrel
      by_cases hin : i < l.length
      · have hiz : (i : Int) < (l.length : Int) := by omega
        have hiz2 : (i : Int) < (m.length : Int) := by omega
        have hin2 : i < m.length := by omega
        have d1 : decide ((i : Int) < l.length) = true := decide_eq_true hiz
        obtain ⟨b, off, k1, t1, B1, n1, m1, rfl, _, hlt, x0, x1, x2, hy⟩ := (HA.out.keep hBx) i hin
        obtain ⟨b2, off2, k2, t2, B2, n2, m2, rfl, _, hlt2, z0, z1, z2, hz⟩ := (HB.out.keep hBx) i hin2
        have HT := Lib.hid (sames_take l m i hin hin2)
        have HS := Lib.hid hs
        have HN := Lib.hid (sames_not l m i hin hin2)
        have HY := Lib.hid (HI.out (l[i]) (List.getElem_mem hin) (m[i]))
        have HLY := Lib.hid hy
        have HLZ := Lib.hid hz
        clear hs hy hz HA HB HI
        obtain ⟨r, hr⟩ : ∃ r, (l[i]).same (m[i]) = r := ⟨_, rfl⟩
        rw [hr] at HT HN HY
        clear hr hlm
        have hbb : Below wr.heap.size wr ((wr.alloc (.cells #[.int .i8 k1, .string t1, .slice B1 n1 m1] 26)).alloc (.cells #[.int .i8 k2, .string t2, .slice B2 n2 m2] 26)) := ((Below.refl _ wr).alloc (Nat.le_refl _) _).alloc (by simp) _
        have hLA := Lib.hid (HLY.out.keep hbb)
        have hLB := Lib.hid (HLZ.out.keep hbb)
        have HBB := Lib.hid hbb
        clear HLY HLZ hbb
        cases r with
        | true =>
          go_wp2_with (go_at_call 21; refine (HY.out _ _ _ hLA.out hLB.out).mono ?_; rintro e w1 ⟨rfl, hb1⟩)
          go_roundw
          case rel => exact ⟨(hBx.trans (HBB.out.mono hBx.size)).trans (hb1.mono (Nat.le_trans hBx.size HBB.out.size)), i + 1, by omega, by go_num, by rw [HT.out, HS.out]; rfl⟩
          case measure => simp only [intOf]; omega
        | false =>
          have HN2 := Lib.hid (HN.out rfl)
          go_wp2_with (go_at_call 21; refine (HY.out _ _ _ hLA.out hLB.out).mono ?_; rintro e w1 ⟨rfl, hb1⟩)
          go_ret
          exact ⟨by rw [HN2.out]; rfl, (hBx.trans (HBB.out.mono hBx.size)).trans (hb1.mono (Nat.le_trans hBx.size HBB.out.size))⟩
      · have d1 : decide ((i : Int) < l.length) = false := decide_eq_false (by omega)
        have d2 : decide ((i : Int) < m.length) = false := decide_eq_false (by omega)
        have d3 : decide (i < m.length) = false := decide_eq_false (by omega)
        have e1 : l.take i = l := List.take_of_length_le (by omega)
        have e2 : m.take i = m := List.take_of_length_le (by omega)
        rw [e1, e2] at hs
        have HS := Lib.hid hs
        clear hs e1 e2
        go_wp2
        go_ret
        exact ⟨by rw [HS.out]; rfl, hBx⟩
  · have dl : ((l.length : Int) != m.length) = true := bne_iff_ne.2 (by omega)
    rw [sames_len l m hlm]
    go_enter Try.func35, Try.ntmps35
    go_wp2
    go_ret
    exact ⟨rfl, Below.refl _ _⟩

theorem str_eq {t t' : ByteArray} {b : Bool} (h : (byts t == byts t') = b) : (t.toList == t'.toList) = b := by rw [← h, Lib.toList_data, Lib.toList_data]

set_option maxHeartbeats 1000000 in
set_option maxRecDepth 100000 in
theorem same_at (y : Sx) : SameAt 21 y := by
  induction y using Sx.ind with
  | h k T l ih =>
  intro z v v' w hv hv'
  obtain ⟨k', T', l'⟩ := z
  obtain ⟨t, A, c, rfl, rfl, hlc, _, hmax, hk⟩ := hv.open_
  obtain ⟨t', A', c', rfl, rfl, hlc', _, _, hk'⟩ := hv'.open_
  have HI := Lib.hid ih
  have HA := Lib.hid hk
  have HB := Lib.hid hk'
  clear ih hk hk' hv hv'
  have es : (Sx.mk k (byts t) l).same (Sx.mk k' (byts t') l') = ((k == k') && ((byts t == byts t') && Sx.sames l l')) := by rw [Sx.same]
  rw [es]
  clear es
  have hB0 : Below w.heap.size w ((w.alloc (.cells #[.int .i8 k, .string t, .slice A l.length c] 26)).alloc (.cells #[.int .i8 k', .string t', .slice A' l'.length c'] 26)) := ((Below.refl _ w).alloc (Nat.le_refl _) _).alloc (by simp) _
  have HB0 := Lib.hid hB0
  clear hB0
  cases hkk : k == k' with
  | true =>
    cases htt : byts t == byts t' with
    | true =>
      have b2 := str_eq htt
      clear htt
      go_enter Try.func21, Try.ntmps21
      go_wp2_with (go_at_call 35; refine (equalf_ok l l' hmax HI.out _ A A' c c' hlc hlc' (HA.out.keep HB0.out) (HB.out.keep HB0.out)).mono ?_; rintro e w1 ⟨rfl, hb1⟩)
      go_ret
      exact ⟨rfl, HB0.out.trans (hb1.mono HB0.out.size)⟩
    | false =>
      have b2 := str_eq htt
      clear htt
      go_enter Try.func21, Try.ntmps21
      go_wp2
      go_ret
      exact ⟨rfl, HB0.out⟩
  | false =>
    go_enter Try.func21, Try.ntmps21
    go_wp2
    go_ret
    exact ⟨rfl, HB0.out⟩

set_option maxHeartbeats 1000000 in
set_option maxRecDepth 100000 in
theorem rsame_at (y : Sx) : SameAt 11 y := by
  induction y using Sx.ind with
  | h k T l ih =>
  intro z v v' w hv hv'
  obtain ⟨k', T', l'⟩ := z
  obtain ⟨t, A, c, rfl, rfl, hlc, _, hmax, hk⟩ := hv.open_
  obtain ⟨t', A', c', rfl, rfl, hlc', _, _, hk'⟩ := hv'.open_
  have HI := Lib.hid ih
  have es : (Sx.mk k (byts t) l).same (Sx.mk k' (byts t') l') = ((k == k') && ((byts t == byts t') && Sx.sames l l')) := by rw [Sx.same]
  rw [es]
  obtain ⟨W, hW⟩ : ∃ W, (w.alloc (.cells #[.int .i8 k, .string t, .slice A l.length c] 26)).alloc (.cells #[.int .i8 k', .string t', .slice A' l'.length c'] 26) = W := ⟨_, rfl⟩
  have hB0 : Below w.heap.size w W := hW ▸ ((Below.refl _ w).alloc (Nat.le_refl _) _).alloc (by simp) _
  have hba := hW ▸ ((Blk.new w 26 #[.int .i8 k, .string t, .slice A l.length c]).alloc (.cells #[.int .i8 k', .string t', .slice A' l'.length c'] 26))
  have hbb : Blk W (w.heap.size + 1) 26 #[.int .i8 k', .string t', .slice A' l'.length c'] := hW ▸ Blk.new_at (by simp) _ _
  have HB0 := Lib.hid hB0
  have HBA := Lib.hid hba
  have HBB := Lib.hid hbb
  have HA := Lib.hid hk
  have HB := Lib.hid hk'
  clear es ih hk hk' hv hv' hB0 hba hbb
  have hkn : (k != k') = !(k == k') := rfl
  have htn : (t.toList != t'.toList) = !(t.toList == t'.toList) := rfl
  cases hkk : k == k' with
  | true =>
    rw [hkk] at hkn
    cases htt : byts t == byts t' with
    | true =>
      have b2 := str_eq htt
      rw [b2] at htn
      clear htt
      by_cases hll : l.length = l'.length
      · have dl : ((l.length : Int) != l'.length) = false := by rw [hll]; simp
        have HLL := Lib.hid hll
        clear hll
        subst hW
        go_enter Try.func11, Try.ntmps11
        go_wp2
        generalize (w.alloc (.cells #[.int .i8 k, .string t, .slice A l.length c] 26)).alloc (.cells #[.int .i8 k', .string t', .slice A' l'.length c'] 26) = W at HB0 HBA HBB ⊢
        go_loopw [5] (fun v wx => Below W.heap.size W wx ∧ ∃ i : Nat, i ≤ l.length ∧ v = .int .i64 i ∧ Sx.sames (l.take i) (l'.take i) = true) (fun v _ => (l.length - intOf v).toNat)
        case atStart => exact ⟨Below.refl _ _, 0, Nat.zero_le _, rfl, by simp [Sx.sames]⟩
        case round =>
          obtain ⟨hBx, i, hi, rfl, hs⟩ := hrel
          have hBw := HB0.out.trans (hBx.mono HB0.out.size)
          obtain ⟨p0, p1, p2, _⟩ := blk3 (HBA.out.below hBx HBA.out.lt)
          obtain ⟨q0, q1, q2, _⟩ := blk3 (HBB.out.below hBx HBB.out.lt)
          by_cases hin : i < l.length
          · have hin2 : i < l'.length := by have := HLL.out; omega
            have hiz : (i : Int) < (l.length : Int) := by omega
            have hiz2 : (i : Int) < (l'.length : Int) := by omega
            have d1 : decide ((i : Int) < l.length) = true := decide_eq_true hiz
            obtain ⟨b, off, k1, t1, B1, n1, m1, rfl, _, hlt, x0, x1, x2, hy⟩ := (HA.out.keep hBw) i hin
            obtain ⟨b2', off2, k2, t2, B2, n2, m2, rfl, _, hlt2, z0, z1, z2, hz⟩ := (HB.out.keep hBw) i hin2
            have HT := Lib.hid (sames_take l l' i hin hin2)
            have HS := Lib.hid hs
            have HN := Lib.hid (sames_not l l' i hin hin2)
            have HY := Lib.hid (HI.out (l[i]) (List.getElem_mem hin) (l'[i]))
            have HLY := Lib.hid hy
            have HLZ := Lib.hid hz
            have HBW := Lib.hid hBw
            have hKP : ∀ w1 : World, Below wr.heap.size wr w1 → w1.cell? ⟨w.heap.size, 2, none⟩ = some (.slice (some ⟨b, off, none⟩) l.length c) ∧ w1.cell? ⟨w.heap.size + 1, 2, none⟩ = some (.slice (some ⟨b2', off2, none⟩) l'.length c') ∧ w1.cell? ⟨b, off + i * 3, none⟩ = some (.int .i8 k1) ∧ w1.cell? ⟨b, off + i * 3 + 1, none⟩ = some (.string t1) ∧ w1.cell? ⟨b, off + i * 3 + 2, none⟩ = some (.slice B1 n1 m1) ∧ w1.cell? ⟨b2', off2 + i * 3, none⟩ = some (.int .i8 k2) ∧ w1.cell? ⟨b2', off2 + i * 3 + 1, none⟩ = some (.string t2) ∧ w1.cell? ⟨b2', off2 + i * 3 + 2, none⟩ = some (.slice B2 n2 m2) := fun w1 h1 =>
              ⟨(h1.cell (p := ⟨w.heap.size, 2, none⟩) (HBA.out.below hBx HBA.out.lt).lt).trans p2, (h1.cell (p := ⟨w.heap.size + 1, 2, none⟩) (HBB.out.below hBx HBB.out.lt).lt).trans q2, (h1.cell (p := ⟨b, off + i * 3, none⟩) hlt).trans x0, (h1.cell (p := ⟨b, off + i * 3 + 1, none⟩) hlt).trans x1, (h1.cell (p := ⟨b, off + i * 3 + 2, none⟩) hlt).trans x2, (h1.cell (p := ⟨b2', off2 + i * 3, none⟩) hlt2).trans z0, (h1.cell (p := ⟨b2', off2 + i * 3 + 1, none⟩) hlt2).trans z1, (h1.cell (p := ⟨b2', off2 + i * 3 + 2, none⟩) hlt2).trans z2⟩
            have HKP := Lib.hid hKP
            clear hs hy hz HA HB HI hBw hKP
            obtain ⟨r, hr⟩ : ∃ r, (l[i]).same (l'[i]) = r := ⟨_, rfl⟩
            rw [hr] at HT HN HY
            clear hr
            cases r with
            | true =>
              go_wp2
              go_region_held3 (fun w' => w'.cell? ⟨w.heap.size, 2, none⟩ = some (.slice (some ⟨b, off, none⟩) l.length c) ∧ w'.cell? ⟨w.heap.size + 1, 2, none⟩ = some (.slice (some ⟨b2', off2, none⟩) l'.length c') ∧ w'.cell? ⟨b, off + i * 3, none⟩ = some (.int .i8 k1) ∧ w'.cell? ⟨b, off + i * 3 + 1, none⟩ = some (.string t1) ∧ w'.cell? ⟨b, off + i * 3 + 2, none⟩ = some (.slice B1 n1 m1) ∧ w'.cell? ⟨b2', off2 + i * 3, none⟩ = some (.int .i8 k2) ∧ w'.cell? ⟨b2', off2 + i * 3 + 1, none⟩ = some (.string t2) ∧ w'.cell? ⟨b2', off2 + i * 3 + 2, none⟩ = some (.slice B2 n2 m2)) (go_keep) (first | (go_at_call 11; refine (HY.out _ _ wr.drew (HLY.out.still (Nat.le_refl _) (fun _ _ _ => rfl)) (HLZ.out.still (Nat.le_refl _) (fun _ _ _ => rfl))).mono ?_; rintro e w1 ⟨rfl, hb1⟩; have hb2 := below_undrew hb1; have j0 := (HKP.out w1 hb2).1; have j1 := (HKP.out w1 hb2).2.1; have j2 := (HKP.out w1 hb2).2.2.1; have j3 := (HKP.out w1 hb2).2.2.2.1; have j4 := (HKP.out w1 hb2).2.2.2.2.1; have j5 := (HKP.out w1 hb2).2.2.2.2.2.1; have j6 := (HKP.out w1 hb2).2.2.2.2.2.2.1; have j7 := (HKP.out w1 hb2).2.2.2.2.2.2.2))
              go_wp2
              go_roundw
              case rel => exact ⟨hBx.trans (hb2.mono hBx.size), i + 1, by omega, by go_num, by rw [HT.out, HS.out]; rfl⟩
              case measure => simp only [intOf]; omega
            | false =>
              have HN2 := Lib.hid (HN.out rfl)
              go_wp2
              go_region_held3 (fun w' => w'.cell? ⟨w.heap.size, 2, none⟩ = some (.slice (some ⟨b, off, none⟩) l.length c) ∧ w'.cell? ⟨w.heap.size + 1, 2, none⟩ = some (.slice (some ⟨b2', off2, none⟩) l'.length c') ∧ w'.cell? ⟨b, off + i * 3, none⟩ = some (.int .i8 k1) ∧ w'.cell? ⟨b, off + i * 3 + 1, none⟩ = some (.string t1) ∧ w'.cell? ⟨b, off + i * 3 + 2, none⟩ = some (.slice B1 n1 m1) ∧ w'.cell? ⟨b2', off2 + i * 3, none⟩ = some (.int .i8 k2) ∧ w'.cell? ⟨b2', off2 + i * 3 + 1, none⟩ = some (.string t2) ∧ w'.cell? ⟨b2', off2 + i * 3 + 2, none⟩ = some (.slice B2 n2 m2)) (go_keep) (first | (go_at_call 11; refine (HY.out _ _ wr.drew (HLY.out.still (Nat.le_refl _) (fun _ _ _ => rfl)) (HLZ.out.still (Nat.le_refl _) (fun _ _ _ => rfl))).mono ?_; rintro e w1 ⟨rfl, hb1⟩; have hb2 := below_undrew hb1; have j0 := (HKP.out w1 hb2).1; have j1 := (HKP.out w1 hb2).2.1; have j2 := (HKP.out w1 hb2).2.2.1; have j3 := (HKP.out w1 hb2).2.2.2.1; have j4 := (HKP.out w1 hb2).2.2.2.2.1; have j5 := (HKP.out w1 hb2).2.2.2.2.2.1; have j6 := (HKP.out w1 hb2).2.2.2.2.2.2.1; have j7 := (HKP.out w1 hb2).2.2.2.2.2.2.2))
              go_wp2
              go_ret
              exact ⟨by rw [HN2.out]; rfl, HBW.out.trans (hb2.mono HBW.out.size)⟩
          · have d1 : decide ((i : Int) < l.length) = false := decide_eq_false (by omega)
            have e1 : l.take i = l := List.take_of_length_le (by omega)
            have e2 : l'.take i = l' := List.take_of_length_le (by have := HLL.out; omega)
            rw [e1, e2] at hs
            have HS := Lib.hid hs
            have HBW := Lib.hid hBw
            clear hs e1 e2 hBw
            go_wp2
            go_ret
            exact ⟨by rw [HS.out]; rfl, HBW.out⟩
      · have dl : ((l.length : Int) != l'.length) = true := bne_iff_ne.2 (by omega)
        rw [sames_len l l' hll]
        subst hW
        go_enter Try.func11, Try.ntmps11
        go_wp2
        go_ret
        exact ⟨rfl, HB0.out⟩
    | false =>
      have b2 := str_eq htt
      rw [b2] at htn
      clear htt
      subst hW
      go_enter Try.func11, Try.ntmps11
      go_wp2
      go_ret
      exact ⟨rfl, HB0.out⟩
  | false =>
    rw [hkk] at hkn
    subst hW
    go_enter Try.func11, Try.ntmps11
    go_wp2
    go_ret
    exact ⟨rfl, HB0.out⟩
end Go.Proofs.Ytephhendkmhggaa

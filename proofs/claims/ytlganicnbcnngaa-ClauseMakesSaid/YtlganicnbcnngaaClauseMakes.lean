/- ClauseMakes's walk. -/
import Derived.Test.YtlganicnbcnngaaCells
import Derived.Deep.RegionHeldLaw
import Derived.Deep.DrawnRows
namespace Go.Proofs.Ytlganicnbcnngaa
open Go.RowKit Go.Lib
attribute [local go_sem ↓] Go.wp_at_zero Go.wp_at_succ

theorem tmod_mod (t : Int) (n : Nat) (hn : 0 < n) : ∃ (q : Int) (k : Nat), t.tmod n = q ∧ -(n : Int) < q ∧ q < n ∧ (q + n).tmod n = k ∧ k < n := by
  have hn0 : (n : Int) ≠ 0 := by omega
  have h1 := Int.tmod_lt_of_pos t (show (0 : Int) < n by omega)
  have h2 : -(n : Int) < t.tmod n := by
    have := Int.tmod_lt_of_pos (-t) (show (0 : Int) < n by omega)
    rw [Int.neg_tmod] at this
    omega
  refine ⟨t.tmod n, ((t.tmod n + n).tmod n).toNat, rfl, h2, h1, ?_, ?_⟩
  · have := Int.tmod_nonneg (n : Int) (show 0 ≤ t.tmod n + n by omega)
    omega
  · have := Int.tmod_lt_of_pos (t.tmod n + n) (show (0 : Int) < n by omega)
    have := Int.tmod_nonneg (n : Int) (show 0 ≤ t.tmod n + n by omega)
    omega

theorem row_drop {w : World} {b off : Nat} {zs : List Int} (hl : zs.length ≤ 1000000) (hb : b < w.heap.size) (hc : ∀ i (h : i < zs.length), w.cell? ⟨b, off + i, none⟩ = some (.int .i64 zs[i])) (k : Nat) : Row .i64 w (some ⟨b, off + k, none⟩) (zs.drop k) := by
  refine ⟨by rw [List.length_drop]; omega, .inr ⟨b, off + k, rfl, hb, fun i hi => ?_⟩⟩
  rw [List.length_drop] at hi
  rw [Nat.add_assoc, hc (k + i) (by omega), List.getElem_drop]
theorem row_take {w : World} {b off : Nat} {zs : List Int} (hl : zs.length ≤ 1000000) (hb : b < w.heap.size) (hc : ∀ i (h : i < zs.length), w.cell? ⟨b, off + i, none⟩ = some (.int .i64 zs[i])) (k : Nat) : Row .i64 w (some ⟨b, off, none⟩) (zs.take k) := by
  refine ⟨by rw [List.length_take]; omega, .inr ⟨b, off, rfl, hb, fun i hi => ?_⟩⟩
  rw [List.length_take] at hi
  rw [hc i (by omega), List.getElem_take]

set_option maxRecDepth 100000 in
set_option maxHeartbeats 4000000 in
theorem clauseMakes_walk (A0 : Option Addr) (l0 c0 : Nat) (z0 : List Int) (turn : Int) (w : World) (w0 : IsRow .i64 w A0 l0 c0 z0) (_w1 : (Lit.int .i64 turn).wf = true) :
    Calls Try.prog 4 #[.slice A0 l0 c0, .int .i64 turn] w fun e w' => e = .returned (.bool true) ∧ Below w.heap.size w w' := by
  have hl0 : l0 ≤ maxLen := by
    rcases w0 with ⟨_, rfl, _⟩ | ⟨_, _, h1, h2, _⟩
    · exact Nat.zero_le _
    · omega
  unfold maxLen at hl0
  by_cases h60 : 60 < l0
  · have d1 : decide ((60 : Int) < (l0 : Int)) = true := by simp; omega
    clear w0
    go_enter Try.func4, Try.ntmps4
    go_wp2_with (go_at_call 7; refine (wakes_ok _).mono ?_; rintro e w2 ⟨rfl, b2⟩)
    go_ret
    exact ⟨rfl, b2⟩
  have d1 : decide ((60 : Int) < (l0 : Int)) = false := by simp; omega
  obtain ⟨zs, rfl, hrow, hnil, hcap, hcmax, hwf⟩ := w0.row (by omega)
  unfold maxLen at hcmax
  have hlen : zs.length ≤ 60 := by omega
  have Hrow := Lib.hid hrow
  have Hnil := Lib.hid hnil
  have K1 := make_row c0 hrow hnil
  clear w0 hrow hwf hnil z0 h60 hl0
  by_cases h0 : zs.length = 0
  · have hz : zs = [] := List.eq_nil_of_length_eq_zero h0
    have hm0 : makeM zs = [] := by rw [hz]; unfold makeM; simp only [List.filter_nil, List.mergeSort_nil]; rfl
    have e0 : ([] : List Int).length = 0 := rfl
    rw [hm0] at K1
    subst hz
    rw [e0] at K1
    have hm00 := hm0
    have Kis := fun W C cc (h : Row .i64 W C []) (hn : C = none → cc = 0) => is_ok cc h hn
    have Kwi := fun W C cc (h : Row .i64 W C []) (g : Row .i64 W A0 []) => within_ok cc c0 h g
    have Kmk := fun W C cc (h : Row .i64 W C []) (hn : C = none → cc = 0) => make_row cc h hn
    have Ksa := fun W C cc D dd (h : Row .i64 W C []) (g : Row .i64 W D []) => same_ok cc dd h g
    have ee : (([] : List Int) == []) = true := rfl
    have ef : (!([] : List Int).any (outP [])) = true := rfl
    simp only [hm0, e0, ee, ef] at Kis Kwi Kmk Ksa
    have HA := Lib.hid Hrow.out
    have hrn : ∀ W, Row .i64 W none [] := fun W => ⟨by simp, .inl rfl⟩
    have Hrn := Lib.hid hrn
    clear hm0 hm00 e0 h0 hrn ee ef d1 hcap hcmax Hrow hlen
    go_enter Try.func4, Try.ntmps4
    go_wp2_with (first
      | (go_at_call 10; (with_reducible refine K1.mono ?_); rintro e w1 ⟨C, cc, rfl, hr1, hn1, hb1⟩; have HR1 := Lib.hid hr1; have HN1 := Lib.hid hn1; have HB1 := Lib.hid hb1; have HA1 := Lib.hid (HA.out.below hb1); clear hr1 hn1 hb1 HA))
    go_loopg [40] 0 (fun g v wx => w1 = wx ∧ g = 0 ∧ v = .int .i64 0)
    case atStart => exact ⟨rfl, rfl, rfl⟩
    case round =>
      obtain ⟨rfl, rfl, rfl⟩ := hrel
      go_wp2_with (first
        | (go_at_call 12; (with_reducible refine (Kis _ C cc HR1.out HN1.out).mono ?_); rintro e w3 ⟨rfl, hb3⟩; have HC3 := Lib.hid (HR1.out.below hb3); have HZ3 := Lib.hid (HA1.out.below hb3); have HB3 := Lib.hid (below_then HB1.out (Nat.le_refl _) hb3); clear hb3)
        | (go_at_call 11; (with_reducible refine (Kwi _ C cc HC3.out HZ3.out).mono ?_); rintro e w4 ⟨rfl, hb4⟩; have HC4 := Lib.hid (HC3.out.below hb4); have HB4 := Lib.hid (below_then HB3.out (Nat.le_refl _) hb4); clear hb4)
        | (go_at_call 10; (with_reducible refine (Kmk _ none 0 (Hrn.out w4) (fun _ => rfl)).mono ?_); rintro e w5 ⟨E1, dd1, rfl, hr5, _, hb5⟩; have HE5 := Lib.hid hr5; have HC5 := Lib.hid (HC4.out.below hb5); have HB5 := Lib.hid (below_then HB4.out (Nat.le_refl _) hb5); clear hb5 hr5)
        | (go_at_call 13; (with_reducible refine (Ksa _ E1 dd1 C cc HE5.out HC5.out).mono ?_); rintro e w6 ⟨rfl, n6, rfl⟩; have HC6 := Lib.hid (HC5.out.below (below_drewN (Below.refl _ w5) n6)); have HB6 := Lib.hid (below_drewN HB5.out n6))
        | (go_at_call 10; (with_reducible refine (Kmk _ C cc HC6.out HN1.out).mono ?_); rintro e w7 ⟨E2, dd2, rfl, hr7, _, hb7⟩; have HE7 := Lib.hid hr7; have HC7 := Lib.hid (HC6.out.below hb7); have HB7 := Lib.hid (below_then HB6.out (Nat.le_refl _) hb7); clear hb7 hr7)
        | (go_at_call 13; (with_reducible refine (Ksa _ E2 dd2 C cc HE7.out HC7.out).mono ?_); rintro e w8 ⟨rfl, n8, rfl⟩; have HB8 := Lib.hid (below_drewN HB7.out n8))
        | (go_at_call 7; refine (wakes_ok _).mono ?_; rintro e w9 ⟨rfl, hb9⟩; have HB9 := Lib.hid (below_then HB8.out (Nat.le_refl _) hb9); clear hb9))
      go_ret
      exact ⟨rfl, HB9.out⟩
  obtain ⟨q, k, hq, hq1, hq2, hk, hkl⟩ := tmod_mod turn zs.length (by omega)
  obtain ⟨b, off, hA, hb, hcell⟩ := Hrow.out.at_.resolve_left (by omega)
  subst hA
  have d2 : decide ((0 : Int) < (zs.length : Int)) = true := by simp; omega
  have d3 : decide (0 < zs.length) = true := by simp; omega
  have t1 : (0 : Int) ≤ (k : Int) := by omega
  have t2 : (k : Int) ≤ (zs.length : Int) := by omega
  have t3 : (zs.length : Int) ≤ (c0 : Int) := by omega
  have t4 : (k : Int) ≤ (c0 : Int) := by omega
  have t5 : ((c0 : Int) == (k : Int)) = false := by simp; omega
  have t6 : c0 ≠ k := by omega
  have Hcell := Lib.hid hcell
  clear hcell
  generalize hm : makeM zs = m at K1
  have Hm := Lib.hid hm
  clear hm
  go_enter Try.func4, Try.ntmps4
  go_upto_region 7 with (first
    | (go_at_call 10; (with_reducible refine K1.mono ?_); rintro e w1 ⟨C, cc, rfl, hr1, hn1, hb1⟩; have HR1 := Lib.hid hr1; have HN1 := Lib.hid hn1; have HB1 := Lib.hid hb1; clear hr1 hn1 hb1))
  have HZ := Lib.hid (row_drop (w := w1.drew) Hrow.out.len (Nat.lt_of_lt_of_le hb HB1.out.size) (fun i h => (HB1.out.cell (p := ⟨b, off + i, none⟩) hb).trans (Hcell.out i h)) k)
  have HY := Lib.hid (row_take (w := w1.drew) Hrow.out.len (Nat.lt_of_lt_of_le hb HB1.out.size) (fun i h => (HB1.out.cell (p := ⟨b, off + i, none⟩) hb).trans (Hcell.out i h)) k)
  clear hk hq
  have HB1d := Lib.hid (show Below w.heap.size w w1.drew from below_drewN HB1.out 1)
  obtain ⟨L, hL⟩ : ∃ L, [] ++ zs.drop k ++ zs.take k = L := ⟨_, rfl⟩
  have HL := Lib.hid hL
  have X1 := Lib.hid (show 0 + (zs.drop k).length ≤ 1000000 by rw [List.length_drop]; omega)
  have X2 := Lib.hid (show 0 + (zs.drop k).length + (zs.take k).length ≤ 1000000 by rw [List.length_drop, List.length_take]; omega)
  have X4 := Lib.hid (show 0 + (zs.drop k).length + (zs.take k).length = L.length by rw [← hL, List.length_append, List.length_append]; rfl)
  have X3 := Lib.hid (show (zs.take k).length = k by rw [List.length_take]; omega)
  have Xl := Lib.hid hlen
  have Xk := Lib.hid hkl
  have Xc := Lib.hid hcap
  clear hL hlen hkl hcap hcmax h0 hq1 hq2 d1 d2 d3
  go_region_held_law (fun _ => True) (trivial) ((first
    | (refine step_append_row w1.drew rfl (.tmp 29) (.tmp 32) rfl w1.heap.size (.slice none 0 0) 0 [] (by rfl) (World.ownsRow_nil _ _ _ _) (some ⟨b, off + k, none⟩) (c0 - k) (zs.drop k) (by rw [List.length_drop]; rfl) HZ.out (by intro h; cases h) X1.out (Nat.le_refl _) ?_; intro v1 wa ho1 hg1; have HO1 := Lib.hid ho1; have HG1 := Lib.hid (below_grown_own (Below.refl w1.heap.size w1.drew) hg1 (World.ownsRow_nil w1.drew w1.heap.size 3 1) (Nat.le_refl _) (Nat.le_refl _)); have HY1 := Lib.hid (HY.out.below HG1.out); clear ho1 hg1)
    | (refine step_append_row wa rfl (.tmp 33) (.tmp 36) rfl w1.heap.size v1 (0 + (zs.drop k).length) ([] ++ zs.drop k) (by rfl) HO1.out (some ⟨b, off, none⟩) c0 (zs.take k) (by rw [X3.out]; rfl) HY1.out (by intro h; cases h) X2.out HG1.out.size ?_; intro v2 wb ho2 hg2; rw [HL.out] at ho2; obtain ⟨D, d, rfl, hr2, hnd⟩ := own_row ho2 X4.out (X4.out ▸ X2.out); have HD := Lib.hid hr2; have HND := Lib.hid hnd; have HG2 := Lib.hid (below_grown_own HG1.out hg2 HO1.out (Nat.le_refl _) HG1.out.size); clear ho2 hg2 hr2 hnd)))
  have hmL : makeM L = m := by
    rw [← Hm.out, ← HL.out]
    refine make_eq fun x _ => ?_
    rw [List.nil_append, List.mem_append]
    conv => rhs; rw [← List.take_append_drop k zs, List.mem_append]
    exact Or.comm
  have HB2 := Lib.hid (below_then (show Below w.heap.size w w1.drew from below_drewN HB1.out 1) (Nat.le_refl _) HG2.out)
  have HC := Lib.hid (HR1.out.below (w' := wb) (show Below w1.heap.size w1 wb from (below_drewN (Below.refl _ w1) 1).trans HG2.out))
  have HZ2 := Lib.hid (Hrow.out.below HB2.out)
  have HML := Lib.hid hmL
  clear hmL HO1 HG1 HG2 HY1 HY HZ X1 X2 X3 X4 HL HB1d
  have hmm : ∀ x ∈ zs, 0 ≤ x → x ∈ m := fun x hx h0 => by rw [← Hm.out]; exact (mem_make _ _).2 ⟨hx, h0⟩
  have Hmm := Lib.hid hmm
  clear hmm
  have his : (m == makeM m) = true := by rw [← Hm.out]; exact is_make zs
  have hwz : (!m.any (outP zs)) = true := by
    rw [within_iff]
    intro x hx
    rw [← Hm.out] at hx
    exact ((mem_make _ _).1 hx).1
  have hmk : makeM m = m := by rw [← Hm.out]; exact make_make zs
  have hsm : (m == m) = true := by simp
  have Kis := fun W (h : Row .i64 W C m) => is_ok cc h HN1.out
  have Kwi := fun W (h : Row .i64 W C m) (g : Row .i64 W (some ⟨b, off, none⟩) zs) => within_ok cc c0 h g
  have Kmb := fun W (h : Row .i64 W D L) => make_row d h HND.out
  have Kmc := fun W (h : Row .i64 W C m) => make_row cc h HN1.out
  have Ksa := fun W E dd (h : Row .i64 W E m) (g : Row .i64 W C m) => same_ok dd cc h g
  rw [his] at Kis
  rw [hwz] at Kwi
  rw [HML.out] at Kmb
  rw [hmk] at Kmc
  rw [hsm] at Ksa
  have Hlen := Lib.hid (show zs.length ≤ 60 from Xl.out)
  clear his hwz hmk hsm HML Xl Xc Xk t1 t2 t3 t4 t5 t6
  go_wp2
  go_loopw [40] (fun vi wr => ∃ i : Nat, i ≤ zs.length ∧ vi = .int .i64 i ∧ Below wb.heap.size wb wr) (fun vi _ => (zs.length - intOf vi).toNat)
  case atStart => exact ⟨0, Nat.zero_le _, rfl, Below.refl _ _⟩
  case round =>
    obtain ⟨i, hi, rfl, hbel⟩ := hrel
    have hlen60 := Hlen.out
    by_cases hlt : i < zs.length
    · have d4 : decide ((i : Int) < (zs.length : Int)) = true := by simp; omega
      have y0 := (hbel.cell (p := ⟨b, off + i, none⟩) (Nat.lt_of_lt_of_le hb HB2.out.size)).trans ((HB2.out.cell (p := ⟨b, off + i, none⟩) hb).trans (Hcell.out i hlt))
      have hx := Hmm.out zs[i] (List.getElem_mem hlt)
      have HCr := Lib.hid (HC.out.below hbel)
      have Hbel := Lib.hid hbel
      clear hbel
      generalize zs[i] = x at *
      by_cases hx0 : 0 ≤ x
      · have d5 : decide ((0 : Int) ≤ x) = true := decide_eq_true hx0
        have hone : (!([x] : List Int).any (outP m)) = true := by
          rw [within_iff]
          intro y hy
          rw [List.mem_singleton.1 hy]
          exact hx hx0
        have hbx : Below wr.heap.size wr (wr.alloc (.cells #[.int .i64 x] 3)) := (Below.refl _ wr).alloc (Nat.le_refl _) _
        have hrx : Row .i64 (wr.alloc (.cells #[.int .i64 x] 3)) (some ⟨wr.heap.size, 0, none⟩) [x] := by
          refine ⟨by simp, .inr ⟨wr.heap.size, 0, rfl, by simp, fun j hj => ?_⟩⟩
          have hj0 : j = 0 := by simpa using hj
          subst hj0
          exact (Blk.new wr _ _).cell 0
        have Kone := within_ok 1 cc hrx (HCr.out.below hbx)
        rw [hone, show ([x] : List Int).length = 1 from rfl] at Kone
        have Hbx := Lib.hid (Hbel.out.trans (hbx.mono Hbel.out.size))
        clear hx hx0 hone hbx hrx
        go_wp2_with (go_at_call 11; (with_reducible refine Kone.mono ?_); rintro e w5 ⟨rfl, hb5⟩; have HB5 := Lib.hid (below_then Hbx.out (Nat.le_refl _) hb5); clear hb5)
        go_roundw
        case rel => exact ⟨i + 1, by omega, by go_num, HB5.out⟩
        case measure => simp only [intOf]; omega
      · have d5 : decide ((0 : Int) ≤ x) = false := decide_eq_false hx0
        clear hx hx0
        go_wp2
        go_roundw
        case rel => exact ⟨i + 1, by omega, by go_num, Hbel.out⟩
        case measure => simp only [intOf]; omega
    · obtain rfl : i = zs.length := by omega
      have d4 : decide ((zs.length : Int) < (zs.length : Int)) = false := by simp
      have HCr := Lib.hid (HC.out.below hbel)
      have HDr := Lib.hid (HD.out.below hbel)
      have HZr := Lib.hid (HZ2.out.below hbel)
      have HBr := Lib.hid (below_then HB2.out (Nat.le_refl _) hbel)
      clear hbel hlt hi hlen60 HC HD HZ2 HR1 Hmm
      go_wp2_with (first
        | (go_at_call 12; (with_reducible refine (Kis _ HCr.out).mono ?_); rintro e w3 ⟨rfl, hb3⟩; have HC3 := Lib.hid (HCr.out.below hb3); have HD3 := Lib.hid (HDr.out.below hb3); have HZ3 := Lib.hid (HZr.out.below hb3); have HB3 := Lib.hid (below_then HBr.out (Nat.le_refl _) hb3); clear hb3)
        | (go_at_call 11; (with_reducible refine (Kwi _ HC3.out HZ3.out).mono ?_); rintro e w4 ⟨rfl, hb4⟩; have HC4 := Lib.hid (HC3.out.below hb4); have HD4 := Lib.hid (HD3.out.below hb4); have HB4 := Lib.hid (below_then HB3.out (Nat.le_refl _) hb4); clear hb4)
        | (go_at_call 10; (with_reducible refine (Kmb _ HD4.out).mono ?_); rintro e w5 ⟨E1, dd1, rfl, hr5, _, hb5⟩; have HE5 := Lib.hid hr5; have HC5 := Lib.hid (HC4.out.below hb5); have HB5 := Lib.hid (below_then HB4.out (Nat.le_refl _) hb5); clear hb5 hr5)
        | (go_at_call 13; (with_reducible refine (Ksa _ E1 dd1 HE5.out HC5.out).mono ?_); rintro e w6 ⟨rfl, n6, rfl⟩; have HC6 := Lib.hid (HC5.out.below (below_drewN (Below.refl _ w5) n6)); have HB6 := Lib.hid (below_drewN HB5.out n6))
        | (go_at_call 10; (with_reducible refine (Kmc _ HC6.out).mono ?_); rintro e w7 ⟨E2, dd2, rfl, hr7, _, hb7⟩; have HE7 := Lib.hid hr7; have HC7 := Lib.hid (HC6.out.below hb7); have HB7 := Lib.hid (below_then HB6.out (Nat.le_refl _) hb7); clear hb7 hr7)
        | (go_at_call 13; (with_reducible refine (Ksa _ E2 dd2 HE7.out HC7.out).mono ?_); rintro e w8 ⟨rfl, n8, rfl⟩; have HB8 := Lib.hid (below_drewN HB7.out n8))
        | (go_at_call 7; refine (wakes_ok _).mono ?_; rintro e w9 ⟨rfl, hb9⟩; have HB9 := Lib.hid (below_then HB8.out (Nat.le_refl _) hb9); clear hb9))
      go_ret
      exact ⟨rfl, HB9.out⟩
end Go.Proofs.Ytlganicnbcnngaa

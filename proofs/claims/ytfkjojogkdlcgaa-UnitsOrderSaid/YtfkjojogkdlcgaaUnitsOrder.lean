/- UnitsOrder's walk. -/
import Derived.Test.YtfkjojogkdlcgaaSame16
namespace Go.Proofs.Ytfkjojogkdlcgaa
open Go.RowKit Go.Lib

theorem tmod_mod (t : Int) (n : Nat) (hn : 0 < n) : ∃ (q : Int) (k : Nat), t.tmod n = q ∧ -(n : Int) < q ∧ q < n ∧ (q + n).tmod n = k ∧ k < n ∧ k = ((t.tmod n + n).tmod n).toNat := by
  have hn0 : (n : Int) ≠ 0 := by omega
  have h1 := Int.tmod_lt_of_pos t (show (0 : Int) < n by omega)
  have h2 : -(n : Int) < t.tmod n := by
    have := Int.tmod_lt_of_pos (-t) (show (0 : Int) < n by omega)
    rw [Int.neg_tmod] at this
    omega
  have h3 := Int.tmod_nonneg (n : Int) (show 0 ≤ t.tmod n + n by omega)
  have h4 := Int.tmod_lt_of_pos (t.tmod n + n) (show (0 : Int) < n by omega)
  exact ⟨t.tmod n, ((t.tmod n + n).tmod n).toNat, rfl, h2, h1, by omega, by omega, rfl⟩
theorem own_grid {w : World} {B : Nat} {v : Value} {R : List (Option Addr × Nat × List Int)} (h : w.ownsRow B 23 1 v R.length (R.map encR)) (hl : R.length ≤ 1000000) (he : ∀ r ∈ R, Row .i64 w r.1 r.2.2 ∧ (r.1 = none → r.2.1 = 0)) : ∃ MA mc, v = .slice MA R.length mc ∧ Grid w MA R := by
  rcases h.2 with ⟨rfl, h0⟩ | ⟨ga, cap, cur, rfl, hb, hh, hc, hM, hs, ht⟩
  · exact ⟨none, 0, by rw [h0], hl, .inl h0⟩
  · refine ⟨_, cap, rfl, hl, .inr ⟨ga, 0, rfl, (Array.getElem?_eq_some_iff.1 hh).1, fun i hi => ⟨?_, he _ (List.getElem_mem hi)⟩⟩⟩
    rw [Nat.zero_add, h.cellAt i (by omega), List.getElem?_map, List.getElem?_eq_getElem hi]
    rfl

set_option maxRecDepth 100000 in
set_option maxHeartbeats 4000000 in
theorem unitsOrder_walk (A0 : Option Addr) (l0 c0 : Nat) (A : Nat → Option Addr) (L C : Nat → Nat) (Z : Nat → List Int) (A1 : Option Addr) (l1 c1 : Nat) (z1 : List Int) (turn : Int) (w : World) (w0 : IsGrid w A0 l0 c0 A L C Z) (w1 : IsRow .i64 w A1 l1 c1 z1) (_w2 : (Lit.int .i64 turn).wf = true) :
    Calls Try.prog 5 #[.slice A0 l0 c0, .slice A1 l1 c1, .int .i64 turn] w fun e w' => e = .returned (.bool true) ∧ Below w.heap.size w w' := by
  obtain ⟨j0, ji, jz0, jz1, jz2⟩ := info_parts slice_info
  have W0 := Lib.hid w0
  have W1 := Lib.hid w1
  clear w0 w1
  go_enter Try.func5, Try.ntmps5
  go_upto_region 3 with (go_at_call 10; (with_reducible refine (great16_ok W0.out W1.out).mono ?_); rintro e w1 ⟨bb, rfl, rfl, hbb⟩; have HBB := Lib.hid hbb; clear hbb; cases bb)
  rotate_left
  · refine (wakes_ok _).mono ?_
    rintro e w2 ⟨rfl, b2⟩
    go_wp2
    go_ret
    exact ⟨rfl, b2⟩
  obtain ⟨R, zs, rfl, rfl, hT⟩ := tame_of W0.out W1.out (HBB.out (by first | rfl | trivial))
  have hr80 := hT.r80
  have HT := Lib.hid hT
  have K1 := run_row c0 c1 hT.grid hT.row hT.max
  clear hT HBB W0 W1
  generalize hs : ((turn.tmod R.length + R.length).tmod R.length).toNat = s
  have Hs := Lib.hid hs
  obtain ⟨R2, hR2⟩ : ∃ R2, turned R s (none, 0, []) = R2 := ⟨_, rfl⟩
  have hR2l : R2.length = R.length := by rw [← hR2, turned_len]
  have hR2m : R.length = 0 ∨ ∀ r, r ∈ R2 ↔ r ∈ R := by
    rcases Nat.eq_zero_or_pos R.length with h0 | h0
    · exact .inl h0
    · right
      obtain ⟨q, k, h1, _, _, h2, h3, h4⟩ := tmod_mod turn R.length h0
      rw [← hR2]
      exact turned_mem R s _ (by rw [← hs, ← h4]; exact h3)
  have hmem : ∀ c, c ∈ rowsOf R2 ↔ c ∈ rowsOf R := by
    rcases hR2m with h0 | h0
    · have e1 : R = [] := List.eq_nil_of_length_eq_zero h0
      have e2 : R2 = [] := List.eq_nil_of_length_eq_zero (by omega)
      intro c
      rw [e1, e2]
    · intro c
      unfold rowsOf
      rw [List.mem_map, List.mem_map]
      exact ⟨fun ⟨r, hr, e⟩ => ⟨r, (h0 r).1 hr, e⟩, fun ⟨r, hr, e⟩ => ⟨r, (h0 r).2 hr, e⟩⟩
  have hR2e : ∀ r ∈ R2, r ∈ R := by
    rcases hR2m with h0 | h0
    · intro r hr
      have e2 : R2 = [] := List.eq_nil_of_length_eq_zero (by omega)
      rw [e2] at hr; cases hr
    · exact fun r hr => (h0 r).1 hr
  have HR2 := Lib.hid hR2
  have HR2l := Lib.hid hR2l
  have HR2e := Lib.hid hR2e
  have Hmem := Lib.hid hmem
  have Hsub1 := fun hk => run_sub (cs := rowsOf R) (cs' := rowsOf R2) (given := zs) (given' := zs) (fun c hc => (hmem c).1 hc) (fun x hx => hx) hk
  have Hsub2 := fun hk => run_sub (cs := rowsOf R2) (cs' := rowsOf R) (given := zs) (given' := zs) (fun c hc => (hmem c).2 hc) (fun x hx => hx) hk
  have hagain := fun hk => run_again (cs := rowsOf R) (given := zs) hk
  have hok1 := run_lits (rowsOf R) zs
  have hok2 := run_lits (rowsOf R2) zs
  generalize hres1 : runM (rowsOf R) zs = res1 at K1 Hsub1 Hsub2 hagain hok1
  generalize hres2 : runM (rowsOf R2) zs = res2 at Hsub1 Hsub2 hok2
  obtain ⟨as1, k1⟩ := res1
  obtain ⟨bs1, k2⟩ := res2
  simp only at K1 Hsub1 Hsub2 hagain hok1 hok2
  have HS1 := Lib.hid Hsub1
  have HS2 := Lib.hid Hsub2
  have Hag := Lib.hid hagain
  have Hok1 := Lib.hid hok1
  have Hok2 := Lib.hid hok2
  have Hres2 := Lib.hid hres2
  have hal := hok1.len
  have hbl := hok2.len
  clear hR2 hR2l hR2m hR2e hmem Hsub1 Hsub2 hagain hok1 hok2 hres1 hres2 hs
  go_wp2_with (go_at_call 12; (with_reducible refine K1.mono ?_); rintro e w1 ⟨B, d, rfl, hr1, hn1, hb1⟩; have HR1 := Lib.hid hr1; have HN1 := Lib.hid hn1; have HB1 := Lib.hid hb1; clear hr1 hn1 hb1)
  clear K1
  go_loopw [10, 9] (fun vi vm wr => ∃ i : Nat, i ≤ R.length ∧ vi = .int .i64 i ∧ wr.ownsRow w1.heap.size 23 1 vm i ((R2.take i).map encR) ∧ Below w1.heap.size w1 wr) (fun vi _ _ => (R.length - intOf vi).toNat)
  case atStart => exact ⟨0, Nat.zero_le _, rfl, World.ownsRow_nil _ _ _ _, Below.refl _ _⟩
  case round =>
    obtain ⟨i, hi, rfl, hown, hbel⟩ := hrel
    by_cases hlt : i < R.length
    · have d1 : decide ((i : Int) < R.length) = true := by simp; omega
      obtain ⟨q, k, hq, hq1, hq2, hk, hkl, hks⟩ := tmod_mod turn R.length (by omega)
      have HB2 := Lib.hid (below_then HB1.out (Nat.le_refl _) hbel)
      obtain ⟨lb, loff, hA0, hlb, hlc⟩ := (HT.out.grid.below HB2.out).at_.resolve_left (by omega)
      subst hA0
      obtain ⟨j, hj⟩ : ∃ j, (i + k) % R.length = j := ⟨_, rfl⟩
      have hjl : j < R.length := by rw [← hj]; exact Nat.mod_lt _ (by omega)
      have hj1 : ((i : Int) + k) % R.length = j := by rw [← hj]; push_cast; rfl
      have hj2 : ((i : Int) + k).tmod R.length = j := by rw [Int.tmod_eq_emod_of_nonneg (by omega)]; exact hj1
      obtain ⟨z0, _, _⟩ := hlc j hjl
      have htk : (R2.take (i + 1)).map encR = (R2.take i).map encR ++ [encR R[j]] := by
        have hi2 : i < R2.length := by rw [HR2l.out]; exact hlt
        have e1 : R2[i] = R[j] := by
          have h2 : i < (turned R s (none, 0, [])).length := by rw [turned_len]; exact hlt
          have h1 := turned_get R s (none, 0, []) hlt h2
          have e4 : (i + s) % R.length = j := by rw [show s = k by rw [hks, Hs.out], hj]
          simp only [e4] at h1
          have e0 : R2[i]? = some R[j] := by rw [← HR2.out, List.getElem?_eq_getElem h2, h1]
          exact (List.getElem?_eq_some_iff.1 e0).2
        rw [List.take_succ_eq_append_getElem hi2, List.map_append, e1]
        rfl
      have Htk := Lib.hid htk
      have Hown := Lib.hid hown
      have Hbel := Lib.hid hbel
      have X1 := Lib.hid (show (i + 1) * 24 ≤ 140737488355328 by omega)
      have t1 : (0 : Int) ≤ (j : Int) := by omega
      have t2 : (j : Int) < (R.length : Int) := by omega
      have Hjs := Lib.hid (And.intro hj (And.intro hks hkl))
      unfold encR at htk
      clear hlc htk hown hbel hj hks
      have Htk2 := Lib.hid (show (R2.take (i + 1)).map encR = (R2.take i).map encR ++ [Value.slice R[j].1 R[j].2.2.length R[j].2.1] from Htk.out)
      generalize R[j].1 = ra at *
      generalize R[j].2.1 = rc at *
      generalize R[j].2.2 = rz at *
      go_wp2_with (at_builtin; refine list_push _ rfl (.tmp 33) (.tmp 52) 22 rfl w1.heap.size 23 j0 (.slice none 0 0) 1 24 Try.underlying22 ji jz0 jz1 jz2 rfl (by decide) _ i ((R2.take i).map encR) rfl (Hown.out.alloc _) wr.heap.size #[.slice ra rz.length rc] rfl (Blk.new wr _ _) rfl (by intro u hu; rw [List.mem_singleton.1 hu]; rfl) X1.out (by decide) Hbel.out.size ?_; intro ga ca w3 ho3 hg3 _ _; have HO3 := Lib.hid ho3; have HB3 := Lib.hid (Below.grown (Hbel.out.alloc Hbel.out.size _) hg3 (Nat.le_trans Hbel.out.size (by simp)) (own_base_le Hown.out)); clear ho3 hg3)
      go_roundw
      case rel => exact ⟨i + 1, by omega, by go_num, by rw [Htk2.out]; exact HO3.out, HB3.out⟩
      case measure => simp only [intOf]; omega
    · obtain rfl : i = R.length := by omega
      have d1 : decide ((R.length : Int) < R.length) = false := by simp
      have hown2 : wr.ownsRow w1.heap.size 23 1 u9 R2.length (R2.map encR) := by
        rw [List.take_of_length_le (by rw [HR2l.out]; exact Nat.le_refl _)] at hown
        rw [HR2l.out]
        exact hown
      have HB2 := Lib.hid (below_then HB1.out (Nat.le_refl _) hbel)
      have hgr := HT.out.grid.below HB2.out
      have heach : ∀ r ∈ R2, Row .i64 wr r.1 r.2.2 ∧ (r.1 = none → r.2.1 = 0) := by
        intro r hr
        obtain ⟨j, hj, rfl⟩ := List.mem_iff_getElem.1 (HR2e.out r hr)
        obtain ⟨lb, loff, _, _, hlc⟩ := hgr.at_.resolve_left (by omega)
        exact ⟨(hlc j hj).2.1, (hlc j hj).2.2⟩
      obtain ⟨MA, mc, rfl, hmg⟩ := own_grid hown2 (by rw [HR2l.out]; omega) heach
      have K2 := run_row mc c1 hmg (HT.out.row.below HB2.out) HT.out.max
      rw [Hres2.out] at K2
      simp only at K2
      have HRa := Lib.hid (HR1.out.below hbel)
      clear hown hown2 hgr heach hmg hlt hi hbel
      obtain ⟨wo, rfl⟩ : ∃ wo : World, wo = wr := ⟨_, rfl⟩
      by_cases hk1 : k1 = -1
      · obtain ⟨hk2, hsab⟩ := HS2.out (HS1.out hk1).1
        have hk2' := (HS1.out hk1).1
        have hsba := (HS1.out hk1).2
        have hag := Hag.out hk1
        subst hk1
        subst hk2'
        have hle : as1.length = bs1.length := Nat.le_antisymm (len_le_of_sub _ _ Hok1.out.nodup hsab) (len_le_of_sub _ _ Hok2.out.nodup hsba)
        have b5 : ((as1.length : Int) == bs1.length) = true := by simp [hle]
        have Hsab := Lib.hid hsab
        have Hag2 := Lib.hid hag
        clear hle hk2 hsab hsba hag
        go_upto_region 14 with (go_at_call 12; (with_reducible refine K2.mono ?_); rintro e w3 ⟨BB, dd, rfl, hr3, hn3, hb3⟩; have HR3 := Lib.hid hr3; have HB3 := Lib.hid (below_then HB2.out (Nat.le_refl _) hb3); have HRa3 := Lib.hid (HRa.out.below hb3); clear hr3 hn3 hb3)
        have K3 := values16_ok dd HR3.out (fun x hx => by have := Hok2.out.rng x hx; omega)
        rw [puts_all bs1 [] (by simpa using Hok2.out), List.nil_append] at K3
        clear K2
        go_upto_region 15 with (go_at_call 16; (with_reducible refine K3.mono ?_); rintro e w4 ⟨va, AA, rfl, hP⟩; have HP := Lib.hid hP; clear hP)
        obtain ⟨ad, ac, rfl, hrA⟩ := HP.out.av.row (by rw [HP.out.len]; have := nodes_small Hok2.out; omega)
        have HrA := Lib.hid hrA
        have HRa4 := Lib.hid (HRa3.out.below HP.out.bel)
        have HB4 := Lib.hid (below_then HB3.out (Nat.le_refl _) HP.out.bel)
        have hrep := fun y (h0 : 0 ≤ y) => rep_val HP.out.rep Hok2.out h0
        have Hrep := Lib.hid hrep
        clear hrA hrep K3
        go_wp2
        go_loopg [14] as1.length (fun g v wx => w4 = wx ∧ ∃ i : Nat, i + g = as1.length ∧ v = .int .i64 i)
        case atStart => exact ⟨rfl, 0, by omega, rfl⟩
        case round =>
          obtain ⟨rfl, i, hig, rfl⟩ := hrel
          cases gk with
          | succ n =>
            have hlt : i < as1.length := by omega
            have d5 : decide ((i : Int) < as1.length) = true := by simp; omega
            obtain ⟨b, off, hA, hb, hcell⟩ := HRa4.out.at_.resolve_left (by omega)
            subst hA
            have y0 := hcell i hlt
            have hx := Hok1.out.rng as1[i] (List.getElem_mem hlt)
            have hv := Hsab.out as1[i] (List.getElem_mem hlt)
            have t1 : (0 : Int) ≤ (i : Int) := by omega
            have t2 : (i : Int) < (as1.length : Int) := by omega
            clear hcell
            generalize as1[i] = x at *
            have Kv := val15_ok ac HrA.out x (by omega)
            rw [Hrep.out x hx.1, valL_one.2 hv] at Kv
            clear hv hx
            go_wp2_with (go_at_call 14; (with_reducible refine Kv.mono ?_); rintro e w5 ⟨rfl, rfl⟩)
            go_roundg n
            case measure => omega
            case rel => exact ⟨rfl, i + 1, by omega, by go_num⟩
          | zero =>
            obtain rfl : i = as1.length := by omega
            have d5 : decide ((as1.length : Int) < as1.length) = false := by simp
            have K5 := run_row c0 d (HT.out.grid.below HB4.out) HRa4.out (fun x hx => by have := Hok1.out.rng x hx; omega)
            rw [Hag2.out] at K5
            simp only at K5
            have K6 := fun W E2 d2 (h : Row .i64 W B as1) (k : Row .i64 W E2 as1) => same16_ok d d2 h k
            rw [show (as1 == as1) = true by simp] at K6
            go_wp2_with (first
              | (go_at_call 12; (with_reducible refine K5.mono ?_); rintro e w5 ⟨E2, d2, rfl, hr5, hn5, hb5⟩; have HR5 := Lib.hid hr5; have HB5 := Lib.hid (below_then HB4.out (Nat.le_refl _) hb5); have HRa5 := Lib.hid (HRa4.out.below hb5); clear hr5 hn5 hb5)
              | (go_at_call 17; (with_reducible refine (K6 _ E2 d2 HRa5.out HR5.out).mono ?_); rintro e w6 ⟨rfl, q6, rfl⟩; have HB6 := Lib.hid (below_drewN HB5.out q6))
              | (go_at_call 11; refine (wakes_ok _).mono ?_; rintro e w7 ⟨rfl, b7⟩; have HB7 := Lib.hid (below_then HB6.out (Nat.le_refl _) b7); clear b7))
            go_ret
            exact ⟨rfl, HB7.out⟩
      · have hk2 : k2 ≠ -1 := fun h => hk1 (HS2.out h).1
        have b1 : (k1 == -1) = false := beq_eq_false_iff_ne.2 hk1
        have b2 : (k2 == -1) = false := beq_eq_false_iff_ne.2 hk2
        have b3 : (k1 != -1) = true := by simpa using hk1
        clear hk1 hk2
        go_wp2_with (first
          | (go_at_call 12; (with_reducible refine K2.mono ?_); rintro e w3 ⟨BB, dd, rfl, hr3, hn3, hb3⟩; have HB3 := Lib.hid (below_then HB2.out (Nat.le_refl _) hb3); clear hr3 hn3 hb3)
          | (go_at_call 11; refine (wakes_ok _).mono ?_; rintro e w7 ⟨rfl, b7⟩; have HB7 := Lib.hid (below_then HB3.out (Nat.le_refl _) b7); clear b7))
        go_ret
        exact ⟨rfl, HB7.out⟩
end Go.Proofs.Ytfkjojogkdlcgaa

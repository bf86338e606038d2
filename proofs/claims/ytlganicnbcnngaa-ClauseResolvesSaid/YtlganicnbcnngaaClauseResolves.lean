/- ClauseResolves's walk. -/
import Derived.Test.YtlganicnbcnngaaCells
namespace Go.Proofs.Ytlganicnbcnngaa
open Go.RowKit Go.Lib

set_option maxRecDepth 100000 in
set_option maxHeartbeats 4000000 in
theorem clauseResolves_walk (A0 : Option Addr) (l0 c0 : Nat) (z0 : List Int) (A1 : Option Addr) (l1 c1 : Nat) (z1 : List Int) (lit : Int) (A3 : Option Addr) (l3 c3 : Nat) (B3 : Nat → Bool) (w : World) (w0 : IsRow .i64 w A0 l0 c0 z0) (w1 : IsRow .i64 w A1 l1 c1 z1) (w2 : (Lit.int .i64 lit).wf = true) (w3 : IsBools w A3 l3 c3 B3) :
    Calls Try.prog 6 #[.slice A0 l0 c0, .slice A1 l1 c1, .int .i64 lit, .slice A3 l3 c3] w fun e w' => e = .returned (.bool true) ∧ Below w.heap.size w w' := by
  have hl0 : l0 ≤ maxLen := by
    rcases w0 with ⟨_, rfl, _⟩ | ⟨_, _, h1, h2, _⟩
    · exact Nat.zero_le _
    · omega
  have hl1 : l1 ≤ maxLen := by
    rcases w1 with ⟨_, rfl, _⟩ | ⟨_, _, h1, h2, _⟩
    · exact Nat.zero_le _
    · omega
  have hl3 : l3 ≤ maxLen := by
    rcases w3 with ⟨_, rfl, _⟩ | ⟨_, _, h1, h2, _⟩
    · exact Nat.zero_le _
    · omega
  unfold maxLen at hl0 hl1 hl3
  by_cases h60 : 60 < l0
  · have d1 : decide ((60 : Int) < (l0 : Int)) = true := by simp; omega
    clear w0 w1 w2 w3
    go_enter Try.func6, Try.ntmps6
    go_wp2_with (go_at_call 7; refine (wakes_ok _).mono ?_; rintro e w2 ⟨rfl, b2⟩)
    go_ret
    exact ⟨rfl, b2⟩
  have d1 : decide ((60 : Int) < (l0 : Int)) = false := by simp; omega
  by_cases h61 : 60 < l1
  · have d2 : decide ((60 : Int) < (l1 : Int)) = true := by simp; omega
    clear w0 w1 w2 w3
    go_enter Try.func6, Try.ntmps6
    go_wp2_with (go_at_call 7; refine (wakes_ok _).mono ?_; rintro e w2 ⟨rfl, b2⟩)
    go_ret
    exact ⟨rfl, b2⟩
  have d2 : decide ((60 : Int) < (l1 : Int)) = false := by simp; omega
  obtain ⟨zs, rfl, hrow, hnil, -, -, hwf⟩ := w0.row (by omega)
  obtain ⟨ys, rfl, krow, knil, -, -, kwf⟩ := w1.row (by omega)
  have hm : ∀ x ∈ zs, x ≤ 9223372036854775807 := fun x hx => wf_le (hwf x hx)
  have km : ∀ x ∈ ys, x ≤ 9223372036854775807 := fun x hx => wf_le (kwf x hx)
  have hlit := wf_le w2
  have Hrow := Lib.hid hrow
  have Hm := Lib.hid hm
  have Hnil := Lib.hid hnil
  have Krow := Lib.hid krow
  have Km := Lib.hid km
  have Knil := Lib.hid knil
  have W3 := Lib.hid w3
  have hmk := make60
  clear w0 w1 w2 w3 hrow krow hwf kwf hm km hnil knil z0 z1
  go_enter Try.func6, Try.ntmps6
  go_wp2
  go_loopw [27] (fun vi wr => ∃ (k : Nat) (V : List Int), k ≤ 60 ∧ vi = .int .i64 k ∧ Blk wr w.heap.size 26 (c8 V) ∧ Two V k ∧ Below w.heap.size w wr) (fun vi _ => (60 - intOf vi).toNat)
  case atStart =>
    exact ⟨0, zeros60, Nat.zero_le _, rfl, Blk.new w _ _, two_zeros, (Below.refl _ w).alloc (Nat.le_refl _) _⟩
  case round =>
    obtain ⟨k, V, hk, rfl, hV, hV2, hbel⟩ := hrel
    by_cases hlt : k < 60
    · have y0 := blk8_cell hV (show k < V.length by rw [hV2.1]; exact hlt)
      have f0 := hV.frozen k
      generalize V[k]'(by rw [hV2.1]; exact hlt) = v0 at y0
      have HV := Lib.hid hV
      have HV2 := Lib.hid hV2
      have HB := Lib.hid hbel
      clear hV hV2
      have t1 : (k : Int) < 60 := by omega
      have t2 : (0 : Int) ≤ (k : Int) := by omega
      by_cases hb1 : k < l3
      · have d2 : decide ((k : Int) < (l3 : Int)) = true := by simp; exact hb1
        obtain ⟨x, rfl, hz⟩ : ∃ x, A3 = some x ∧ w.cell? (x.add k) = some (.bool (B3 k)) := by
          rcases W3.out with ⟨_, h, _⟩ | ⟨x, hx, h1, _, h3⟩
          · omega
          · exact ⟨x, hx, h3 k (by omega)⟩
        have y2 : (wr.setCell ⟨w.heap.size, k, none⟩ (.int .i8 2)).cell? (x.add k) = some (.bool (B3 k)) := ((hbel.setCell (Nat.le_refl _) _).cell (World.block_lt_of_cell? _ _ hz)).trans hz
        have hxb : x.block < w.heap.size := by have := World.block_lt_of_cell? _ _ hz; rwa [block_of_add] at this
        have t3 : (k : Int) < (l3 : Int) := by omega
        clear hz hbel
        cases hB : B3 k with
        | true =>
          rw [hB] at y2
          clear hB
          go_wp2
          go_roundw
          case rel =>
            exact ⟨k + 1, _, by omega, by go_num, blk8_set (blk8_set HV.out k 2) k 1, two_again (two_set HV2.out hlt (.inr rfl)) (.inl rfl), (HB.out.setCell (Nat.le_refl _) _).setCell (Nat.le_refl _) _⟩
          case measure => simp only [intOf]; omega
        | false =>
          rw [hB] at y2
          clear hB
          go_wp2
          go_roundw
          case rel => exact ⟨k + 1, _, by omega, by go_num, blk8_set HV.out k 2, two_set HV2.out hlt (.inr rfl), HB.out.setCell (Nat.le_refl _) _⟩
          case measure => simp only [intOf]; omega
      · have d2 : decide ((k : Int) < (l3 : Int)) = false := by simp; omega
        clear hbel
        go_wp2
        go_roundw
        case rel => exact ⟨k + 1, _, by omega, by go_num, blk8_set HV.out k 2, two_set HV2.out hlt (.inr rfl), HB.out.setCell (Nat.le_refl _) _⟩
        case measure => simp only [intOf]; omega
    · obtain rfl : k = 60 := by omega
      have hVR := Lib.hid (blk8_row hV (by rw [hV2.1]; decide))
      have HV2 := Lib.hid hV2
      have HB := Lib.hid hbel
      have HZ := Lib.hid (Hrow.out.below hbel)
      have HY := Lib.hid (Krow.out.below hbel)
      clear hV hV2
      have hlen : zs.length ≤ 60 := by omega
      have klen : ys.length ≤ 60 := by omega
      clear h60 h61 hl0 hl1 hk hlt hbel
      have hba : Below wr.heap.size wr (wr.alloc (.cells #[] 3)) := (Below.refl _ wr).alloc (Nat.le_refl _) _
      have Hba := Lib.hid hba
      have HZ1 := Lib.hid (HZ.out.below hba)
      clear hba
      have HO := Lib.hid (own_empty wr)
      obtain ⟨L, hL⟩ : ∃ L, [] ++ zs ++ ys = L := ⟨_, rfl⟩
      have hLl : L.length = zs.length + ys.length := by rw [← hL]; simp
      have hLl2 : L.length ≤ 120 := by omega
      have HL := Lib.hid hL
      have HLl := Lib.hid hLl
      clear hL hLl
      go_wp2_with (first
        | (at_builtin; refine list_append_row _ rfl (.tmp 47) (.tmp 48) rfl wr.heap.size _ 0 [] rfl HO.out A0 c0 zs rfl HZ1.out Hnil.out (by omega) (by simp) ?_; intro v1 wa ho1 hg1; have HY1 := Lib.hid (HY.out.below (below_grow Hba.out hg1 (by simp) (Nat.le_refl _))); have HO1 := Lib.hid ho1; have HG1 := Lib.hid (below_grow Hba.out hg1 (by simp) (Nat.le_refl _)); clear ho1 hg1)
        | (at_builtin; refine list_append_row _ rfl (.tmp 49) (.tmp 50) rfl wr.heap.size v1 (0 + zs.length) ([] ++ zs) rfl HO1.out A1 c1 ys rfl HY1.out Knil.out (by omega) HG1.out.size ?_; intro v2 wb ho2 hg2; rw [HL.out] at ho2; obtain ⟨D, d, rfl, hr2, _⟩ := own_row ho2 (by rw [HLl.out]; omega) (by omega); have HR2 := Lib.hid hr2; have HG2 := Lib.hid (below_grown_own HG1.out hg2 HO1.out (Nat.le_refl _) HG1.out.size); clear ho2 hg2 hr2))
      have HB2 := Lib.hid (HB.out.trans (HG2.out.mono HB.out.size))
      have HV3 := Lib.hid (hVR.out.below HG2.out)
      have HZ3 := Lib.hid (HZ.out.below HG2.out)
      have HY3 := Lib.hid (HY.out.below HG2.out)
      clear HO1 HO HG1 HG2 HY1 HZ1 Hba hVR HZ HY HB hmk
      go_loopg [53] L.length (fun g v wx => wb = wx ∧ ∃ i : Nat, i + g = L.length ∧ v = .int .i64 i ∧ ∀ x ∈ L.take i, 0 ≤ x ∧ x < 120)
      case atStart => exact ⟨rfl, 0, by omega, rfl, fun x hx => by cases hx⟩
      case round =>
        obtain ⟨rfl, i, hig, rfl, hin⟩ := hrel
        cases gk with
        | succ g =>
          have hlt : i < L.length := by omega
          have d2 : decide ((i : Int) < (L.length : Int)) = true := by simp; omega
          have hin1 : 0 ≤ L[i] → L[i] < 120 → ∀ x ∈ L.take (i + 1), 0 ≤ x ∧ x < 120 := by
            intro g1 g2 x hx
            rw [List.take_succ_eq_append_getElem hlt] at hx
            rcases List.mem_append.1 hx with hx | hx
            · exact hin x hx
            · rw [List.mem_singleton.1 hx]
              exact ⟨g1, g2⟩
          obtain ⟨b, off, hD, hb, hcell⟩ := HR2.out.at_.resolve_left (by omega)
          subst hD
          have y0 := hcell i hlt
          have Hin1 := Lib.hid hin1
          clear hcell hin hin1
          generalize L[i] = x at *
          by_cases g1 : x < 0
          · have d3 : decide (x < (0 : Int)) = true := decide_eq_true g1
            clear g1
            go_wp2_with (go_at_call 7; refine (wakes_ok _).mono ?_; rintro e w2 ⟨rfl, b2⟩)
            go_ret
            exact ⟨rfl, below_then HB2.out (Nat.le_refl _) b2⟩
          have d3 : decide (x < (0 : Int)) = false := decide_eq_false g1
          by_cases g2 : 120 ≤ x
          · have d4 : decide ((120 : Int) ≤ x) = true := decide_eq_true g2
            clear g1 g2
            go_wp2_with (go_at_call 7; refine (wakes_ok _).mono ?_; rintro e w2 ⟨rfl, b2⟩)
            go_ret
            exact ⟨rfl, below_then HB2.out (Nat.le_refl _) b2⟩
          have d4 : decide ((120 : Int) ≤ x) = false := decide_eq_false g2
          have hin2 := Lib.hid (Hin1.out (by omega) (by omega))
          clear g1 g2
          go_wp2
          go_roundg g
          case measure => omega
          case rel => exact ⟨rfl, i + 1, by omega, by go_num, hin2.out⟩
        | zero =>
          obtain rfl : i = L.length := by omega
          have d2 : decide ((L.length : Int) < (L.length : Int)) = false := by simp
          rw [List.take_length] at hin
          have hz : ∀ x ∈ zs, 0 ≤ x ∧ x < 120 := fun x hx => hin x (by rw [← HL.out]; simp [hx])
          have hy : ∀ x ∈ ys, 0 ≤ x ∧ x < 120 := fun x hx => hin x (by rw [← HL.out]; simp [hx])
          have e1 : V.length = 60 := HV2.out.1
          have Hz := Lib.hid hz
          have Hy := Lib.hid hy
          have E1 := Lib.hid e1
          clear hin hz hy e1 hig hLl2
          cases hcan : canM zs ys lit with
          | false =>
            have K1 := resolve_no c0 c1 lit hlit HZ3.out HY3.out hcan
            clear hcan
            go_wp2_with (first
              | (go_at_call 14; (with_reducible refine K1.mono ?_); rintro e w2 ⟨rfl, rfl⟩)
              | (go_at_call 7; refine (wakes_ok _).mono ?_; rintro e w4 ⟨rfl, hb4⟩; have HB4 := Lib.hid (below_then HB2.out (Nat.le_refl _) hb4); clear hb4))
            go_ret
            exact ⟨rfl, HB4.out⟩
          | true =>
            have K1 := resolve_yes c0 c1 lit hlit HZ3.out HY3.out hcan (by omega)
            clear hcan
            go_upto_region 20 with (go_at_call 14; (with_reducible refine K1.mono ?_); rintro e wq ⟨C, cc, rfl, hr, hn, hb⟩; have HR := Lib.hid hr; have HN := Lib.hid hn; have HQ := Lib.hid hb; clear hr hn hb)
            have HBq := Lib.hid (below_then HB2.out (Nat.le_refl _) HQ.out)
            have hba : Below wq.heap.size wq (wq.alloc (.cells #[.slice A0 zs.length c0, .slice A1 ys.length c1] 22)) := (Below.refl _ wq).alloc (Nat.le_refl _) _
            have K2 := holds_ok 2 60 (grid_two (HZ3.out.below HQ.out) (HY3.out.below HQ.out) Hnil.out Knil.out) ((HV3.out.below HQ.out).below hba) (by
              intro r hr
              rcases List.mem_cons.1 hr with rfl | hr
              · exact Hm.out
              · rcases List.mem_cons.1 hr with rfl | hr
                · exact Km.out
                · cases hr)
            have hmr : ∀ x ∈ resM zs ys lit, x ≤ 9223372036854775807 := by
              intro x hx
              rcases ((mem_res _ _ _ _).1 hx).1 with h | h
              · exact Hm.out x h.1
              · exact Km.out x h.1
            have his := is_make (woM lit zs ++ woM (negM lit) ys)
            have K4 := fun W (h : Row .i64 W C (resM zs ys lit)) => is_ok cc h HN.out
            rw [show (resM zs ys lit == makeM (resM zs ys lit)) = true from his] at K4
            rw [E1.out, show [(A0, c0, zs), (A1, c1, ys)].length = 2 from rfl] at K2
            have hrl : (resM zs ys lit).length ≤ 1000000 := HR.out.len
            clear his
            by_cases hh : (∃ x ∈ zs, valM V x = 1) ∧ (∃ x ∈ ys, valM V x = 1)
            · have e2 : [(A0, c0, zs), (A1, c1, ys)].any (nhP V) = false := by
                simp only [List.any_cons, List.any_nil, (nh_iff V A0 c0 zs).2 hh.1, (nh_iff V A1 c1 ys).2 hh.2, Bool.or_self]
              have e3 : [(C, cc, resM zs ys lit)].any (nhP V) = false := by
                simp only [List.any_cons, List.any_nil, (nh_iff V C cc (resM zs ys lit)).2 (res_holds HV2.out Hz.out Hy.out hh.1 hh.2), Bool.or_self]
              rw [e2] at K2
              have K3 := fun W (hr : Row .i64 W C (resM zs ys lit)) (hv : Row .i8 (W.alloc (.cells #[.slice C (resM zs ys lit).length cc] 22)) (some ⟨w.heap.size, 0, none⟩) V) => holds_ok 1 60 (grid_one hr HN.out) hv (by
                intro r hr
                rcases List.mem_cons.1 hr with rfl | hr
                · exact hmr
                · cases hr)
              rw [E1.out, e3, show [(C, cc, resM zs ys lit)].length = 1 from rfl] at K3
              have HVq := Lib.hid ((HV3.out.below HQ.out).below hba)
              have HRq := Lib.hid (HR.out.below hba)
              have HBa := Lib.hid (HBq.out.trans (hba.mono HBq.out.size))
              clear e2 e3 hh hmr hba
              generalize resM zs ys lit = m at *
              go_upto_region 22 with (first
                | (go_at_call 16; (with_reducible refine K2.mono ?_); rintro e w5 ⟨rfl, hb5⟩; have HR5 := Lib.hid (HRq.out.below hb5); have HV5 := Lib.hid (HVq.out.below hb5); have HB5 := Lib.hid (below_then HBa.out (Nat.le_refl _) hb5); clear hb5)
                | (go_at_call 16; (refine (K3 _ HR5.out (HV5.out.below ((Below.refl _ _).alloc (Nat.le_refl _) _))).mono ?_); rintro e w6 ⟨rfl, hb6⟩; have HR6 := Lib.hid ((HR5.out.below ((Below.refl _ _).alloc (Nat.le_refl _) _)).below hb6); have HB6 := Lib.hid (below_then (HB5.out.trans (((Below.refl _ _).alloc (Nat.le_refl _) _).mono HB5.out.size)) (Nat.le_refl _) hb6); clear hb6))
              go_wp2_with (first
                | (go_at_call 12; (refine (K4 _ HR6.out).mono ?_); rintro e w7 ⟨rfl, hb7⟩; have HB7 := Lib.hid (below_then HB6.out (Nat.le_refl _) hb7); clear hb7)
                | (go_at_call 7; refine (wakes_ok _).mono ?_; rintro e w8 ⟨rfl, hb8⟩; have HB8 := Lib.hid (below_then HB7.out (Nat.le_refl _) hb8); clear hb8))
              go_ret
              exact ⟨rfl, HB8.out⟩
            · have e2 : [(A0, c0, zs), (A1, c1, ys)].any (nhP V) = true := by
                cases e : [(A0, c0, zs), (A1, c1, ys)].any (nhP V) with
                | true => rfl
                | false =>
                  exfalso
                  simp only [List.any_cons, List.any_nil, Bool.or_eq_false_iff] at e
                  exact hh ⟨(nh_iff V A0 c0 zs).1 e.1, (nh_iff V A1 c1 ys).1 e.2.1⟩
              rw [e2] at K2
              have HRq := Lib.hid (HR.out.below hba)
              have HBa := Lib.hid (HBq.out.trans (hba.mono HBq.out.size))
              clear e2 hh hmr hba
              generalize resM zs ys lit = m at *
              go_wp2_with (first
                | (go_at_call 16; (with_reducible refine K2.mono ?_); rintro e w5 ⟨rfl, hb5⟩; have HR5 := Lib.hid (HRq.out.below hb5); have HB5 := Lib.hid (below_then HBa.out (Nat.le_refl _) hb5); clear hb5)
                | (go_at_call 12; (refine (K4 _ HR5.out).mono ?_); rintro e w6 ⟨rfl, hb6⟩; have HB6 := Lib.hid (below_then HB5.out (Nat.le_refl _) hb6); clear hb6)
                | (go_at_call 7; refine (wakes_ok _).mono ?_; rintro e w7 ⟨rfl, hb7⟩; have HB7 := Lib.hid (below_then HB6.out (Nat.le_refl _) hb7); clear hb7))
              go_ret
              exact ⟨rfl, HB7.out⟩
end Go.Proofs.Ytlganicnbcnngaa

/- UnitsMore's walk. -/
import Derived.Test.YtfkjojogkdlcgaaUnMa
import Derived.Test.YtfkjojogkdlcgaaUnR
namespace Go.Proofs.Ytfkjojogkdlcgaa
open Go.RowKit Go.Lib

theorem IsRow.below {k : IntKind} {w W : World} {A : Option Addr} {l c : Nat} {z : List Int} (h : IsRow k w A l c z) (hb : Below w.heap.size w W) : IsRow k W A l c z := by
  rcases h with h | ⟨x, h0, h1, h2, h3, h4, h5⟩
  · exact .inl h
  · exact .inr ⟨x, h0, h1, h2, h3, fun i hi => (hb.cell (World.block_lt_of_cell? _ _ (h4 i hi))).trans (h4 i hi), h5⟩
theorem grid_both2 {w W : World} {B : Nat} {GA : Option Addr} {gc : Nat} {a a2 : Option Addr} {l c l2 c2 : Nat} {A A2 : Nat → Option Addr} {L C L2 C2 : Nat → Nat} {Z Z2 : Nat → List Int} (h : IsGrid w a l c A L C Z) (k : IsGrid w a2 l2 c2 A2 L2 C2 Z2) (hb : Below w.heap.size w W)
    (ho : W.ownsRow B 23 1 (.slice GA (l + l2) gc) (l + l2) ((gridRows l A L C Z ++ gridRows l2 A2 L2 C2 Z2).map encR)) :
    GridAt W GA (l + l2) (fun r => if r < l then A r else A2 (r - l)) (fun r => if r < l then L r else L2 (r - l)) (fun r => if r < l then C r else C2 (r - l)) (fun r => if r < l then Z r else Z2 (r - l)) := by
  obtain ⟨GA', gc', hv, hg⟩ := grid_both h k hb ho
  injection hv with h1 _ _
  subst h1
  exact hg
theorem Grid.news {w W : World} {a : Option Addr} {cap : Nat} {R : List (Option Addr × Nat × List Int)} (h : Grid w a R) (hn : a = none → cap = 0) (hb : Below w.heap.size w W) : (a = none → R.length = 0 ∧ cap = 0) ∧ ∀ ad, a = some ad → ∀ j (hj : j < R.length), W.cell? (ad.add j) = some (encR R[j]) := by
  refine ⟨fun ha => ⟨?_, hn ha⟩, fun ad ha j hj => ?_⟩
  · rcases h.at_ with h0 | ⟨b, off, e, _⟩
    · exact h0
    · rw [ha] at e; cases e
  · obtain ⟨b, off, e, hlt, hc⟩ := h.at_.resolve_left (by omega)
    rw [ha] at e
    injection e with e
    subst e
    have e1 : (⟨b, off, none⟩ : Addr).add j = ⟨b, off + j, none⟩ := by unfold Addr.add; split <;> simp_all
    rw [e1]
    exact (hb.cell (p := ⟨b, off + j, none⟩) hlt).trans (hc j hj).1
theorem Grid.each {w : World} {a : Option Addr} {R : List (Option Addr × Nat × List Int)} (h : Grid w a R) : ∀ r ∈ R, Row .i64 w r.1 r.2.2 ∧ (r.1 = none → r.2.1 = 0) := by
  intro r hr
  obtain ⟨j, hj, rfl⟩ := List.mem_iff_getElem.1 hr
  obtain ⟨lb, loff, _, _, hlc⟩ := h.at_.resolve_left (by omega)
  exact ⟨(hlc j hj).2.1, (hlc j hj).2.2⟩
theorem small_left {l l2 : Nat} {L L2 : Nat → Nat} {Z Z2 : Nat → List Int} {g g2 : Nat} {z z2 : List Int} (hz : (z.take g).length = g) (hz2 : (z2.take g2).length = g2)
    (h : Small (l + l2) (fun r => if r < l then L r else L2 (r - l)) (fun r => if r < l then Z r else Z2 (r - l)) (g + g2) ([] ++ z.take g ++ z2.take g2)) : Small l L Z g z ∧ Small l2 L2 Z2 g2 z2 := by
  obtain ⟨h1, h2, h3, h4⟩ := h
  rw [List.nil_append] at h4
  constructor
  · refine ⟨by omega, by omega, fun r hr => ?_, fun i hi => ?_⟩
    · have := h3 r (by omega)
      simpa only [if_pos hr] using this
    · have := h4 i (by omega)
      rw [List.getD_eq_getElem?_getD, List.getElem?_append_left (by omega), List.getElem?_take_of_lt hi] at this
      rw [List.getD_eq_getElem?_getD]
      exact this
  · refine ⟨by omega, by omega, fun r hr => ?_, fun i hi => ?_⟩
    · have := h3 (l + r) (by omega)
      simp only [if_neg (show ¬ l + r < l by omega), show l + r - l = r by omega] at this
      exact this
    · have := h4 (g + i) (by omega)
      rw [List.getD_eq_getElem?_getD, List.getElem?_append_right (by omega), hz, show g + i - g = i by omega, List.getElem?_take_of_lt hi] at this
      rw [List.getD_eq_getElem?_getD]
      exact this
theorem rowIn {w : World} {A : Option Addr} {l c : Nat} {z : List Int} (h : IsRow .i64 w A l c z) : l ≤ c ∧ (z.take l).length = l := by
  rcases h with ⟨_, rfl, rfl, rfl⟩ | ⟨_, _, h1, _, h3, _⟩
  · exact ⟨Nat.le_refl _, rfl⟩
  · exact ⟨h1, by rw [List.length_take]; omega⟩
theorem gridIn {w : World} {a : Option Addr} {len cap : Nat} {A : Nat → Option Addr} {L C : Nat → Nat} {Z : Nat → List Int} (h : IsGrid w a len cap A L C Z) : len ≤ cap ∧ (a = none → cap = 0) := by
  rcases h with ⟨_, rfl, rfl⟩ | ⟨_, h0, h1, _⟩
  · exact ⟨Nat.le_refl _, fun _ => rfl⟩
  · exact ⟨h1, fun e => by rw [e] at h0; cases h0⟩

set_option maxRecDepth 100000 in
set_option maxHeartbeats 4000000 in
theorem unitsMore_walk (A0 : Option Addr) (l0 c0 : Nat) (A : Nat → Option Addr) (L C : Nat → Nat) (Z : Nat → List Int) (A1 : Option Addr) (l1 c1 : Nat) (A' : Nat → Option Addr) (L' C' : Nat → Nat) (Z' : Nat → List Int) (A2 : Option Addr) (l2 c2 : Nat) (z2 : List Int) (A3 : Option Addr) (l3 c3 : Nat) (z3 : List Int) (w : World)
    (w0 : IsGrid w A0 l0 c0 A L C Z) (w1 : IsGrid w A1 l1 c1 A' L' C' Z') (w2 : IsRow .i64 w A2 l2 c2 z2) (w3 : IsRow .i64 w A3 l3 c3 z3) (hs : c0 + c1 + c2 + c3 ≤ 1048576) :
    Calls Try.prog 4 #[.slice A0 l0 c0, .slice A1 l1 c1, .slice A2 l2 c2, .slice A3 l3 c3] w fun e w' => e = .returned (.bool true) ∧ Below w.heap.size w w' := by
  have g0 := gridIn w0
  have g1 := gridIn w1
  have r2 := rowIn w2
  have r3 := rowIn w3
  have hl0 := g0.1
  have hl1 := g1.1
  have hl2 := r2.1
  have hl3 := r3.1
  have hba : Below w.heap.size w (w.alloc (.cells #[] 23)) := (Below.refl _ w).alloc (Nat.le_refl _) _
  have N0 := Lib.hid (w0.news hba)
  have N1 := Lib.hid (fun W (h : Below w.heap.size w W) => w1.news h)
  have W0 := Lib.hid w0
  have W1 := Lib.hid w1
  have W2 := Lib.hid w2
  have W3 := Lib.hid w3
  have Hba := Lib.hid hba
  have Hg0 := Lib.hid g0.2
  have Hg1 := Lib.hid g1.2
  have Hr2 := Lib.hid r2.2
  have Hr3 := Lib.hid r3.2
  have Hbb := Lib.hid (fun W : World => (show Below W.heap.size W (W.alloc (.cells #[] 3)) from (Below.refl _ W).alloc (Nat.le_refl _) _))
  have X1 := Lib.hid (show (0 + l0) * 24 ≤ 140737488355328 by omega)
  have X2 := Lib.hid (show (l0 + l1) * 24 ≤ 140737488355328 by omega)
  have X3 := Lib.hid (show (0 + l2) * 8 ≤ 140737488355328 by omega)
  have X4 := Lib.hid (show (l2 + l3) * 8 ≤ 140737488355328 by omega)
  have X5 := Lib.hid (show l2 + l3 = ([] ++ z2.take l2 ++ z3.take l3).length by rw [List.length_append, List.nil_append, r2.2, r3.2])
  have X6 := Lib.hid (show l0 + l1 ≤ 9223372036854775807 by omega)
  have X7 := Lib.hid (show l2 + l3 ≤ 9223372036854775807 by omega)
  clear w0 w1 w2 w3 hba g0 g1 r2 r3
  go_enter Try.func4, Try.ntmps4
  go_upto_region 3 with (first
    | (at_builtin; refine list_append_rows _ rfl (.tmp 15) (.tmp 16) rfl w.heap.size _ 0 [] rfl (own_emptyR w) A0 l0 c0 _ rfl N0.out.1 N0.out.2.1 N0.out.2.2 X1.out (by simp) ?_; intro v1 wa ho1 hg1; rw [Nat.zero_add] at ho1; have HO1 := Lib.hid ho1; have HB1 := Lib.hid (below_grow Hba.out hg1 (by simp) (Nat.le_refl _)); clear ho1 hg1)
    | (at_builtin; refine list_append_rows _ rfl (.tmp 17) (.tmp 18) rfl w.heap.size v1 l0 _ rfl HO1.out A1 l1 c1 _ rfl (N1.out _ HB1.out).1 (N1.out _ HB1.out).2.1 (N1.out _ HB1.out).2.2 X2.out HB1.out.size ?_; intro v2 wb ho2 hg2; obtain ⟨GA, gc, rfl⟩ := own_slice ho2; have HO2 := Lib.hid ho2; have HB2 := Lib.hid (below_grown_own HB1.out hg2 HO1.out (Nat.le_refl _) HB1.out.size); clear ho2 hg2)
    | (at_builtin; refine list_append_any _ rfl (.tmp 20) (.tmp 21) rfl wb.heap.size _ 0 [] rfl (own_empty wb) A2 l2 c2 z2 rfl ((W2.out.below HB2.out).below (Hbb.out wb)) X3.out (by simp) ?_; intro v3 wc ho3 hg3; rw [Nat.zero_add] at ho3; have HO3 := Lib.hid ho3; have HB3 := Lib.hid (below_grow (Hbb.out wb) hg3 (by simp) (Nat.le_refl _)); clear ho3 hg3)
    | (at_builtin; refine list_append_any _ rfl (.tmp 22) (.tmp 23) rfl wb.heap.size v3 l2 _ rfl HO3.out A3 l3 c3 z3 rfl ((W3.out.below HB2.out).below HB3.out) X4.out HB3.out.size ?_; intro v4 wd ho4 hg4; obtain ⟨EA, ec, rfl, hge⟩ := own_given ho4 X5.out; have HGE := Lib.hid hge; have HB4 := Lib.hid (below_grown_own HB3.out hg4 HO3.out (Nat.le_refl _) HB3.out.size); have HBd := Lib.hid (below_then HB2.out (Nat.le_refl _) (below_grown_own HB3.out hg4 HO3.out (Nat.le_refl _) HB3.out.size)); clear ho4 hg4 hge)
    | (go_at_call 10; (with_reducible refine (great16h_ok (grid_both2 W0.out W1.out HBd.out (own_belowK HO2.out HB4.out)) X6.out HGE.out X7.out).mono ?_); rintro e w5 ⟨bb, rfl, rfl, hbb⟩; have HBB := Lib.hid hbb; clear hbb; cases bb))
  rotate_left
  · refine (wakes_ok _).mono ?_
    rintro e w2 ⟨rfl, b2⟩
    go_wp2
    go_ret
    exact ⟨rfl, below_then HBd.out (Nat.le_refl _) b2⟩
  obtain ⟨hs0, hs1⟩ := small_left Hr2.out Hr3.out (HBB.out (by first | rfl | trivial))
  have ht0 := tame_of W0.out W2.out hs0
  have ht1 := tame_of W1.out W3.out hs1
  clear N0 N1 W0 W1 W2 W3 Hr2 Hr3 X1 X2 X3 X4 X5 X6 X7 HO1 HO2 HO3 HGE HBB hs0 hs1 Hba
  obtain ⟨R, zs, rfl, rfl, hT⟩ := ht0
  obtain ⟨R', zs', rfl, rfl, hT'⟩ := ht1
  have hr80 := hT.r80
  have hz200 := hT.z200
  have hr80' := hT'.r80
  have hz200' := hT'.z200
  obtain ⟨RR, hRR⟩ : ∃ RR, [] ++ R ++ R' = RR := ⟨_, rfl⟩
  obtain ⟨ZZ, hZZ⟩ : ∃ ZZ, [] ++ zs ++ zs' = ZZ := ⟨_, rfl⟩
  have HRRl := Lib.hid (show R.length + R'.length = RR.length by rw [← hRR]; simp)
  have HZZl := Lib.hid (show 0 + zs.length + zs'.length = ZZ.length by rw [← hZZ]; simp)
  have hzm : ∀ x ∈ ZZ, x ≤ 9223372036854775807 := by
    intro x hx
    rw [← hZZ, List.nil_append] at hx
    rcases List.mem_append.1 hx with hx | hx
    · exact hT.max x hx
    · exact hT'.max x hx
  have K1 := run_row c0 c2 (hT.grid.below HBd.out) (hT.row.below HBd.out) hT.max
  have K2 := fun W MA mc EA ec (g : Grid W MA RR) (r : Row .i64 W EA ZZ) => run_row mc ec g r hzm
  have hsub := fun hk => run_sub (cs := rowsOf RR) (cs' := rowsOf R) (given := ZZ) (given' := zs) (fun c hc => by
    rw [← hRR]
    unfold rowsOf at hc ⊢
    rw [List.nil_append, List.map_append]
    exact List.mem_append_left _ hc) (fun x hx => by rw [← hZZ, List.nil_append]; exact List.mem_append_left _ hx) hk
  have hok1 := run_lits (rowsOf R) zs
  have hok2 := run_lits (rowsOf RR) ZZ
  generalize runM (rowsOf R) zs = res1 at K1 hsub hok1
  generalize runM (rowsOf RR) ZZ = res2 at K2 hsub hok2
  obtain ⟨as1, k1⟩ := res1
  obtain ⟨bs1, k2⟩ := res2
  simp only at K1 K2 hsub hok1 hok2
  have HT := Lib.hid hT
  have HT' := Lib.hid hT'
  have HRR := Lib.hid hRR
  have HZZ := Lib.hid hZZ
  have Hsub := Lib.hid hsub
  have Hok1 := Lib.hid hok1
  have Hok2 := Lib.hid hok2
  have hal := hok1.len
  have hbl := hok2.len
  have X8 := Lib.hid (show RR.length ≤ 1000000 by rw [← HRRl.out]; omega)
  have X9 := Lib.hid (show ZZ.length ≤ 1000000 by rw [← HZZl.out]; omega)
  clear hT hT' hRR hZZ hsub hok1 hok2 hzm
  go_upto_region 4 with (go_at_call 12; (with_reducible refine K1.mono ?_); rintro e wq ⟨B, d, rfl, hr1, hn1, hb1⟩; have HR1 := Lib.hid hr1; have HQ := Lib.hid (below_then HBd.out (Nat.le_refl _) hb1); clear hr1 hn1 hb1)
  clear K1
  have HGq := Lib.hid (HT.out.grid.below HQ.out)
  have HGq' := Lib.hid (HT'.out.grid.below HQ.out)
  have HZq := Lib.hid (HT.out.row.below HQ.out)
  have HZq' := Lib.hid (HT'.out.row.below HQ.out)
  have HN := Lib.hid (HGq.out.news Hg0.out ((Below.refl _ wq).alloc (Nat.le_refl _) (.cells #[] 23)))
  have HBa := Lib.hid (show Below wq.heap.size wq (wq.alloc (.cells #[] 23)) from (Below.refl _ wq).alloc (Nat.le_refl _) _)
  go_upto_region 5 with (first
    | (at_builtin; refine list_append_rows _ rfl (.tmp 34) (.tmp 35) rfl wq.heap.size _ 0 [] rfl (own_emptyR wq) A0 R.length c0 R rfl rfl HN.out.1 HN.out.2 (by omega) (by simp) ?_; intro v1 wa ho1 hg1; rw [Nat.zero_add] at ho1; have HO1 := Lib.hid ho1; have HB1 := Lib.hid (below_grow HBa.out hg1 (by simp) (Nat.le_refl _)); clear ho1 hg1)
    | (at_builtin; refine list_append_rows _ rfl (.tmp 36) (.tmp 37) rfl wq.heap.size v1 R.length _ rfl HO1.out A1 R'.length c1 R' rfl rfl (HGq'.out.news Hg1.out HB1.out).1 (HGq'.out.news Hg1.out HB1.out).2 (by omega) HB1.out.size ?_; intro v2 wb2 ho2 hg2; have hb2 := below_grown_own HB1.out hg2 HO1.out (Nat.le_refl _) HB1.out.size; rw [HRR.out, HRRl.out] at ho2; obtain ⟨MA, mc, rfl, hmg⟩ := own_grid2 ho2 X8.out (fun r hr => by rw [← HRR.out, List.nil_append] at hr; rcases List.mem_append.1 hr with hr | hr; exact (HGq.out.below hb2).each r hr; exact (HGq'.out.below hb2).each r hr); have HB2q := Lib.hid hb2; have HMG := Lib.hid hmg; clear ho2 hg2 hb2 hmg)
    | (at_builtin; refine list_append_row _ rfl (.tmp 39) (.tmp 40) rfl wb2.heap.size _ 0 [] rfl (own_empty wb2) A2 c2 zs rfl ((HZq.out.below HB2q.out).below (Hbb.out wb2)) HT.out.nil (by omega) (by simp) ?_; intro v3 wc2 ho3 hg3; have HO3 := Lib.hid ho3; have HB3 := Lib.hid (below_grow (Hbb.out wb2) hg3 (by simp) (Nat.le_refl _)); clear ho3 hg3)
    | (at_builtin; refine list_append_row _ rfl (.tmp 41) (.tmp 42) rfl wb2.heap.size v3 (0 + zs.length) ([] ++ zs) rfl HO3.out A3 c3 zs' rfl ((HZq'.out.below HB2q.out).below HB3.out) HT'.out.nil (by omega) HB3.out.size ?_; intro v4 wd2 ho4 hg4; have hb4 := below_grown_own HB3.out hg4 HO3.out (Nat.le_refl _) HB3.out.size; rw [HZZ.out] at ho4; obtain ⟨EB, ec2, rfl, her, _⟩ := own_row ho4 HZZl.out X9.out; have HER := Lib.hid her; have HB4 := Lib.hid hb4; clear ho4 hg4 hb4 her)
    | (go_at_call 12; (with_reducible refine (K2 _ MA mc EB ec2 (HMG.out.below HB4.out) HER.out).mono ?_); rintro e w3 ⟨BB, dd, rfl, hr3, hn3, hb3⟩; have HR3 := Lib.hid hr3; have HQ3 := Lib.hid (below_then HB2q.out (Nat.le_refl _) (below_then HB4.out (Nat.le_refl _) hb3)); clear hr3 hn3 hb3))
  have HB3 := Lib.hid (below_then HQ.out (Nat.le_refl _) HQ3.out)
  have HRa3 := Lib.hid (HR1.out.below HQ3.out)
  clear K2
  by_cases hk2 : k2 = -1
  · obtain ⟨hk1, hsab⟩ := Hsub.out hk2
    subst hk2
    subst hk1
    have Hsab := Lib.hid hsab
    clear hsab
    have K3 := values16_ok dd HR3.out (fun x hx => by have := Hok2.out.rng x hx; omega)
    rw [puts_all bs1 [] (by simpa using Hok2.out), List.nil_append] at K3
    go_upto_region 10 with (go_at_call 16; (with_reducible refine K3.mono ?_); rintro e w4 ⟨va, AA, rfl, hP⟩; have HP := Lib.hid hP; clear hP)
    obtain ⟨ad, ac, rfl, hrA⟩ := HP.out.av.row (by rw [HP.out.len]; have := nodes_small Hok2.out; omega)
    have HrA := Lib.hid hrA
    have HRa4 := Lib.hid (HRa3.out.below HP.out.bel)
    have HB4 := Lib.hid (below_then HB3.out (Nat.le_refl _) HP.out.bel)
    have hrep := fun y (h0 : 0 ≤ y) => rep_val HP.out.rep Hok2.out h0
    have Hrep := Lib.hid hrep
    clear hrA hrep K3
    go_wp2
    go_loopg [14] as1.length (fun g v wx => w4 = wx ∧ ∃ i : Nat, i + g = as1.length ∧ v = .int .i64 i)
    case atStart => exact ⟨rfl, 0, by omega, rfl⟩
    case round =>
      obtain ⟨rfl, i, hig, rfl⟩ := hrel
      cases gk with
      | succ n =>
        have hlt : i < as1.length := by omega
        have d5 : decide ((i : Int) < as1.length) = true := by simp; omega
        obtain ⟨b, off, hA, hb, hcell⟩ := HRa4.out.at_.resolve_left (by omega)
        subst hA
        have y0 := hcell i hlt
        have hx := Hok1.out.rng as1[i] (List.getElem_mem hlt)
        have hv := Hsab.out as1[i] (List.getElem_mem hlt)
        have t1 : (0 : Int) ≤ (i : Int) := by omega
        have t2 : (i : Int) < (as1.length : Int) := by omega
        clear hcell
        generalize as1[i] = x at *
        have Kv := val15_ok ac HrA.out x (by omega)
        rw [Hrep.out x hx.1, valL_one.2 hv] at Kv
        clear hv hx
        go_wp2_with (go_at_call 14; (with_reducible refine Kv.mono ?_); rintro e w5 ⟨rfl, rfl⟩)
        go_roundg n
        case measure => omega
        case rel => exact ⟨rfl, i + 1, by omega, by go_num⟩
      | zero =>
        obtain rfl : i = as1.length := by omega
        have d5 : decide ((as1.length : Int) < as1.length) = false := by simp
        go_wp2_with (go_at_call 11; refine (wakes_ok _).mono ?_; rintro e w7 ⟨rfl, b7⟩; have HB7 := Lib.hid (below_then HB4.out (Nat.le_refl _) b7); clear b7)
        go_ret
        exact ⟨rfl, HB7.out⟩
  · have b3 : (k2 != -1) = true := by simpa using hk2
    clear hk2
    go_wp2_with (go_at_call 11; refine (wakes_ok _).mono ?_; rintro e w7 ⟨rfl, b7⟩; have HB7 := Lib.hid (below_then HB3.out (Nat.le_refl _) b7); clear b7)
    go_ret
    exact ⟨rfl, HB7.out⟩
end Go.Proofs.Ytfkjojogkdlcgaa

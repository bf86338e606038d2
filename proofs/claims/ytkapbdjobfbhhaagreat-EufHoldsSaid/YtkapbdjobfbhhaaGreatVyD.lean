/- A lemma has a literal that holds. -/
import Derived.Test.YtkapbdjobfbhhaaGreatVxW
import Derived.Test.YtkapbdjobfbhhaaGreatEvB
namespace Go.Proofs.YtkapbdjobfbhhaaGreat
structure WVal (T : List Nd) (val : Int → Int) : Prop where
  bool : ∀ i : Nat, i < T.length → (ndAt T i).sort = 0 → val i = 0 ∨ val i = 1
  tru : val 0 = 1
  not : ∀ (i : Nat) n, T[i]? = some n → n.op = 1 → val i = 1 - val n.a0 ∧ n.sort = 0 ∧ (ndAt T n.a0).sort = 0
  eq : ∀ (i : Nat) n, T[i]? = some n → n.op = 6 → (val i = 1 ↔ val n.a0 = val n.a1) ∧ (ndAt T n.a0).sort = (ndAt T n.a1).sort
  app : ∀ (i k : Nat) n m, T[i]? = some n → T[k]? = some m → n.op = 13 → m.op = 13 → n.fn = m.fn → n.len = m.len → (∀ j : Nat, (j : Int) < n.len → val (n.arg j) = val (m.arg j)) → val i = val k
  srt : ∀ (i k : Nat) n m, T[i]? = some n → T[k]? = some m → n.op = 13 → m.op = 13 → n.fn = m.fn → n.sort = m.sort
def Hld (val : Int → Int) (x : Int) : Prop := val (x / 2) = 1 ↔ x % 2 = 0
def vN (T : List Nd) (val : Int → Int) (a : Int) : Int := if a = T.length then 0 else val a
def sN (T : List Nd) (a : Int) : Int := if a = T.length then 0 else (ndAt T a).sort
theorem vN_lt {T : List Nd} (val : Int → Int) {a : Int} (h : a < T.length) : vN T val a = val a := by unfold vN; rw [if_neg (by omega)]
theorem sN_lt {T : List Nd} {a : Int} (h : a < T.length) : sN T a = (ndAt T a).sort := by unfold sN; rw [if_neg (by omega)]
theorem vN_len (T : List Nd) (val : Int → Int) : vN T val T.length = 0 := if_pos rfl
theorem sN_len (T : List Nd) : sN T T.length = 0 := if_pos rfl
theorem lt_of_get {T : List Nd} {i : Nat} {n : Nd} (h : T[i]? = some n) : i < T.length := (List.getElem?_eq_some_iff.1 h).1
theorem ndAt_get {T : List Nd} {i : Nat} {n : Nd} (h : T[i]? = some n) : ndAt T i = n := by
  obtain ⟨h1, h2⟩ := List.getElem?_eq_some_iff.1 h
  rw [ndAt_nat h1, h2]
theorem Stands.eqArgs {n : Nd} {a : Int} (h : Stands n a) (ho : n.op = 6) : 0 ≤ n.a0 ∧ n.a0 < a ∧ 0 ≤ n.a1 ∧ n.a1 < a := by
  obtain ⟨lo, hi, e, h1, h2⟩ := h.ar
  unfold arityM at e
  rw [ho] at e
  have hl : n.len = 2 := by
    simp at e
    omega
  have g0 := (h.args 0 (by omega)).1 (by omega)
  have g1 := (h.args 1 (by omega)).1 (by omega)
  exact ⟨g0.1, g0.2, g1.1, g1.2⟩
theorem Sided.op {T : List Nd} {p : Int} {n : Nd} (h : Sided T p) (hn : T[p.toNat]? = some n) : n.op = 6 := by
  have hk : kindM T p = 4 ∨ kindM T p = 5 := h
  unfold kindM at hk
  rw [hn] at hk
  simp only at hk
  by_cases e : n.op = 6
  · exact e
  · exfalso
    have h1 : kindOp n.op ≠ 4 ∧ kindOp n.op ≠ 5 := by
      unfold kindOp
      constructor
      all_goals
        repeat' split
        all_goals omega
    split at hk
    · omega
    · first
        | (rw [if_neg e] at hk; omega)
        | omega
theorem LitMay.at_ {T : List Nd} {x : Int} (h : LitMay T x) : ∃ (p : Nat) (n : Nd), x / 2 = p ∧ T[p]? = some n ∧ n.sort = 0 ∧ p < T.length := by
  obtain ⟨n, h1, h2, _, h4, h5⟩ := h.node
  exact ⟨(x / 2).toNat, n, by omega, h1, h2, h4⟩
theorem Cg.sound {T : List Nd} {S : Int → Prop} {val : Int → Int} (hT : TabOk T) (hw : WVal T val) (hS : ∀ x, S x → LitMay T x ∧ Hld val x) {a b : Int} (g : Cg T S a b) : vN T val a = vN T val b ∧ sN T a = sN T b := by
  have hl := hT.len
  have h0 : ndAt T 0 = trueNd := ndAt_get (i := 0) hT.t0
  have v0 : vN T val 0 = 1 := by rw [vN_lt val (by omega)]; exact hw.tru
  have s0 : sN T 0 = 0 := by rw [sN_lt (by omega), h0]; rfl
  induction g with
  | refl a => exact ⟨rfl, rfl⟩
  | symm _ ih => exact ⟨ih.1.symm, ih.2.symm⟩
  | trans _ _ h1 h2 => exact ⟨h1.1.trans h2.1, h1.2.trans h2.2⟩
  | @neg x hx ho =>
    obtain ⟨hm, hh⟩ := hS x hx
    obtain ⟨p, n, hp, hn, hs, hlt⟩ := hm.at_
    rw [hp, vN_lt val (by omega), sN_lt (by omega), vN_len, sN_len, ndAt_get hn]
    refine ⟨?_, hs⟩
    have hb := hw.bool p hlt (by rw [ndAt_get hn]; exact hs)
    have h1 : ¬ val p = 1 := fun e => by have := hh.1 (by rw [hp]; exact e); omega
    omega
  | @pos x hx ho =>
    obtain ⟨hm, hh⟩ := hS x hx
    obtain ⟨p, n, hp, hn, hs, hlt⟩ := hm.at_
    rw [v0, s0, hp, vN_lt val (by omega), sN_lt (by omega), ndAt_get hn]
    exact ⟨by have := hh.2 ho; rw [hp] at this; exact this, hs⟩
  | @side x n hx ho hsd hn =>
    obtain ⟨hm, hh⟩ := hS x hx
    obtain ⟨p, n', hp, hn', hs, hlt⟩ := hm.at_
    have h6 := hsd.op hn
    rw [hp, Int.toNat_natCast] at hn
    obtain ⟨a1, a2, a3, a4⟩ := (hT.st p n hn).eqArgs h6
    have h1 := hw.eq p n hn h6
    rw [vN_lt val (by omega), vN_lt val (by omega), sN_lt (by omega), sN_lt (by omega)]
    have := hh.2 ho
    rw [hp] at this
    exact ⟨h1.1.1 this, h1.2⟩
  | @not1 i n hn ho _ ih =>
    have hi := lt_of_get hn
    have ha := (hT.st i n hn).not0 ho
    obtain ⟨h1, h2, h3⟩ := hw.not i n hn ho
    rw [v0, vN_lt val (by omega)] at ih
    rw [vN_len, sN_len, vN_lt val (by omega), sN_lt (by omega)]
    exact ⟨by omega, h3⟩
  | @not2 i n hn ho _ ih =>
    have hi := lt_of_get hn
    have ha := (hT.st i n hn).not0 ho
    obtain ⟨h1, h2, h3⟩ := hw.not i n hn ho
    rw [vN_len, vN_lt val (by omega)] at ih
    rw [v0, s0, vN_lt val (by omega), sN_lt (by omega)]
    exact ⟨by omega, h3⟩
  | @not3 i n hn ho _ ih =>
    have hi := lt_of_get hn
    have ha := (hT.st i n hn).not0 ho
    obtain ⟨h1, h2, h3⟩ := hw.not i n hn ho
    rw [v0, vN_lt val (by omega)] at ih
    rw [vN_len, sN_len, vN_lt val (by omega), sN_lt (by omega), ndAt_get hn]
    exact ⟨by omega, h2⟩
  | @not4 i n hn ho _ ih =>
    have hi := lt_of_get hn
    have ha := (hT.st i n hn).not0 ho
    obtain ⟨h1, h2, h3⟩ := hw.not i n hn ho
    rw [vN_len, vN_lt val (by omega)] at ih
    rw [v0, s0, vN_lt val (by omega), sN_lt (by omega), ndAt_get hn]
    exact ⟨by omega, h2⟩
  | @app i k n m hn hm h1 h2 h3 h4 _ ih =>
    have hi := lt_of_get hn
    have hk := lt_of_get hm
    rw [vN_lt val (by omega), vN_lt val (by omega), sN_lt (by omega), sN_lt (by omega), ndAt_get hn, ndAt_get hm]
    refine ⟨hw.app i k n m hn hm h1 h2 h3 h4 fun j hj => ?_, hw.srt i k n m hn hm h1 h2 h3⟩
    have l3 := (hT.st i n hn).len
    have b1 := ((hT.st i n hn).args j (by omega)).1 hj
    have b2 := ((hT.st k m hm).args j (by omega)).1 (by omega)
    have := (ih j hj).1
    rwa [vN_lt val (by omega), vN_lt val (by omega)] at this
theorem not_bad {T : List Nd} {S : Int → Prop} {val : Int → Int} (hT : TabOk T) (hw : WVal T val) (hS : ∀ x, S x → LitMay T x ∧ Hld val x) : ¬ Bad T S := by
  have hl := hT.len
  rintro (g | ⟨x, n, hx, ho, hsd, hn, g⟩)
  · have h := (g.sound hT hw hS).1
    rw [vN_lt val (by omega), vN_len, hw.tru] at h
    cases h
  · obtain ⟨hm, hh⟩ := hS x hx
    obtain ⟨p, n', hp, hn', hs, hlt⟩ := hm.at_
    have h6 := hsd.op hn
    rw [hp, Int.toNat_natCast] at hn
    obtain ⟨a1, a2, a3, a4⟩ := (hT.st p n hn).eqArgs h6
    have h := (g.sound hT hw hS).1
    rw [vN_lt val (by omega), vN_lt val (by omega)] at h
    have h1 := (hw.eq p n hn h6).1.2 h
    have := hh.1 (by rw [hp]; exact h1)
    omega
theorem held_all {T : List Nd} {L : List Int} {val : Int → Int} (hm : MayLits T L) (hw : WVal T val) (hh : ∀ x ∈ L, Hld val x) : ¬ BadL T L ∧ ∀ cs, Classes T (told T L) cs → ∀ (i k : Nat) (hi : i < cs.length) (hk : k < cs.length), i < T.length → k < T.length → cs[i] = cs[k] → val i = val k := by
  have hS : ∀ x, told T L x → LitMay T x ∧ Hld val x := fun x hx => ⟨hm.2 x hx.1, hh x hx.1⟩
  refine ⟨fun h => not_bad hm.1 hw hS h.2, fun cs hc i k hi hk hiT hkT e => ?_⟩
  have g1 := (hc.2 i hi).2.1
  have g2 := (hc.2 k hk).2.1
  rw [← e] at g2
  have := ((g1.trans g2.symm).sound hm.1 hw hS).1
  rwa [vN_lt val (by omega), vN_lt val (by omega)] at this
end Go.Proofs.YtkapbdjobfbhhaaGreat
namespace Go.Proofs.YtkapbdjobfbhhaaGreat
open Go.RowKit Go.Lib
def SomeW (w : World) (e : Ending) (w' : World) : Prop := ∃ b, e = .returned (.bool b) ∧ Below w.heap.size w w'
set_option maxRecDepth 100000 in
set_option maxHeartbeats 4000000 in
theorem wgreat09_ok {w : World} {wl : WldV} (hw : WldAt w wl) : Calls Tryz.prog 5 #[.agg wl.cells] w (SomeW w) := by
  obtain ⟨w0, hw0⟩ : ∃ w0, w.alloc (.cells wl.cells 30) = w0 := ⟨_, rfl⟩
  have HB0 : Hid (Below w.heap.size w w0) := Lib.hid (by rw [← hw0]; exact (Below.refl _ w).alloc (Nat.le_refl _) _)
  have HV0 : Hid (Blk w0 w.heap.size 30 wl.cells) := Lib.hid (by rw [← hw0]; exact Blk.new w _ _)
  have HWd := Lib.hid (hw.below HB0.out)
  have n1 := hw.n1
  have n0 := hw.n0
  have HVC : Hid (wl.cells = #[.slice wl.A0 wl.sizes.length wl.c0, .slice wl.A1 wl.funs.length wl.c1]) := Lib.hid rfl
  have HYes : Hid (∀ b W, Below w.heap.size w W → SomeW w (.returned (.bool b)) W) := Lib.hid (fun b W h => ⟨b, rfl, h⟩)
  obtain ⟨x0, x1⟩ := wld_blk HV0.out
  rw [HVC.out] at hw0 ⊢
  have HW0 := Lib.hid hw0
  clear hw0 hw
  go_enter Tryz.func5, Tryz.ntmps5
  go_upto_region 1 with fail
  rw [HW0.out]
  clear HW0
  by_cases h1 : wl.sizes.length ≤ 10
  rotate_left
  · have e1 : decide ((wl.sizes.length : Int) > 10) = true := decide_eq_true (by omega)
    have e1' : decide (10 < (wl.sizes.length : Int)) = true := decide_eq_true (by omega)
    have e1'' : decide (10 < wl.sizes.length) = true := decide_eq_true (by omega)
    clear h1
    go_wp2
    go_ret
    exact HYes.out _ _ HB0.out
  have e1 : decide ((wl.sizes.length : Int) > 10) = false := decide_eq_false (by omega)
  have e1' : decide (10 < (wl.sizes.length : Int)) = false := decide_eq_false (by omega)
  have e1'' : decide (10 < wl.sizes.length) = false := decide_eq_false (by omega)
  by_cases h2 : wl.funs.length ≤ 20
  rotate_left
  · have e2 : decide ((wl.funs.length : Int) > 20) = true := decide_eq_true (by omega)
    have e2' : decide (20 < (wl.funs.length : Int)) = true := decide_eq_true (by omega)
    have e2'' : decide (20 < wl.funs.length) = true := decide_eq_true (by omega)
    clear h1 h2
    go_wp2
    go_ret
    exact HYes.out _ _ HB0.out
  have e2 : decide ((wl.funs.length : Int) > 20) = false := decide_eq_false (by omega)
  have e2' : decide (20 < (wl.funs.length : Int)) = false := decide_eq_false (by omega)
  have e2'' : decide (20 < wl.funs.length) = false := decide_eq_false (by omega)
  clear h1
  go_wp2
  clear x0 x1 e1 e1' e1'' e2 e2' e2''
  go_loopg [3] wl.funs.length (fun gg v W => ∃ i : Nat, i + gg = wl.funs.length ∧ v = .int .i64 i ∧ w0 = W)
  case atStart => exact ⟨0, by omega, rfl, rfl⟩
  case round =>
    obtain ⟨i, hig, rfl, rfl⟩ := hrel
    obtain ⟨x0, x1⟩ := wld_blk HV0.out
    cases gk with
    | zero =>
      obtain rfl : i = wl.funs.length := by omega
      have d1 : decide ((wl.funs.length : Int) < wl.funs.length) = false := by simp
      go_wp2
      go_ret
      exact HYes.out _ _ HB0.out
    | succ gk =>
      have hlt : i < wl.funs.length := by omega
      have d1 : decide ((i : Int) < wl.funs.length) = true := by simp; omega
      have t1 : (0 : Int) ≤ (i : Int) := by omega
      have t2 : (i : Int) < (wl.funs.length : Int) := by omega
      obtain ⟨b, off, hA, hbb, hc0, hc1⟩ := HWd.out.f i hlt
      rw [hA] at x1
      generalize wl.funs[i].rows.length = ml at *
      clear hA hbb hc1
      by_cases h3 : 420 < ml
      · have e3 : decide ((ml : Int) > 420) = true := decide_eq_true (by omega)
        have e4 : decide ((420 : Int) < (ml : Int)) = true := decide_eq_true (by omega)
        clear h3
        go_wp2
        go_ret
        exact HYes.out _ _ HB0.out
      · have e3 : decide ((ml : Int) > 420) = false := decide_eq_false (by omega)
        have e4 : decide ((420 : Int) < (ml : Int)) = false := decide_eq_false (by omega)
        clear h3
        go_wp2
        go_roundg gk
        case measure => omega
        case rel => exact ⟨i + 1, by omega, by go_num, rfl⟩
open Classical in
noncomputable def hldB (vals : List Int) (x : Int) : Bool := decide (Hld (vf vals) x)
open Classical in
theorem hldB_iff {vals : List Int} {x : Int} : hldB vals x = true ↔ Hld (vf vals) x := by unfold hldB; exact decide_eq_true_iff
set_option maxRecDepth 100000 in
theorem holds_ok {w : World} {A : Option Addr} {vals : List Int} (c : Nat) (h : Row w A vals) {x : Int} (h0 : 0 ≤ x) (h1 : x / 2 < vals.length) : Calls Tryz.prog 9 #[.slice A vals.length c, .int .i64 x] w fun e w' => e = .returned (.bool (hldB vals x)) ∧ w = w' := by
  have hlen := h.len
  have ha := i64_and_one x h0 (by omega)
  obtain ⟨p, hp⟩ : ∃ p : Nat, x / 2 = p := ⟨(x / 2).toNat, by omega⟩
  obtain ⟨b, off, hA, _, hc⟩ := h.at_.resolve_left (by omega)
  have hpl : p < vals.length := by omega
  have y0 := hc p hpl
  have hv : vf vals (x / 2) = vals[p] := by unfold vf; rw [hp, Int.toNat_natCast, List.getD_eq_getElem?_getD, List.getElem?_eq_getElem hpl]; rfl
  have hE : hldB vals x = ((vals[p] == 1) == (x % 2 == 0)) := by
    have h5 : ((vals[p] == 1) == (x % 2 == 0)) = true ↔ (vals[p] = 1 ↔ x % 2 = 0) := by
      rw [beq_iff_eq, Bool.eq_iff_iff, beq_iff_eq, beq_iff_eq]
    rw [Bool.eq_iff_iff, hldB_iff, h5]
    unfold Hld
    rw [hv]
  rw [hE]
  subst hA
  generalize vals[p] = z at *
  have t1 : (0 : Int) ≤ (p : Int) := by omega
  have t2 : (p : Int) < (vals.length : Int) := by omega
  clear hE hv hc hpl h hlen h1
  go_enter Tryz.func9, Tryz.ntmps9
  go_wp2
  go_ret
  exact ⟨rfl, rfl⟩
theorem argSorts_0 {T : List Nd} {n : Nd} (h : 0 < n.len) : (argSorts T n)[0]?.getD 0 = (ndAt T n.a0).sort := by
  unfold argSorts
  rw [List.getElem?_map, List.getElem?_range (by omega)]
  rfl
theorem argSorts_1 {T : List Nd} {n : Nd} (h : 1 < n.len) : (argSorts T n)[1]?.getD 0 = (ndAt T n.a1).sort := by
  unfold argSorts
  rw [List.getElem?_map, List.getElem?_range (by omega)]
  rfl
theorem bitI_one {p : Prop} [Decidable p] : bitI p = 1 ↔ p := by
  unfold bitI
  by_cases h : p
  · rw [if_pos h]; exact ⟨fun _ => h, fun _ => rfl⟩
  · rw [if_neg h]; exact ⟨fun e => by (cases e), fun e => absurd e h⟩
theorem wval_of {AF : Int → List Int → Int} {g : SigV} {T : List Nd} {vals : List Int} {overs : List Bool} (hF : VFX AF T T.length vals overs) (hT : TabOk T) (hr : ∀ n ∈ T, RuleOk g T n) (ho : ∀ b ∈ overs, b = false) : WVal T (vf vals) := by
  have hok : ∀ k : Nat, k < T.length → overs.getD k true = false := fun k hk => by
    rw [List.getD_eq_getElem?_getD, List.getElem?_eq_getElem (by rw [hF.l2]; exact hk)]
    exact ho _ (List.getElem_mem _)
  have hs : ∀ k : Nat, k < T.length → NodeSem T (vf vals) (k : Int) := fun k hk => hF.sem k hk (hok k hk)
  have hl := hT.len
  have h0 : ndAt T (0 : Nat) = trueNd := ndAt_get hT.t0
  refine ⟨fun i hi h => (hs i hi).bool h, (hs 0 (by omega)).tru (by rw [h0]; rfl), fun i n hn h1 => ?_, fun i n hn h6 => ?_, fun i k n m hn hm h1 h2 h3 h4 h5 => ?_, fun i k n m hn hm h1 h2 h3 => ?_⟩
  · have hi := lt_of_get hn
    have h := (hs i hi).not (by rw [ndAt_get hn]; exact h1)
    rw [ndAt_get hn] at h
    have hop := (hr n (List.mem_of_getElem? hn)).2 (by omega)
    rw [h1] at hop
    obtain ⟨hsl, hso⟩ := opL_len hop
    have hlen := many_len (hT.st i n hn) (by omega)
    rw [h1] at hlen
    have m1 : manyM 1 = 1 := rfl
    obtain ⟨ha, hb⟩ := opS_1 hso
    rw [argSorts_0 (by omega)] at ha
    exact ⟨h, hb, ha⟩
  · have hi := lt_of_get hn
    have h := (hs i hi).eq (by rw [ndAt_get hn]; exact h6)
    rw [ndAt_get hn] at h
    have hop := (hr n (List.mem_of_getElem? hn)).2 (by omega)
    rw [h6] at hop
    obtain ⟨hsl, hso⟩ := opL_len hop
    have hlen := many_len (hT.st i n hn) (by omega)
    rw [h6] at hlen
    have m6 : manyM 6 = 2 := rfl
    obtain ⟨ha, hb⟩ := opS_6 hso
    rw [argSorts_0 (by omega), argSorts_1 (by omega)] at ha
    exact ⟨by rw [h]; exact bitI_one, ha⟩
  · have hi := lt_of_get hn
    have hk := lt_of_get hm
    have e1 := hF.app i hi (hok i hi) (by rw [ndAt_get hn]; exact h1)
    have e2 := hF.app k hk (hok k hk) (by rw [ndAt_get hm]; exact h2)
    rw [ndAt_get hn] at e1
    rw [ndAt_get hm] at e2
    rw [e1, e2, h3]
    congr 1
    unfold argVals
    rw [← h4]
    refine List.map_congr_left fun j hj => h5 j ?_
    have := List.mem_range.1 hj
    omega
  · obtain ⟨a, ha, ea, sa⟩ := (hr n (List.mem_of_getElem? hn)).1 h1
    obtain ⟨b, hb, eb, sb⟩ := (hr m (List.mem_of_getElem? hm)).1 h2
    obtain rfl : a = b := by omega
    rw [sa, sb]
end Go.Proofs.YtkapbdjobfbhhaaGreat
namespace Go.Proofs.YtkapbdjobfbhhaaGreat
theorem lem_holds {T : List Nd} {L : List Int} {val : Int → Int} (hm : MayLits T L) (hT : T.length ≤ 100) (hw : WVal T val) (hl : LemL T L) : ∃ x ∈ L, Hld val x := by
  refine Classical.byContradiction fun hn => ?_
  refine (held_all hl.2.1 hw fun y hy => ?_).1 hl.2
  obtain ⟨x, hx, rfl⟩ := List.mem_map.1 hy
  have h1 : ¬ Hld val x := fun h => hn ⟨x, hx, h⟩
  obtain ⟨p, n, hp, _, _, hlt⟩ := (hm.2 x hx).at_
  have h0 := hl.1 x hx
  unfold Hld at h1 ⊢
  rw [negG_pos h0 (by omega)]
  by_cases e : x % 2 = 0
  · rw [if_pos e, show (x + 1) / 2 = x / 2 by omega]
    exact ⟨fun h => absurd ⟨fun _ => e, fun _ => h⟩ h1, fun h => by omega⟩
  · rw [if_neg e, show (x - 1) / 2 = x / 2 by omega]
    refine ⟨fun h => by omega, fun _ => Classical.byContradiction fun h => h1 ⟨fun h' => absurd h' h, fun h' => absurd h' e⟩⟩
end Go.Proofs.YtkapbdjobfbhhaaGreat

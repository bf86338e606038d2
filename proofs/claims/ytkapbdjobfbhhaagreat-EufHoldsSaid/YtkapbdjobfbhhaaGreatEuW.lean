/- round: all nodes once. -/
import Derived.Test.YtkapbdjobfbhhaaGreatEuU
namespace Go.Proofs.YtkapbdjobfbhhaaGreat
open Go.RowKit
open Go.Maps (Keyed)
def sgCells (fn len : Int) (r : Nat → Int) : Array Value := #[.int .i64 fn, .int .i64 len, .int .i64 (r 0), .int .i64 (r 1), .int .i64 (r 2)]
def signVal (fn len : Int) (r : Nat → Int) : Value := .agg (sgCells fn len r)
theorem sign_at : Tryz.prog.keyTypeAt 4 129 = true := by kernel_rfl
theorem sign_wide : (match Tryz.prog.underlying 129 with | some (.array _ _) | some (.struct _) => true | _ => false) = true := by kernel_rfl
set_option maxRecDepth 100000 in
theorem sign_key : Keyed Tryz.prog 129 := Keyed.of_law (deep_law_laid laidOut (m := 4) (by omega) (of_decide_eq_true (by kernel_rfl)) sign_at sign_wide)
theorem sign_keyT : Tryz.prog.keyType 129 = true := by kernel_rfl
theorem sign_cells : Tryz.prog.cellsOf 129 = 5 := by kernel_rfl
def In64 (x : Int) : Prop := -9223372036854775808 ≤ x ∧ x ≤ 9223372036854775807
set_option maxRecDepth 100000 in
theorem sign_lits (m : Nat) {fn len : Int} {r : Nat → Int} (h1 : In64 fn) (h2 : In64 len) (h3 : ∀ j, In64 (r j)) : ∃ L, Tryz.prog.keyLits (m + 3 + 1) 129 (sgCells fn len r).toList = some L := by
  have w0 := int_wf h1.1 h1.2
  have w1 := int_wf h2.1 h2.2
  have w2 := int_wf (h3 0).1 (h3 0).2
  have w3 := int_wf (h3 1).1 (h3 1).2
  have w4 := int_wf (h3 2).1 (h3 2).2
  have hr : List.range 5 = [0, 1, 2, 3, 4] := rfl
  unfold Program.keyLits
  rw [Tryz.underlying129]
  simp [sgCells, sign_cells, cells_int, Program.keyLits, Tryz.underlying3, w0, w1, w2, w3, w4, hr]
theorem sign_keyOf {fn len : Int} {r : Nat → Int} (h1 : In64 fn) (h2 : In64 len) (h3 : ∀ j, In64 (r j)) : ∃ kl, keyOf Tryz.prog 129 (signVal fn len r) = some kl := by
  obtain ⟨m, hm⟩ := types_size3
  obtain ⟨L, hL⟩ := sign_lits m h1 h2 h3
  unfold keyOf
  rw [Tryz.underlying129]
  simp only
  rw [hm, if_pos (by rw [sign_keyT]; simp [Value.formed, signVal, sgCells, Tryz.underlying129, sign_cells])]
  refine ⟨.string (keyBytes L), ?_⟩
  have : (signVal fn len r).cells.toList = (sgCells fn len r).toList := rfl
  rw [this, hL]
  rfl
theorem signVal_inj {fn len fn' len' : Int} {r r' : Nat → Int} (h : signVal fn len r = signVal fn' len' r') : fn = fn' ∧ len = len' ∧ ∀ j, j < 3 → r j = r' j := by
  simp [signVal, sgCells] at h
  obtain ⟨h1, h2, h3, h4, h5⟩ := h
  exact ⟨h1, h2, fun j hj => match j, hj with | 0, _ => h3 | 1, _ => h4 | 2, _ => h5⟩
def updR (r : Nat → Int) (k : Nat) (v : Int) (j : Nat) : Int := if j = k then v else r j
theorem sg_set (fn len : Int) (r : Nat → Int) (k : Nat) (hk : k < 3) (v : Int) : (sgCells fn len r).setIfInBounds (2 + k) (.int .i64 v) = sgCells fn len (updR r k v) := by
  match k, hk with
  | 0, _ => simp [sgCells, updR]
  | 1, _ => simp [sgCells, updR]
  | 2, _ => simp [sgCells, updR]
def RepsOf (T : List Nd) (J : List Jn) (n : Nd) (k : Nat) (r : Nat → Int) : Prop := (∀ j : Nat, j < k → RepR (T.length + 1) J (n.arg j) (r j)) ∧ ∀ j : Nat, k ≤ j → r j = 0
theorem RepsOf.in64 {T : List Nd} {J : List Jn} {n : Nd} {k : Nat} {r : Nat → Int} (h : RepsOf T J n k r) (hT : T.length ≤ 4000) (j : Nat) : In64 (r j) := by
  unfold In64
  rcases Nat.lt_or_ge j k with hj | hj
  · have := (h.1 j hj).1
    omega
  · rw [h.2 j hj]
    decide
theorem RepsOf.one {T : List Nd} {J : List Jn} {n m : Nd} {k : Nat} {r r' : Nat → Int} (h : RepsOf T J n k r) (g : RepsOf T J m k r') (e : ∀ j : Nat, j < k → cls J (n.arg j) = cls J (m.arg j)) : r = r' := by
  funext j
  rcases Nat.lt_or_ge j k with hj | hj
  · exact (h.1 j hj).one (g.1 j hj) (e j hj)
  · rw [h.2 j hj, g.2 j hj]
theorem RepsOf.push {T : List Nd} {J : List Jn} {n : Nd} {k : Nat} {r : Nat → Int} (h : RepsOf T J n k r) {v : Int} (hv : RepR (T.length + 1) J (n.arg k) v) : RepsOf T J n (k + 1) (updR r k v) := by
  refine ⟨fun j hj => ?_, fun j hj => ?_⟩
  · unfold updR
    by_cases e : j = k
    · subst e
      rw [if_pos rfl]
      exact hv
    · rw [if_neg e]
      exact h.1 j (by omega)
  · unfold updR
    rw [if_neg (by omega)]
    exact h.2 j (by omega)
def OfS (T : List Nd) (S : Int → Prop) (f : Value → Option Value) : Prop := ∀ key v, f key = some v → ∃ (p : Nat) (n : Nd) (r : Nat → Int), v = .int .i64 p ∧ T[p]? = some n ∧ n.op = 13 ∧ key = signVal n.fn n.len r ∧ ∀ j : Nat, (j : Int) < n.len → Cg T S (n.arg j) (r j)
structure RndC (T : List Nd) (J : List Jn) (f : Value → Option Value) (i : Nat) : Prop where
  apps : ∀ (p : Nat) (n : Nd), p < i → T[p]? = some n → n.op = 13 → ∃ (r : Nat → Int) (p' : Int), RepsOf T J n n.len.toNat r ∧ f (signVal n.fn n.len r) = some (.int .i64 p') ∧ cls J p = cls J p'
  nots : ∀ (p : Nat) (n : Nd), p < i → T[p]? = some n → n.op = 1 → NotOk (cls J) T.length p n.a0
theorem RndC.clo {T : List Nd} {J : List Jn} {f : Value → Option Value} (h : RndC T J f T.length) : Clo T (cls J) := by
  refine ⟨fun i n hn ho => h.nots i n (List.getElem?_eq_some_iff.1 hn).1 hn ho, fun i k n m hn hm ho ho' hf hl hj => ?_⟩
  obtain ⟨r, p, h1, h2, h3⟩ := h.apps i n (List.getElem?_eq_some_iff.1 hn).1 hn ho
  obtain ⟨r', p', g1, g2, g3⟩ := h.apps k m (List.getElem?_eq_some_iff.1 hm).1 hm ho'
  have e : r = r' := by
    rw [← hl] at g1
    exact h1.one g1 fun j hj2 => hj j (by omega)
  subst e
  rw [hf, hl, g2] at h2
  injection h2 with h2
  injection h2 with _ h2
  rw [h3, g3, h2]
theorem RndC.zero (T : List Nd) (J : List Jn) (f : Value → Option Value) : RndC T J f 0 := ⟨fun _ _ h => absurd h (Nat.not_lt_zero _), fun _ _ h => absurd h (Nat.not_lt_zero _)⟩
theorem RndC.skip {T : List Nd} {J : List Jn} {f : Value → Option Value} {i : Nat} {n : Nd} (h : RndC T J f i) (hn : T[i]? = some n) (h1 : n.op ≠ 1) (h2 : n.op ≠ 13) : RndC T J f (i + 1) := by
  refine ⟨fun p m hp hm ho => ?_, fun p m hp hm ho => ?_⟩
  · rcases Nat.lt_succ_iff_lt_or_eq.1 hp with hp | rfl
    · exact h.apps p m hp hm ho
    · rw [hn] at hm; injection hm with hm; subst hm; exact absurd ho h2
  · rcases Nat.lt_succ_iff_lt_or_eq.1 hp with hp | rfl
    · exact h.nots p m hp hm ho
    · rw [hn] at hm; injection hm with hm; subst hm; exact absurd ho h1
theorem RndC.not_ {T : List Nd} {J : List Jn} {f : Value → Option Value} {i : Nat} {n : Nd} (h : RndC T J f i) (hn : T[i]? = some n) (h1 : n.op = 1) (h2 : NotOk (cls J) T.length i n.a0) : RndC T J f (i + 1) := by
  refine ⟨fun p m hp hm ho => ?_, fun p m hp hm ho => ?_⟩
  · rcases Nat.lt_succ_iff_lt_or_eq.1 hp with hp | rfl
    · exact h.apps p m hp hm ho
    · rw [hn] at hm; injection hm with hm; subst hm; rw [h1] at ho; cases ho
  · rcases Nat.lt_succ_iff_lt_or_eq.1 hp with hp | rfl
    · exact h.nots p m hp hm ho
    · rw [hn] at hm; injection hm with hm; subst hm; exact h2
theorem RndC.app {T : List Nd} {J : List Jn} {f g : Value → Option Value} {i : Nat} {n : Nd} {r : Nat → Int} {p' : Int} (h : RndC T J f i) (hn : T[i]? = some n) (h1 : n.op = 13) (hr : RepsOf T J n n.len.toNat r) (hg : g (signVal n.fn n.len r) = some (.int .i64 p')) (hc : cls J i = cls J p')
    (hfg : ∀ key v, f key = some v → g key = some v) : RndC T J g (i + 1) := by
  refine ⟨fun p m hp hm ho => ?_, fun p m hp hm ho => ?_⟩
  · rcases Nat.lt_succ_iff_lt_or_eq.1 hp with hp | rfl
    · obtain ⟨r, p', g1, g2, g3⟩ := h.apps p m hp hm ho
      exact ⟨r, p', g1, hfg _ _ g2, g3⟩
    · rw [hn] at hm; injection hm with hm; subst hm; exact ⟨r, p', hr, hg, hc⟩
  · rcases Nat.lt_succ_iff_lt_or_eq.1 hp with hp | rfl
    · exact h.nots p m hp hm ho
    · rw [hn] at hm; injection hm with hm; subst hm; rw [h1] at ho; cases ho
end Go.Proofs.YtkapbdjobfbhhaaGreat
namespace Go.Proofs.YtkapbdjobfbhhaaGreat
open Go.RowKit Go.Lib
section
variable {w w' : World} {H : Nat} {X : Nat → Prop} {cb q bf : Nat} {A : Option Addr} {c : Nat} {T : List Nd} {J : List Jn} {m : Nat}
def RoundR (T : List Nd) (J' : List Jn) (more' : Bool) : Prop := more' = false → Clo T (cls J')
theorem slice_arr0 (g : Nat) (W : World) : (Instr.sliceAt 46 (.pointer (some ⟨g, 2, none⟩)) none (some (.int .i8 0)) none).run Tryz.prog W = .ok (.slice (some ⟨g, 2, none⟩) 0 3) W := by kernel_rfl
theorem slice_arr1 (g : Nat) (W : World) : (Instr.sliceAt 46 (.pointer (some ⟨g, 2, none⟩)) none (some (.int .i8 1)) none).run Tryz.prog W = .ok (.slice (some ⟨g, 2, none⟩) 1 3) W := by kernel_rfl
theorem slice_arr2 (g : Nat) (W : World) : (Instr.sliceAt 46 (.pointer (some ⟨g, 2, none⟩)) none (some (.int .i8 2)) none).run Tryz.prog W = .ok (.slice (some ⟨g, 2, none⟩) 2 3) W := by kernel_rfl
theorem slice_arr3 (g : Nat) (W : World) : (Instr.sliceAt 46 (.pointer (some ⟨g, 2, none⟩)) none (some (.int .i8 3)) none).run Tryz.prog W = .ok (.slice (some ⟨g, 2, none⟩) 3 3) W := by kernel_rfl
theorem slice_arr (g ln : Nat) (h : ln ≤ 3) (W : World) : (Instr.sliceAt 46 (.pointer (some ⟨g, 2, none⟩)) none (some (.int .i8 (ln : Int))) none).run Tryz.prog W = .ok (.slice (some ⟨g, 2, none⟩) ln 3) W := by
  have hc : ln = 0 ∨ ln = 1 ∨ ln = 2 ∨ ln = 3 := by omega
  rcases hc with rfl | rfl | rfl | rfl
  · exact slice_arr0 g W
  · exact slice_arr1 g W
  · exact slice_arr2 g W
  · exact slice_arr3 g W
theorem sg_get (fn len : Int) (r : Nat → Int) (k : Nat) (hk : k < 3) : (sgCells fn len r)[2 + k]? = some (.int .i64 (r k)) := by
  have hc : k = 0 ∨ k = 1 ∨ k = 2 := by omega
  rcases hc with rfl | rfl | rfl <;> rfl
theorem zero_intL (w : World) : (zeroValue 3).run Tryz.prog w = .ok (.int .i64 0) w := by kernel_rfl
set_option maxRecDepth 100000 in
set_option maxHeartbeats 8000000 in
theorem round_ok {S : Int → Prop} (h : Cl w H X cb q bf A c T J m false) (hT : TabOk T) (hT60 : T.length ≤ 100) (hm : m ≤ 800000) (hS : Snd T S J) :
    Calls Tryz.prog 50 #[.pointer (some ⟨cb, 0, none⟩)] w fun e w' => e = .returned (.tuple #[]) ∧ ∃ J' m' more', Cl w' H X cb q bf A c T J' m' more' ∧ m' ≤ m + 40 * T.length ∧ Ext T S J J' false more' ∧ RoundR T J' more' ∧ Kc H X w w' := by
  have hlen := h.hT
  have hmm := @run_makeMap Tryz.prog
  obtain ⟨c0, _, _, _, hl⟩ := h.cells
  have cq := h.tab.blk.cell 0
  have hq := h.tab.blk.lt
  simp only [List.getElem?_toArray, List.getElem?_cons_zero] at cq
  have hbM : Below w.heap.size w (w.alloc (.map #[] 0)) := (Below.refl _ w).alloc (Nat.le_refl _) _
  have HC0 := Lib.hid (h.guard (Y := fun b => X b ∨ b = w.heap.size) (fun b hb => hb.imp id fun e => by omega) (fun b hb => by rcases hb with hb | rfl; have := h.hX b hb; simp; omega; simp) hbM)
  have HM0 := Lib.hid (MapAt.made Tryz.prog 129 w)
  have HK0 : Hid (Kc H X w (w.alloc (.map #[] 0))) := Lib.hid (Kc.of_below hbM)
  have HHM : Hid (H ≤ w.heap.size) := Lib.hid h.hH
  have HT := Lib.hid hT
  have HS := Lib.hid hS
  have HH := Lib.hid h
  clear h hT hS hbM
  go_enter Tryz.func50, Tryz.ntmps50
  go_wp2
  go_loopg [19] T.length (fun g v wr => ∃ (i : Nat) (f : Value → Option Value) (J' : List Jn) (m' : Nat) (more' : Bool), i + g = T.length ∧ v = .int .i64 i ∧ Cl wr H (fun b => X b ∨ b = w.heap.size) cb q bf A c T J' m' more' ∧ m' ≤ m + 40 * i ∧ Ext T S J J' false more' ∧ MapAt Tryz.prog 129 wr w.heap.size i f ∧ OfS T S f ∧ (more' = false → RndC T J' f i) ∧ Kc H X w wr)
  case atStart => exact ⟨0, _, J, m, false, by omega, rfl, HC0.out, by omega, Ext.refl _ _ _ _, HM0.out, (fun key v e => (by cases e)), fun _ => RndC.zero _ _ _, HK0.out⟩
  case round =>
    obtain ⟨wo, rfl⟩ : ∃ wo : World, wo = wr := ⟨_, rfl⟩
    obtain ⟨i, f, J1, m1, mo1, hig, rfl, hcl, hm1, hext, hmap, hofs, hrnd, hkc⟩ := hrel
    have HC := Lib.hid hcl
    have HE := Lib.hid hext
    have HM := Lib.hid hmap
    have HO := Lib.hid hofs
    have HR := Lib.hid hrnd
    have HK := Lib.hid hkc
    clear hcl hext hmap hofs hrnd hkc
    cases gk with
    | zero =>
      obtain rfl : i = T.length := by omega
      have d1 : decide ((T.length : Int) < T.length) = false := by simp
      go_wp2
      refine bodyPost_end (results_none rfl _ _ _) rfl ?_
      exact ⟨rfl, J1, m1, mo1, HC.out.less fun _ h => .inl h, hm1, HE.out, fun e => (HR.out e).clo, HK.out⟩
    | succ gk =>
      have hlt : i < T.length := by omega
      have d1 : decide ((i : Int) < T.length) = true := by simp; omega
      have t1 : (0 : Int) ≤ (i : Int) := by omega
      have t2 : (i : Int) < (T.length : Int) := by omega
      obtain ⟨b, off, hA, hbb, hcell⟩ := HC.out.tab.tab.at_.resolve_left (by omega)
      subst hA
      have hn := hcell i hlt
      obtain ⟨y0, y1, y2, y3, y4, y5, y6, y7⟩ := hn.all
      have HG := Lib.hid (List.getElem?_eq_getElem hlt)
      have HWf := Lib.hid hn.wf
      have HST := Lib.hid (HT.out.st i _ (List.getElem?_eq_getElem hlt))
      clear hcell hn
      generalize T[i] = n at *
      obtain ⟨ln, hln⟩ : ∃ ln : Nat, n.len = ln := ⟨n.len.toNat, by have := HST.out.len; omega⟩
      have hln3 : ln ≤ 3 := by have := HST.out.len; omega
      have HLN := Lib.hid hln
      rw [hln] at y1
      clear hln
      obtain ⟨ov, hov⟩ : ∃ ov, n.op = ov := ⟨_, rfl⟩
      have HOV := Lib.hid hov
      rw [hov] at y0
      have hbN : Below wo.heap.size wo (wo.alloc (.cells #[.int .i8 ov, .int .i8 (ln : Int), .int .i64 n.a0, .int .i64 n.a1, .int .i64 n.a2, .int .i64 n.sort, .int .i64 n.fn, .int .i64 n.num] 48)) := (Below.refl _ wo).alloc (Nat.le_refl _) _
      have HC2 := Lib.hid (HC.out.guard (Y := fun b => (X b ∨ b = w.heap.size) ∨ b = wo.heap.size) (fun b hb => hb.imp id fun e => by omega) (fun b hb => by rcases hb with hb | rfl; have := HC.out.hX b hb; simp; omega; simp) hbN)
      have HK2 : Hid (Kc H X w _) := Lib.hid (HK.out.trans (Kc.of_below hbN))
      have HN2 := Lib.hid (Blk.new wo 48 #[.int .i8 ov, .int .i8 (ln : Int), .int .i64 n.a0, .int .i64 n.a1, .int .i64 n.a2, .int .i64 n.sort, .int .i64 n.fn, .int .i64 n.num])
      have HM2 := Lib.hid (HM.out.below hbN HM.out.lt)
      clear hov hbN
      by_cases o1 : ov = 1
      · subst o1
        have hst := HST.out.not0 HOV.out
        have KT := Lib.hid (turn_ok (S := S) HC2.out (by omega) i n.a0 (by omega) (by omega) (fun g => .not1 HG.out HOV.out g) (fun g => .not2 HG.out HOV.out g))
        have HA0 := Lib.hid hst
        clear hst
        go_wp2_with fail
        refine KT.out.mono ?_
        rintro e w3 ⟨rfl, J3, m3, mo3, h3, hm3, e3, r3, k3⟩
        have H3 := Lib.hid h3
        have E3 := Lib.hid e3
        have R3 := Lib.hid r3
        have HN3 := Lib.hid (HN2.out.kept k3 fun hn => hn (.inr (.inr rfl)))
        have HM3 := Lib.hid (HM2.out.kept k3 fun hn => hn (.inr (.inl (.inr rfl))))
        have HK3 := Lib.hid (HK2.out.trans (k3.less fun _ h => Or.inl (Or.inl h)))
        have z2 := HN3.out.cell 2
        have hlN := HN3.out.lt
        simp only [List.getElem?_toArray, List.getElem?_cons_zero, List.getElem?_cons_succ] at z2
        clear h3 e3 r3 k3
        have KT4 := Lib.hid (turn_ok (S := S) H3.out (by omega) n.a0 i (by have := HA0.out; omega) (by omega) (fun g => .not3 HG.out HOV.out g) (fun g => .not4 HG.out HOV.out g))
        go_wp2_with fail
        refine KT4.out.mono ?_
        rintro e w4 ⟨rfl, J4, m4, mo4, h4, hm4, e4, r4, k4⟩
        have H4 := Lib.hid h4
        have E4 := Lib.hid e4
        have R4 := Lib.hid r4
        have HM4 := Lib.hid (HM3.out.kept k4 fun hn => hn (.inr (.inl (.inr rfl))))
        have HK4 := Lib.hid (HK3.out.trans (k4.less fun _ h => Or.inl (Or.inl h)))
        clear h4 e4 r4 k4
        go_wp2
        go_roundg gk
        case measure => omega
        case rel =>
          refine ⟨i + 1, f, J4, m4, mo4, by omega, by go_num, H4.out.less fun _ h => .inl h, by omega, HE.out.trans (E3.out.trans E4.out), HM4.out.mono (by omega), HO.out, fun e => ?_, HK4.out⟩
          obtain ⟨rfl, e3⟩ := E4.out.same e
          obtain ⟨rfl, e1⟩ := E3.out.same e3
          exact (HR.out e1).not_ HG.out HOV.out ⟨(R3.out e3).1, (R3.out e3).2, (R4.out e).1, (R4.out e).2⟩
      have b1 : (ov == 1) = false := by simp [o1]
      by_cases o13 : ov = 13
      · subst o13
        have hsA : (wo.alloc (.cells #[.int .i8 13, .int .i8 (ln : Int), .int .i64 n.a0, .int .i64 n.a1, .int .i64 n.a2, .int .i64 n.sort, .int .i64 n.fn, .int .i64 n.num] 48)).heap.size = wo.heap.size + 1 := by simp
        have HSA := Lib.hid hsA
        clear hsA
        have hsl := slice_arr wo.heap.size ln hln3
        have hbS : Below (wo.alloc (.cells #[.int .i8 13, .int .i8 (ln : Int), .int .i64 n.a0, .int .i64 n.a1, .int .i64 n.a2, .int .i64 n.sort, .int .i64 n.fn, .int .i64 n.num] 48)).heap.size (wo.alloc (.cells #[.int .i8 13, .int .i8 (ln : Int), .int .i64 n.a0, .int .i64 n.a1, .int .i64 n.a2, .int .i64 n.sort, .int .i64 n.fn, .int .i64 n.num] 48)) ((wo.alloc (.cells #[.int .i8 13, .int .i8 (ln : Int), .int .i64 n.a0, .int .i64 n.a1, .int .i64 n.a2, .int .i64 n.sort, .int .i64 n.fn, .int .i64 n.num] 48)).alloc (.cells (sgCells n.fn ln fun _ => 0) 129)) := (Below.refl _ _).alloc (Nat.le_refl _) _
        have HC3 := Lib.hid (HC2.out.guard (Y := fun b => ((X b ∨ b = w.heap.size) ∨ b = wo.heap.size) ∨ b = wo.heap.size + 1) (fun b hb => hb.imp id fun e => by rw [HSA.out]; omega) (fun b hb => by rcases hb with hb | rfl; have := HC2.out.hX b hb; rw [World.size_alloc]; omega; rw [World.size_alloc, HSA.out]; omega) hbS)
        have HN3 := Lib.hid (HN2.out.below hbS HN2.out.lt)
        have HM3 := Lib.hid (HM2.out.below hbS HM2.out.lt)
        have HK3 : Hid (Kc H X w _) := Lib.hid (HK2.out.trans (Kc.of_below hbS))
        have HS3 := Lib.hid (Blk.new_at HSA.out 129 (sgCells n.fn ln fun _ => 0))
        clear hbS
        obtain ⟨go, rfl⟩ : ∃ go : Nat, go = gk := ⟨_, rfl⟩
        go_wp2
        go_loopg [53] ln (fun g v wx => ∃ (k : Nat) (r : Nat → Int), k + g = ln ∧ v = .int .i64 k ∧ RepsOf T J1 n k r ∧ Cl wx H (fun b => ((X b ∨ b = w.heap.size) ∨ b = wo.heap.size) ∨ b = wo.heap.size + 1) cb q bf (some ⟨b, off, none⟩) c T J1 m1 mo1 ∧ Blk wx (wo.heap.size + 1) 129 (sgCells n.fn ln r) ∧ Blk wx wo.heap.size 48 #[.int .i8 13, .int .i8 (ln : Int), .int .i64 n.a0, .int .i64 n.a1, .int .i64 n.a2, .int .i64 n.sort, .int .i64 n.fn, .int .i64 n.num] ∧ MapAt Tryz.prog 129 wx w.heap.size i f ∧ Kc H X w wx)
        case atStart => exact ⟨0, fun _ => 0, by omega, rfl, ⟨fun j hj => absurd hj (Nat.not_lt_zero _), fun _ _ => rfl⟩, HC3.out, HS3.out, HN3.out, HM3.out, HK3.out⟩
        case round =>
          obtain ⟨k, r, hkg, rfl, hrep, hcl, hsg, hnb, hmp, hkc⟩ := hrel
          have HP4 := Lib.hid hrep
          have HC4 := Lib.hid hcl
          have HS4 := Lib.hid hsg
          have HN4 := Lib.hid hnb
          have HM4 := Lib.hid hmp
          have HK4 := Lib.hid hkc
          have hls := hsg.lt
          have hln4 := hnb.lt
          clear hrep hcl hsg hnb hmp hkc
          cases gk with
          | zero =>
            obtain rfl : k = ln := by omega
            have d3 : decide (k < k) = false := by simp
            have d4 : decide ((k : Int) < (k : Int)) = false := by simp
            have z0 := HS4.out.cell 0
            have z1 := HS4.out.cell 1
            have z2 := HS4.out.cell 2
            have z3 := HS4.out.cell 3
            have z4 := HS4.out.cell 4
            simp only [sgCells, List.getElem?_toArray, List.getElem?_cons_zero, List.getElem?_cons_succ] at z0 z1 z2 z3 z4
            have hrl : RepsOf T J1 n n.len.toNat r := by rw [HLN.out, Int.toNat_natCast]; exact HP4.out
            have HRL := Lib.hid hrl
            obtain ⟨kl, hkl⟩ := sign_keyOf (fn := n.fn) (len := (k : Int)) (r := r) HWf.out.fn ⟨by omega, by omega⟩ (HRL.out.in64 hlen)
            have hlk := HM4.out.look sign_key Tryz.underlying127 (zero_intL wr) hkl true
            clear hrl
            cases hf : f (signVal n.fn (k : Int) r) with
            | some v =>
              obtain ⟨p, n', r', rfl, hp, hop, hke, hcg⟩ := HO.out _ _ hf
              rw [hf] at hlk
              simp only [signVal, sgCells, if_true] at hlk
              have HF := Lib.hid hf
              have hpl := (List.getElem?_eq_some_iff.1 hp).1
              have HCG : Hid (Snd T S J1 → Cg T S i p) := Lib.hid fun hs => by
                obtain ⟨e1, e2, e3⟩ := signVal_inj hke
                refine .app HG.out hp HOV.out hop e1 (by rw [HLN.out]; exact e2) fun j hj => ?_
                have hj3 : j < k := by rw [HLN.out] at hj; omega
                have h1 := hs.cls (HP4.out.1 j hj3).2.1
                have h2 := hcg j (by rw [← e2]; omega)
                rw [← e3 j (by omega)] at h2
                exact h1.symm.trans h2.symm
              clear hf hkl hp hop hke hcg
              go_wp2_with fail
              refine (cjoin_ok HC4.out (by omega) i p).mono ?_
              rintro e w5 ⟨rfl, h5, k5⟩
              have H5 := Lib.hid h5
              have HM5 := Lib.hid (HM4.out.kept k5 fun hn => hn (.inr (.inl (.inl (.inr rfl)))))
              have HK5 := Lib.hid (HK4.out.trans (k5.less fun _ h => Or.inl (Or.inl (Or.inl h))))
              have E5 := Lib.hid (Ext.join (T := T) (S := S) (J := J1) (more := mo1) (a := i) (b := p) HCG.out)
              clear h5 k5
              go_wp2
              go_roundg go
              case measure => omega
              case rel =>
                refine ⟨i + 1, f, _, _, _, by omega, by go_num, H5.out.less fun _ h => .inl (.inl h), by omega, HE.out.trans E5.out, HM5.out.mono (by omega), HO.out, fun e => ?_, HK5.out⟩
                have hc := ext_join_cls (T := T) (J := J1) (more := mo1) (a := i) (b := p) ⟨by omega, by omega⟩ ⟨by omega, by omega⟩ e
                obtain ⟨e1, e2⟩ := E5.out.same e
                rw [e1]
                exact (HR.out e2).app HG.out HOV.out HRL.out (by rw [HLN.out]; exact HF.out) hc fun _ _ h => h
            | none =>
              rw [hf] at hlk
              simp only [signVal, sgCells, if_true] at hlk
              have HF := Lib.hid hf
              obtain ⟨w5, hrun, hm5, hg5⟩ := HM4.out.store sign_key Tryz.underlying127 (by unfold maxLen; omega) hkl (.int .i64 i) (g := putFn f (signVal n.fn (k : Int) r) (.int .i64 i)) (putFn_at _ _ _) (fun y hy => putFn_far _ _ _ y hy)
              simp only [signVal, sgCells] at hrun
              have HM5 := Lib.hid hm5
              have HG5 := Lib.hid hg5
              clear hf hkl hm5 hg5
              go_wp2
              go_roundg go
              case measure => omega
              case rel =>
                have hk5 : Kept (fun b => b = w.heap.size) wr w5 := (Kept.refl _ wr).grown HG5.out (fun p e => .inl (by injection e with e; exact e.symm))
                refine ⟨i + 1, _, J1, m1, mo1, by omega, by go_num, (HC4.out.keep hk5 fun b _ e => ?_).less fun _ h => .inl (.inl h), by omega, HE.out, HM5.out, fun key v e => ?_, fun e => ?_, HK4.out.trans (hk5.mono fun b _ e hn => ?_)⟩
                · subst e
                  exact ⟨HHM.out, fun e => HC4.out.hcb.2 (e ▸ .inl (.inl (.inr rfl))), .inl (.inl (.inr rfl))⟩
                · by_cases hkey : key = signVal n.fn (k : Int) r
                  · subst hkey
                    rw [putFn_at] at e
                    injection e with e
                    subst e
                    refine ⟨i, n, r, rfl, HG.out, HOV.out, by rw [HLN.out], fun j hj => ?_⟩
                    have hj3 : j < k := by rw [HLN.out] at hj; omega
                    exact ((HE.out.snd HS.out).cls (HP4.out.1 j hj3).2.1).symm
                  · rw [putFn_far _ _ _ _ hkey] at e
                    exact HO.out key v e
                · refine (HR.out e).app HG.out HOV.out HRL.out (by rw [HLN.out]; exact putFn_at _ _ _) rfl fun key v hv => ?_
                  rw [putFn_far _ _ _ _ (fun hk => by rw [hk, HF.out] at hv; cases hv)]
                  exact hv
                · subst e
                  rcases hn with hn | hn
                  · have := HHM.out
                    omega
                  · have := HH.out.hX _ hn
                    omega
          | succ g2 =>
            have hkl : k < ln := by omega
            have d3 : decide (k < ln) = true := by simp; omega
            have d4 : decide ((k : Int) < (ln : Int)) = true := by simp; omega
            have hk3 : k < 3 := by omega
            have hnd : NdAt wr wo.heap.size 0 n := ⟨HN4.out.lt, fun j hj => by rw [HN4.out.cell, List.getElem?_toArray, Nat.zero_add]; simp only [nodeCells, HOV.out, HLN.out], HWf.out⟩
            have z2 := hnd.arg k hk3
            simp only [Nat.zero_add] at z2
            have harg := (HST.out.args k hk3).1 (by rw [HLN.out]; omega)
            obtain ⟨av, hav⟩ : ∃ av, n.arg k = av := ⟨_, rfl⟩
            rw [hav] at z2 harg
            have HAV := Lib.hid hav
            have KR := Lib.hid (fo_rep HC4.out.fo av (by omega))
            have z5 := HC4.out.cells.2.1
            have hlc := HC4.out.cells.2.2.2.2
            have tk1 : (0 : Int) ≤ (k : Int) := by omega
            have tk2 : (k : Int) < (ln : Int) := by omega
            have tk3 : (2 : Int) + (k : Int) < 5 := by omega
            clear hnd hav harg
            go_wp2_with fail
            refine KR.out.mono ?_
            rintro e w5 ⟨rv, rfl, hrr, hb5⟩
            have HC5 := Lib.hid (HC4.out.below hb5)
            have HS5 := Lib.hid (HS4.out.below hb5 HS4.out.lt)
            have HN5 := Lib.hid (HN4.out.below hb5 HN4.out.lt)
            have HM5 := Lib.hid (HM4.out.below hb5 HM4.out.lt)
            have HK5 : Hid (Kc H X w w5) := Lib.hid (HK4.out.trans (Kc.of_below hb5))
            have HP5 := Lib.hid (HP4.out.push (v := rv) (by rw [HAV.out]; exact hrr))
            have hl5 := HS5.out.lt
            have z6 := HS5.out.cell (2 + k)
            rw [sg_get _ _ _ _ hk3] at z6
            have f6 := HS5.out.frozen (2 + k)
            clear hb5 hrr
            go_wp2
            go_roundg g2
            case measure => omega
            case rel =>
              have hk5 : Kept (fun b => b = wo.heap.size + 1) w5 (w5.setCell ⟨wo.heap.size + 1, 2 + k, none⟩ (.int .i64 rv)) := Kept.set1 w5 _ _ _
              refine ⟨k + 1, updR r k rv, by omega, by go_num, HP5.out, HC5.out.keep hk5 fun b _ e => ?_, ?_, HN5.out.kept hk5 (by omega), HM5.out.kept hk5 (fun e => ?_), HK5.out.trans (hk5.mono fun b _ e hn => ?_)⟩
              · subst e
                have := HC.out.hH
                exact ⟨by omega, fun e => HC5.out.hcb.2 (e ▸ .inr rfl), .inr rfl⟩
              · have := HS5.out.set_ (2 + k) (.int .i64 rv)
                rwa [sg_set _ _ _ _ hk3] at this
              · have := HM.out.lt
                omega
              · subst e
                have := HC.out.hH
                rcases hn with hn | hn
                · omega
                · have := HH.out.hX _ hn
                  have := HM.out.lt
                  omega
      · have b13 : (ov == 13) = false := by simp [o13]
        have HO1 := Lib.hid o1
        have HO13 := Lib.hid o13
        clear o1 o13
        go_wp2
        go_roundg gk
        case measure => omega
        case rel => exact ⟨i + 1, f, J1, m1, mo1, by omega, by go_num, HC2.out.less fun _ h => .inl h, by omega, HE.out, HM2.out.mono (by omega), HO.out, fun e => (HR.out e).skip HG.out (by rw [HOV.out]; exact HO1.out) (by rw [HOV.out]; exact HO13.out), HK2.out⟩
end
end Go.Proofs.YtkapbdjobfbhhaaGreat

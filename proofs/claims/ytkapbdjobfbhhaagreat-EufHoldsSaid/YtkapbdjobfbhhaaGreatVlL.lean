/- Differences held against a number. -/
import Derived.Test.YtkapbdjobfbhhaaGreatVlH
import Derived.Laws.BitsLemmas
namespace Go.Proofs.YtkapbdjobfbhhaaGreat
open Go.RowKit Go.Lib
structure RwM where
  a0 : Int
  a1 : Int
  a2 : Int
  val : Int
def RwM.arg (r : RwM) (i : Nat) : Int := if i = 0 then r.a0 else if i = 1 then r.a1 else r.a2
structure FvM where
  R : Option Addr
  rc : Nat
  rows : List RwM
  els : Int
structure WldV where
  A0 : Option Addr
  c0 : Nat
  sizes : List Int
  A1 : Option Addr
  c1 : Nat
  funs : List FvM
def WldV.cells (v : WldV) : Array Value := #[.slice v.A0 v.sizes.length v.c0, .slice v.A1 v.funs.length v.c1]
structure RwAt (w : World) (b o : Nat) (r : RwM) : Prop where
  c0 : w.cell? ⟨b, o, none⟩ = some (.int .i64 r.a0)
  c1 : w.cell? ⟨b, o + 1, none⟩ = some (.int .i64 r.a1)
  c2 : w.cell? ⟨b, o + 2, none⟩ = some (.int .i64 r.a2)
  c3 : w.cell? ⟨b, o + 3, none⟩ = some (.int .i64 r.val)
  w0 : I64 r.a0
  w1 : I64 r.a1
  w2 : I64 r.a2
structure WldAt (w : World) (v : WldV) : Prop where
  n0 : v.sizes.length ≤ 9223372036854775807
  n1 : v.funs.length ≤ 9223372036854775807
  s : ∀ i (hi : i < v.sizes.length), ∃ b off, v.A0 = some ⟨b, off, none⟩ ∧ b < w.heap.size ∧ w.cell? ⟨b, off + i, none⟩ = some (.int .i64 v.sizes[i])
  f : ∀ i (hi : i < v.funs.length), ∃ b off, v.A1 = some ⟨b, off, none⟩ ∧ b < w.heap.size ∧ w.cell? ⟨b, off + i * 2, none⟩ = some (.slice v.funs[i].R v.funs[i].rows.length v.funs[i].rc) ∧ w.cell? ⟨b, off + i * 2 + 1, none⟩ = some (.int .i64 v.funs[i].els)
  r : ∀ f ∈ v.funs, f.rows.length ≤ 9223372036854775807 ∧ ∀ k (hk : k < f.rows.length), ∃ b off, f.R = some ⟨b, off, none⟩ ∧ b < w.heap.size ∧ RwAt w b (off + k * 4) f.rows[k]
theorem RwAt.below {w w' : World} {b o : Nat} {r : RwM} (h : RwAt w b o r) (hb : Below w.heap.size w w') (hlt : b < w.heap.size) : RwAt w' b o r :=
  ⟨(hb.cell (p := ⟨b, o, none⟩) hlt).trans h.c0, (hb.cell (p := ⟨b, o + 1, none⟩) hlt).trans h.c1, (hb.cell (p := ⟨b, o + 2, none⟩) hlt).trans h.c2, (hb.cell (p := ⟨b, o + 3, none⟩) hlt).trans h.c3, h.w0, h.w1, h.w2⟩
theorem WldAt.below {w w' : World} {v : WldV} (h : WldAt w v) (hb : Below w.heap.size w w') : WldAt w' v := by
  refine ⟨h.n0, h.n1, fun i hi => ?_, fun i hi => ?_, fun f hf => ⟨(h.r f hf).1, fun k hk => ?_⟩⟩
  · obtain ⟨b, off, e, hlt, h0⟩ := h.s i hi
    exact ⟨b, off, e, Nat.lt_of_lt_of_le hlt hb.size, (hb.cell (p := ⟨b, off + i, none⟩) hlt).trans h0⟩
  · obtain ⟨b, off, e, hlt, h0, h1⟩ := h.f i hi
    exact ⟨b, off, e, Nat.lt_of_lt_of_le hlt hb.size, (hb.cell (p := ⟨b, off + i * 2, none⟩) hlt).trans h0, (hb.cell (p := ⟨b, off + i * 2 + 1, none⟩) hlt).trans h1⟩
  · obtain ⟨b, off, e, hlt, h0⟩ := (h.r f hf).2 k hk
    exact ⟨b, off, e, Nat.lt_of_lt_of_le hlt hb.size, h0.below hb hlt⟩
def mayN (v : Int) : Bool := decide (-4611686018427387904 ≤ v ∧ v ≤ 4611686018427387904)
def isM (n : Nat) (sizes : List Int) (sort v : Int) : Bool :=
  if sizes.length ≠ n ∨ sort < 0 ∨ (n : Int) + 2 ≤ sort then false
  else if sort = 0 then decide (v = 0 ∨ v = 1) else if sort = 1 then mayN v else decide (0 ≤ v ∧ v < sizes.getD (sort - 2).toNat 0)
theorem may01_ok (v : Int) (w : World) : Calls Tryz.prog 59 #[.int .i64 v] w fun e w' => e = .returned (.bool (mayN v)) ∧ w = w' := by
  have e : mayN v = (decide ((-4611686018427387904 : Int) ≤ v) && decide (v ≤ 4611686018427387904)) := by unfold mayN; rw [Bool.decide_and]
  rw [e]
  clear e
  by_cases h1 : (-4611686018427387904 : Int) ≤ v
  · have d1 : decide ((-4611686018427387904 : Int) ≤ v) = true := decide_eq_true h1
    have d1' : decide (v ≥ (-4611686018427387904 : Int)) = true := decide_eq_true h1
    rw [d1]
    clear h1
    go_enter Tryz.func59, Tryz.ntmps59
    go_wp2
    go_ret
    exact ⟨by simp, rfl⟩
  · have d1 : decide ((-4611686018427387904 : Int) ≤ v) = false := decide_eq_false h1
    have d1' : decide (v ≥ (-4611686018427387904 : Int)) = false := decide_eq_false h1
    rw [d1]
    clear h1
    go_enter Tryz.func59, Tryz.ntmps59
    go_wp2
    go_ret
    exact ⟨by simp, rfl⟩
theorem wld_blk {w : World} {v : WldV} {b : Nat} (h : Blk w b 30 v.cells) : w.cell? ⟨b, 0, none⟩ = some (.slice v.A0 v.sizes.length v.c0) ∧ w.cell? ⟨b, 1, none⟩ = some (.slice v.A1 v.funs.length v.c1) := ⟨h.cell 0, h.cell 1⟩
set_option maxRecDepth 100000 in
set_option maxHeartbeats 4000000 in
theorem is09_ok {w : World} (g : SigV) {wl : WldV} (hw : WldAt w wl) (hg : g.sorts.length ≤ 9223372036854775800) (sort v : Int) (hs : I64 sort) :
    Calls Tryz.prog 33 #[.agg g.cells, .agg wl.cells, .int .i64 sort, .int .i64 v] w fun e w' => e = .returned (.bool (isM g.sorts.length wl.sizes sort v)) ∧ Below w.heap.size w w' := by
  obtain ⟨w0, hw0⟩ : ∃ w0, (w.alloc (.cells g.cells 26)).alloc (.cells wl.cells 30) = w0 := ⟨_, rfl⟩
  have HB0 : Hid (Below w.heap.size w w0) := Lib.hid (by rw [← hw0]; exact (sig_box w g).alloc (sig_box w g).size _)
  have HG0 : Hid (Blk w0 w.heap.size 26 g.cells) := Lib.hid (by rw [← hw0]; exact (Blk.new w 26 g.cells).alloc _)
  have HF0 : Hid (Blk w0 (w.heap.size + 1) 30 wl.cells) := Lib.hid (by rw [← hw0]; exact Blk.new_at (by simp) _ _)
  have H := Lib.hid (hw.below HB0.out)
  obtain ⟨x0, x1, x2⟩ := sig_blk HG0.out
  obtain ⟨y0, y1⟩ := wld_blk HF0.out
  have hn := hw.n0
  obtain ⟨hs0, hs1⟩ := hs
  clear hw
  have HV : Hid (isM g.sorts.length wl.sizes sort v = if wl.sizes.length ≠ g.sorts.length ∨ sort < 0 ∨ (g.sorts.length : Int) + 2 ≤ sort then false else if sort = 0 then decide (v = 0 ∨ v = 1) else if sort = 1 then mayN v else decide (0 ≤ v ∧ v < wl.sizes.getD (sort - 2).toNat 0)) := Lib.hid rfl
  obtain ⟨A0, c0, S, A1, c1, F, A2, c2, M⟩ := g
  obtain ⟨B0, d0, Z, B1, d1, V⟩ := wl
  unfold SigV.cells WldV.cells at *
  simp only at *
  obtain ⟨R, hR⟩ : ∃ R, isM S.length Z sort v = R := ⟨_, rfl⟩
  rw [hR] at HV ⊢
  have HW0 := Lib.hid hw0
  clear hR hw0 HG0 HF0
  have hwr : IntKind.i64.wrap (2 + (S.length : Int)) = 2 + (S.length : Int) := by unfold IntKind.wrap; simp [IntKind.bits, IntKind.signed]; omega
  go_enter Tryz.func33, Tryz.ntmps33
  go_upto_region 1 with fail
  rw [HW0.out]
  clear HW0
  by_cases h1 : Z.length = S.length
  rotate_left
  · have e1 : ((Z.length : Int) != (S.length : Int)) = true := bne_iff_ne.2 (by omega)
    have HE : Hid (R = false) := Lib.hid (by rw [HV.out, if_pos (.inl h1)])
    clear h1 hs0 hs1
    go_wp2
    go_ret
    exact ⟨by rw [HE.out]; rfl, HB0.out⟩
  have e1 : ((Z.length : Int) != (S.length : Int)) = false := by rw [h1]; simp
  by_cases h2 : sort < 0
  · have e2 : decide (sort < 0) = true := decide_eq_true h2
    have HE : Hid (R = false) := Lib.hid (by rw [HV.out, if_pos (.inr (.inl h2))])
    clear h1 h2 hs0 hs1
    go_wp2
    go_ret
    exact ⟨by rw [HE.out]; rfl, HB0.out⟩
  have e2 : decide (sort < 0) = false := decide_eq_false h2
  by_cases h3 : 2 + (S.length : Int) ≤ sort
  · have e3 : decide (2 + (S.length : Int) ≤ sort) = true := decide_eq_true h3
    have e3' : decide (sort ≥ 2 + (S.length : Int)) = true := decide_eq_true h3
    have HE : Hid (R = false) := Lib.hid (by rw [HV.out, if_pos (.inr (.inr (by omega)))])
    clear h1 h2 h3 hs0 hs1
    go_wp2
    go_ret
    exact ⟨by rw [HE.out]; rfl, HB0.out⟩
  have e3 : decide (2 + (S.length : Int) ≤ sort) = false := decide_eq_false h3
  have e3' : decide (sort ≥ 2 + (S.length : Int)) = false := decide_eq_false h3
  have HE : Hid (R = if sort = 0 then decide (v = 0 ∨ v = 1) else if sort = 1 then mayN v else decide (0 ≤ v ∧ v < Z.getD (sort - 2).toNat 0)) := Lib.hid (by rw [HV.out, if_neg (by omega)])
  by_cases h4 : sort = 0
  · have e4 : (sort == 0) = true := beq_iff_eq.2 h4
    have HE2 : Hid (R = (v == 0 || v == 1)) := Lib.hid (by rw [HE.out, if_pos h4, Bool.decide_or]; rfl)
    clear h1 h2 h3 h4 hs0 hs1 HE
    by_cases h5 : v = 0
    · have e5 : (v == 0) = true := beq_iff_eq.2 h5
      rw [e5] at HE2
      clear h5
      go_wp2
      go_ret
      exact ⟨by rw [HE2.out]; rfl, HB0.out⟩
    · have e5 : (v == 0) = false := beq_eq_false_iff_ne.2 h5
      rw [e5] at HE2
      clear h5
      go_wp2
      go_ret
      exact ⟨by rw [HE2.out]; rfl, HB0.out⟩
  have e4 : (sort == 0) = false := beq_eq_false_iff_ne.2 h4
  by_cases h5 : sort = 1
  · have e5 : (sort == 1) = true := beq_iff_eq.2 h5
    have HE2 : Hid (R = mayN v) := Lib.hid (by rw [HE.out, if_neg h4, if_pos h5])
    clear h1 h2 h3 h4 h5 hs0 hs1 HE
    go_wp2_with (go_at_call 59; refine (may01_ok v _).mono ?_; rintro e w1 ⟨rfl, rfl⟩)
    go_ret
    exact ⟨by rw [HE2.out]; rfl, HB0.out⟩
  have e5 : (sort == 1) = false := beq_eq_false_iff_ne.2 h5
  obtain ⟨k, hk⟩ : ∃ k : Nat, sort = (k : Int) + 2 := ⟨(sort - 2).toNat, by omega⟩
  subst hk
  have hkz : k < Z.length := by omega
  have HE2 : Hid (R = decide (0 ≤ v ∧ v < Z[k])) := Lib.hid (by rw [HE.out, if_neg h4, if_neg h5, show ((k : Int) + 2 - 2).toNat = k by omega, List.getD_eq_getElem?_getD, List.getElem?_eq_getElem hkz]; rfl)
  have hw2 : IntKind.i64.wrap ((k : Int) + 2 - 2) = (k : Int) := by unfold IntKind.wrap; simp [IntKind.bits, IntKind.signed]; omega
  have t1 : (0 : Int) ≤ (k : Int) := by omega
  have t2 : (k : Int) < (Z.length : Int) := by omega
  obtain ⟨b, off, hA, hb, z0⟩ := H.out.s k hkz
  dsimp only at hA z0
  subst hA
  generalize Z[k] = q at *
  clear h1 h2 h3 h4 h5 hs0 hs1 HE
  by_cases h6 : 0 ≤ v
  · have e6 : decide ((0 : Int) ≤ v) = true := decide_eq_true h6
    have e6' : decide (v ≥ (0 : Int)) = true := decide_eq_true h6
    have HE3 : Hid (R = decide (v < q)) := Lib.hid (by rw [HE2.out]; exact decide_eq_decide.2 (by omega))
    clear h6 HE2
    go_wp2
    go_ret
    exact ⟨by rw [HE3.out]; rfl, HB0.out⟩
  · have e6 : decide ((0 : Int) ≤ v) = false := decide_eq_false h6
    have e6' : decide (v ≥ (0 : Int)) = false := decide_eq_false h6
    have HE3 : Hid (R = false) := Lib.hid (by rw [HE2.out]; exact decide_eq_false (by omega))
    clear h6 HE2
    go_wp2
    go_ret
    exact ⟨by rw [HE3.out]; rfl, HB0.out⟩
end Go.Proofs.YtkapbdjobfbhhaaGreat
namespace Go.Proofs.YtkapbdjobfbhhaaGreat
open Go.RowKit Go.Lib
open Go.Maps (Keyed)
def triV (a b c : Int) : Value := .agg #[.int .i64 a, .int .i64 b, .int .i64 c]
theorem tri_at : Tryz.prog.keyTypeAt 4 46 = true := by kernel_rfl
theorem tri_wide : (match Tryz.prog.underlying 46 with | some (.array _ _) | some (.struct _) => true | _ => false) = true := by kernel_rfl
set_option maxRecDepth 100000 in
theorem tri_key : Keyed Tryz.prog 46 := Keyed.of_law (deep_law_laid laidOut (m := 4) (by omega) (of_decide_eq_true (by kernel_rfl)) tri_at tri_wide)
theorem tri_keyT : Tryz.prog.keyType 46 = true := by kernel_rfl
theorem tri_cells : Tryz.prog.cellsOf 46 = 3 := by kernel_rfl
set_option maxRecDepth 100000 in
theorem tri_lits (m : Nat) {a b c : Int} (ha : I64 a) (hb : I64 b) (hc : I64 c) : ∃ L, Tryz.prog.keyLits (m + 3 + 1) 46 [.int .i64 a, .int .i64 b, .int .i64 c] = some L := by
  have w2 := int_wf ha.1 ha.2
  have w3 := int_wf hb.1 hb.2
  have w4 := int_wf hc.1 hc.2
  have hr : List.range 3 = [0, 1, 2] := rfl
  unfold Program.keyLits
  rw [Tryz.underlying46]
  simp [cells_int, cells_arr3, Program.keyLits, Tryz.underlying3, w2, w3, w4, hr]
theorem tri_keyOf {a b c : Int} (ha : I64 a) (hb : I64 b) (hc : I64 c) : ∃ kl, keyOf Tryz.prog 46 (triV a b c) = some kl := by
  obtain ⟨m, hm⟩ := types_size3
  obtain ⟨L, hL⟩ := tri_lits m ha hb hc
  unfold keyOf
  rw [Tryz.underlying46]
  simp only
  rw [hm, if_pos (by rw [tri_keyT]; simp [Value.formed, triV, Tryz.underlying46, tri_cells, cells_int])]
  refine ⟨.string (keyBytes L), ?_⟩
  have : (triV a b c).cells.toList = [.int .i64 a, .int .i64 b, .int .i64 c] := rfl
  rw [this, hL]
  rfl
theorem triV_inj {a b c a' b' c' : Int} (h : triV a b c = triV a' b' c') : a = a' ∧ b = b' ∧ c = c' := by
  simp [triV] at h
  exact h
set_option maxRecDepth 100000 in
theorem tri_eq {a b c a' b' c' : Int} (ha : I64 a) (hb : I64 b) (hc : I64 c) (ha' : I64 a') (hb' : I64 b') (hc' : I64 c') : ∃ r : Bool, (r = true ↔ a = a' ∧ b = b' ∧ c = c') ∧ ∀ w, (Op.equal 46 (triV a b c) (triV a' b' c')).run Tryz.prog w = .ok r w := by
  obtain ⟨l1, e1⟩ := tri_keyOf ha hb hc
  obtain ⟨l2, e2⟩ := tri_keyOf ha' hb' hc'
  have key : ∀ w, ∃ r : Bool, (Op.equal 46 (triV a b c) (triV a' b' c')).run Tryz.prog w = .ok r w ∧ (r = true ↔ l1 = l2) := fun w => run_equal_deep w (m := 4) (by omega) tri_at tri_wide e1 e2
  have hl : l1 = l2 ↔ (a = a' ∧ b = b' ∧ c = c') := ⟨fun e => triV_inj (tri_key.inj e1 (e ▸ e2)), fun ⟨x, y, z⟩ => by subst x y z; rw [e1] at e2; exact Option.some.inj e2⟩
  by_cases hn : a = a' ∧ b = b' ∧ c = c'
  · refine ⟨true, ⟨fun _ => hn, fun _ => rfl⟩, fun w => ?_⟩
    obtain ⟨r, h1, h2⟩ := key w
    rw [h1, h2.2 (hl.2 hn)]
  · refine ⟨false, ⟨fun e => (by cases e), fun e => absurd e hn⟩, fun w => ?_⟩
    obtain ⟨r, h1, h2⟩ := key w
    cases r with
    | false => exact h1
    | true => exact absurd (hl.1 (h2.1 rfl)) hn
theorem tri_guardT : Tryz.prog.eqGuardType Tryz.prog.depth 46 = false := by kernel_rfl
theorem tri_guard (op : BinOp) (x y : Operand) (xs ys : Array Value) (w : World) : (eqGuard op 46 x y (.agg xs) (.agg ys)).run Tryz.prog w = .ok () w := run_eqGuard_agg w op _ x y xs ys tri_guardT
theorem tri_eql {r : Bool} {xs ys : Array Value} (h : ∀ w, (Op.equal 46 (.agg xs) (.agg ys)).run Tryz.prog w = .ok r w) (w : World) : (binOp .eql 46 (.agg xs) (.agg ys)).run Tryz.prog w = .ok (.bool r) w := by
  simp only [binOp, Sem.run_bind, h, Result.andThen_ok, Sem.run_pure]
def okA (n : Nat) (sizes : List Int) (f : FnM) (r : RwM) (i : Nat) : Bool := if (i : Int) < f.len then isM n sizes (f.arg i) (r.arg i) else r.arg i == 0
def fitsM (n : Nat) (sizes : List Int) (f : FnM) (r : RwM) : Bool := (List.range 3).all (okA n sizes f r)
def RwM.tri (r : RwM) : Array Value := #[.int .i64 r.a0, .int .i64 r.a1, .int .i64 r.a2]
theorem RwM.tri_arg (r : RwM) {i : Nat} (h : i < 3) : r.tri[i]? = some (.int .i64 (r.arg i)) := by
  match i, h with
  | 0, _ => rfl
  | 1, _ => rfl
  | 2, _ => rfl
set_option maxRecDepth 100000 in
set_option maxHeartbeats 8000000 in
theorem fits09_ok {w : World} (g : SigV) {wl : WldV} {f : FnM} (r : RwM) (hw : WldAt w wl) (hg : g.sorts.length ≤ 9223372036854775800) (hf : f.Wf) :
    Calls Tryz.prog 34 #[.agg g.cells, .agg wl.cells, .agg f.agg, .agg r.tri] w fun e w' => e = .returned (.bool (fitsM g.sorts.length wl.sizes f r)) ∧ Below w.heap.size w w' := by
  obtain ⟨w0, hw0⟩ : ∃ w0, (((w.alloc (.cells g.cells 26)).alloc (.cells wl.cells 30)).alloc (.cells f.agg 83)).alloc (.cells r.tri 46) = w0 := ⟨_, rfl⟩
  have HB0 : Hid (Below w.heap.size w w0) := Lib.hid (by rw [← hw0]; exact ((((Below.refl _ w).alloc (Nat.le_refl _) _).alloc (by simp) _).alloc (by simp; omega) _).alloc (by simp; omega) _)
  have HG0 : Hid (Blk w0 w.heap.size 26 g.cells) := Lib.hid (by rw [← hw0]; exact (((Blk.new w 26 g.cells).alloc _).alloc _).alloc _)
  have HV0 : Hid (Blk w0 (w.heap.size + 1) 30 wl.cells) := Lib.hid (by rw [← hw0]; exact ((Blk.new_at (by simp) _ _).alloc _).alloc _)
  have HF0 : Hid (Blk w0 (w.heap.size + 1 + 1) 83 f.agg) := Lib.hid (by rw [← hw0]; exact (Blk.new_at (by simp) _ _).alloc _)
  have HA0 : Hid (Blk w0 (w.heap.size + 1 + 1 + 1) 46 r.tri) := Lib.hid (by rw [← hw0]; exact Blk.new_at (by simp) _ _)
  have H := Lib.hid (hw.below HB0.out)
  have HX : Hid (∀ W, Below w0.heap.size w0 W → (W.cell? ⟨w.heap.size, 0, none⟩ = some (.slice g.A0 g.sorts.length g.c0) ∧ W.cell? ⟨w.heap.size, 1, none⟩ = some (.slice g.A1 g.funs.length g.c1) ∧ W.cell? ⟨w.heap.size, 2, none⟩ = some (.slice g.A2 g.macs.length g.c2)) ∧ (W.cell? ⟨w.heap.size + 1, 0, none⟩ = some (.slice wl.A0 wl.sizes.length wl.c0) ∧ W.cell? ⟨w.heap.size + 1, 1, none⟩ = some (.slice wl.A1 wl.funs.length wl.c1)) ∧ W.cell? ⟨w.heap.size + 1 + 1, 1, none⟩ = some (.int .i64 f.len) ∧ ∀ i, i < 3 → W.cell? ⟨w.heap.size + 1 + 1, 2 + i, none⟩ = some (.int .i64 (f.arg i)) ∧ W.cell? ⟨w.heap.size + 1 + 1 + 1, i, none⟩ = some (.int .i64 (r.arg i))) := Lib.hid (fun W hW => by
    have h2 := HF0.out.below hW HF0.out.lt
    have h3 := HA0.out.below hW HA0.out.lt
    exact ⟨sig_blk (HG0.out.below hW HG0.out.lt), wld_blk (HV0.out.below hW HV0.out.lt), h2.cell 1, fun i hi => ⟨by rw [h2.cell]; exact FnM.agg_arg f hi, by rw [h3.cell]; exact RwM.tri_arg r hi⟩⟩)
  have KT := Lib.hid (fun W (hW : Below w0.heap.size w0 W) (s v : Int) (hs : I64 s) => is09_ok g (H.out.below hW) hg s v hs)
  have HWf := Lib.hid hf
  have HOk : Hid (fitsM g.sorts.length wl.sizes f r = (List.range 3).all (okA g.sorts.length wl.sizes f r)) := Lib.hid rfl
  have HOi := Lib.hid (fun i => show okA g.sorts.length wl.sizes f r i = (if (i : Int) < f.len then isM g.sorts.length wl.sizes (f.arg i) (r.arg i) else r.arg i == 0) from rfl)
  obtain ⟨R, hR⟩ : ∃ R, fitsM g.sorts.length wl.sizes f r = R := ⟨_, rfl⟩
  rw [hR] at HOk ⊢
  generalize okA g.sorts.length wl.sizes f r = ok at *
  clear hw hf hR
  obtain ⟨A0, c0, S, A1, c1, F, A2, c2, M⟩ := g
  obtain ⟨B0, d0, Z, B1, d1, V⟩ := wl
  obtain ⟨nm, len, a0, a1, a2, res⟩ := f
  unfold SigV.cells WldV.cells FnM.agg RwM.tri at *
  simp only at *
  have HW0 := Lib.hid hw0
  clear hw0 HG0 HF0 HV0 HA0 H
  go_enter Tryz.func34, Tryz.ntmps34
  go_upto_region 1 with fail
  rw [HW0.out]
  clear HW0
  have HZ := Lib.hid (Below.refl w0.heap.size w0)
  go_wp2
  go_loopg [9] 3 (fun g v wr => ∃ i : Nat, i + g = 3 ∧ v = .int .i64 i ∧ (∀ k, k < i → ok k = true) ∧ Below w0.heap.size w0 wr)
  case atStart => exact ⟨0, by omega, rfl, fun k hk => absurd hk (Nat.not_lt_zero _), HZ.out⟩
  case round =>
    obtain ⟨i, hig, rfl, hall, hb⟩ := hrel
    have HB := Lib.hid hb
    have HAll := Lib.hid hall
    clear hb hall
    cases gk with
    | zero =>
      obtain rfl : i = 3 := by omega
      have HE : Hid (R = true) := Lib.hid (by rw [HOk.out, List.all_eq_true]; exact fun k hk => HAll.out k (List.mem_range.1 hk))
      go_wp2
      go_ret
      exact ⟨by rw [HE.out]; rfl, HB0.out.trans (HB.out.mono HB0.out.size)⟩
    | succ gk =>
      have hi3 : i < 3 := by omega
      have d2 : decide ((i : Int) < 3) = true := decide_eq_true (by omega)
      have t1 : (0 : Int) ≤ (i : Int) := by omega
      have t2 : (i : Int) < (3 : Int) := by omega
      have hai := HWf.out.arg i
      have HNext : Hid (ok i = true → ∀ k, k < i + 1 → ok k = true) := Lib.hid (fun e k hk => by
        by_cases hki : k = i
        · rw [hki]; exact e
        · exact HAll.out k (by omega))
      have HBad : Hid (ok i = false → R = false) := Lib.hid (fun e => by
        rw [HOk.out]
        rcases hq : (List.range 3).all ok with _ | _
        · rfl
        · rw [List.all_eq_true.1 hq i (List.mem_range.2 hi3)] at e; cases e)
      have hoi := HOi.out i
      have HFx : Hid (∀ W, Below wr.heap.size wr W → W.cell? ⟨w.heap.size, 0, none⟩ = some (.slice A0 S.length c0) ∧ W.cell? ⟨w.heap.size, 1, none⟩ = some (.slice A1 F.length c1) ∧ W.cell? ⟨w.heap.size, 2, none⟩ = some (.slice A2 M.length c2) ∧ W.cell? ⟨w.heap.size + 1, 0, none⟩ = some (.slice B0 Z.length d0) ∧ W.cell? ⟨w.heap.size + 1, 1, none⟩ = some (.slice B1 V.length d1) ∧ W.cell? ⟨w.heap.size + 1 + 1, 1, none⟩ = some (.int .i64 len) ∧ W.cell? ⟨w.heap.size + 1 + 1, 2 + i, none⟩ = some (.int .i64 (FnM.arg ⟨nm, len, a0, a1, a2, res⟩ i)) ∧ W.cell? ⟨w.heap.size + 1 + 1 + 1, i, none⟩ = some (.int .i64 (r.arg i))) := Lib.hid (fun W hW => by
        obtain ⟨⟨k0, k1, k2⟩, ⟨k3, k4⟩, k5, k6⟩ := HX.out W (HB.out.trans (hW.mono HB.out.size))
        exact ⟨k0, k1, k2, k3, k4, k5, (k6 i hi3).1, (k6 i hi3).2⟩)
      have KI := Lib.hid (fun W (hW : Below wr.heap.size wr W) => KT.out W (HB.out.trans (hW.mono HB.out.size)) _ (r.arg i) hai)
      generalize FnM.arg ⟨nm, len, a0, a1, a2, res⟩ i = ai at *
      generalize r.arg i = ri at *
      obtain ⟨q, hq⟩ : ∃ q, isM S.length Z ai ri = q := ⟨_, rfl⟩
      rw [hq] at KI hoi
      have HOi1 := Lib.hid hoi
      clear hai hq hoi
      go_upto_region 4 with fail
      by_cases hil : (i : Int) < len
      · have d3 : decide ((i : Int) < len) = true := decide_eq_true hil
        have d4 : decide ((i : Int) ≥ len) = false := decide_eq_false (by omega)
        have d4' : decide (len ≤ (i : Int)) = false := decide_eq_false (by omega)
        have HO2 : Hid (ok i = q) := Lib.hid (by rw [HOi1.out, if_pos hil])
        clear hil
        cases q with
        | true =>
          have HN := Lib.hid (HNext.out HO2.out)
          refine wp_region_quiet (C := fun w' => Below wr.heap.size wr w') (by kernel_rfl) (by kernel_rfl) (⟨rfl, rfl, rfl, Nat.le_refl _, fun _ _ => rfl⟩) ?_
          refine QW.lit ?_
          refine qw_want rfl ?_ (fun w' hw' => ?_) ?_
          rotate_left
          · unfold Oper.quietAt
            go_simp
            exact rfl
          simp only [Act.put, List.setIfInBounds_toArray, List.set_cons_succ, List.set_cons_zero]
          refine qw_want rfl ?_ (fun w' hw' => ?_) ?_
          rotate_left
          · unfold Oper.quietAt
            go_simp
            exact rfl
          simp only [Act.put, List.setIfInBounds_toArray, List.set_cons_succ, List.set_cons_zero]
          refine qw_want rfl ?_ (fun w' hw' => ?_) ?_
          rotate_left
          · obtain ⟨k0, k1, k2, k3, k4, k5, k6, k7⟩ := HFx.out w' hw'
            unfold Oper.quietAt
            go_simp
            exact rfl
          simp only [Act.put, List.setIfInBounds_toArray, List.set_cons_succ, List.set_cons_zero]
          refine qw_want rfl ?_ (fun w' hw' => ?_) ?_
          rotate_left
          · unfold Oper.quietAt
            go_simp
            exact rfl
          simp only [Act.put, List.setIfInBounds_toArray, List.set_cons_succ, List.set_cons_zero]
          refine qw_want rfl ?_ (fun w' hw' => ?_) ?_
          rotate_left
          · unfold Oper.quietAt
            go_simp
            exact rfl
          simp only [Act.put, List.setIfInBounds_toArray, List.set_cons_succ, List.set_cons_zero]
          refine qw_want rfl ?_ (fun w' hw' => ?_) ?_
          rotate_left
          · obtain ⟨k0, k1, k2, k3, k4, k5, k6, k7⟩ := HFx.out w' hw'
            unfold Oper.quietAt
            go_simp
            exact rfl
          simp only [Act.put, List.setIfInBounds_toArray, List.set_cons_succ, List.set_cons_zero]
          refine qw_want rfl ?_ (fun w' hw' => ?_) ?_
          rotate_left
          · obtain ⟨k0, k1, k2, k3, k4, k5, k6, k7⟩ := HFx.out w' hw'
            unfold Oper.quietAt
            go_simp
            exact rfl
          simp only [Act.put, List.setIfInBounds_toArray, List.set_cons_succ, List.set_cons_zero]
          refine qw_want rfl ?_ (fun w' hw' => ?_) ?_
          rotate_left
          · unfold Oper.quietAt
            go_simp
            exact rfl
          simp only [Act.put, List.setIfInBounds_toArray, List.set_cons_succ, List.set_cons_zero]
          refine qw_want rfl ?_ (fun w' hw' => ?_) ?_
          rotate_left
          · unfold Oper.quietAt
            go_simp
            exact rfl
          simp only [Act.put, List.setIfInBounds_toArray, List.set_cons_succ, List.set_cons_zero]
          refine qw_want rfl ?_ (fun w' hw' => ?_) ?_
          rotate_left
          · unfold Oper.quietAt
            go_simp
            exact rfl
          simp only [Act.put, List.setIfInBounds_toArray, List.set_cons_succ, List.set_cons_zero]
          refine qw_want rfl ?_ (fun w' hw' => ?_) ?_
          rotate_left
          · obtain ⟨k0, k1, k2, k3, k4, k5, k6, k7⟩ := HFx.out w' hw'
            unfold Oper.quietAt
            go_simp
            exact rfl
          simp only [Act.put, List.setIfInBounds_toArray, List.set_cons_succ, List.set_cons_zero]
          refine qw_want rfl ?_ (fun w' hw' => ?_) ?_
          rotate_left
          · unfold Oper.quietAt
            go_simp
            exact rfl
          simp only [Act.put, List.setIfInBounds_toArray, List.set_cons_succ, List.set_cons_zero]
          refine qw_want rfl ?_ (fun w' hw' => ?_) ?_
          rotate_left
          · unfold Oper.quietAt
            go_simp
            exact rfl
          simp only [Act.put, List.setIfInBounds_toArray, List.set_cons_succ, List.set_cons_zero]
          refine qw_want rfl ?_ (fun w' hw' => ?_) ?_
          rotate_left
          · obtain ⟨k0, k1, k2, k3, k4, k5, k6, k7⟩ := HFx.out w' hw'
            unfold Oper.quietAt
            go_simp
            exact rfl
          simp only [Act.put, List.setIfInBounds_toArray, List.set_cons_succ, List.set_cons_zero]
          refine qw_want rfl (.bool true) (fun w' hw' => ?_) ?_
          · unfold Oper.quietAt
            go_simp
            refine (KI.out w' hw').mono ?_
            rintro e w2 ⟨rfl, hb⟩
            have hz := below_then hw' (Nat.le_refl _) hb
            exact ⟨rfl, by simpa using hz⟩
          simp only [Act.put, List.setIfInBounds_toArray, List.set_cons_succ, List.set_cons_zero]
          refine qw_want rfl ?_ (fun w' hw' => ?_) ?_
          rotate_left
          · unfold Oper.quietAt
            go_simp
            exact rfl
          simp only [Act.put, List.setIfInBounds_toArray, List.set_cons_succ, List.set_cons_zero]
          refine qw_want rfl ?_ (fun w' hw' => ?_) ?_
          rotate_left
          · unfold Oper.quietAt
            go_simp
            exact rfl
          simp only [Act.put, List.setIfInBounds_toArray, List.set_cons_succ, List.set_cons_zero]
          refine qw_want rfl ?_ (fun w' hw' => ?_) ?_
          rotate_left
          · unfold Oper.quietAt
            go_simp
            exact rfl
          simp only [Act.put, List.setIfInBounds_toArray, List.set_cons_succ, List.set_cons_zero]
          refine qw_want rfl ?_ (fun w' hw' => ?_) ?_
          rotate_left
          · unfold Oper.quietAt
            go_simp
            exact rfl
          simp only [Act.put, List.setIfInBounds_toArray, List.set_cons_succ, List.set_cons_zero]
          refine qw_want rfl ?_ (fun w' hw' => ?_) ?_
          rotate_left
          · unfold Oper.quietAt
            go_simp
            exact rfl
          simp only [Act.put, List.setIfInBounds_toArray, List.set_cons_succ, List.set_cons_zero]
          refine qw_want rfl ?_ (fun w' hw' => ?_) ?_
          rotate_left
          · obtain ⟨k0, k1, k2, k3, k4, k5, k6, k7⟩ := HFx.out w' hw'
            unfold Oper.quietAt
            go_simp
            exact rfl
          simp only [Act.put, List.setIfInBounds_toArray, List.set_cons_succ, List.set_cons_zero]
          refine qw_want rfl ?_ (fun w' hw' => ?_) ?_
          rotate_left
          · unfold Oper.quietAt
            go_simp
            exact rfl
          simp only [Act.put, List.setIfInBounds_toArray, List.set_cons_succ, List.set_cons_zero]
          refine qw_want rfl ?_ (fun w' hw' => ?_) ?_
          rotate_left
          · unfold Oper.quietAt
            go_simp
            exact rfl
          simp only [Act.put, List.setIfInBounds_toArray, List.set_cons_succ, List.set_cons_zero]
          refine qw_skip (by rfl) ?_
          simp only [Act.put, List.setIfInBounds_toArray, List.set_cons_succ, List.set_cons_zero]
          refine qw_skip (by rfl) ?_
          simp only [Act.put, List.setIfInBounds_toArray, List.set_cons_succ, List.set_cons_zero]
          refine qw_skip (by rfl) ?_
          simp only [Act.put, List.setIfInBounds_toArray, List.set_cons_succ, List.set_cons_zero]
          refine qw_skip (by rfl) ?_
          simp only [Act.put, List.setIfInBounds_toArray, List.set_cons_succ, List.set_cons_zero]
          refine qw_want rfl ?_ (fun w' hw' => ?_) ?_
          rotate_left
          · unfold Oper.quietAt
            go_simp
            exact rfl
          simp only [Act.put, List.setIfInBounds_toArray, List.set_cons_succ, List.set_cons_zero]
          refine qw_want rfl ?_ (fun w' hw' => ?_) ?_
          rotate_left
          · unfold Oper.quietAt
            go_simp
            exact rfl
          simp only [Act.put, List.setIfInBounds_toArray, List.set_cons_succ, List.set_cons_zero]
          refine qw_end (fun w5 hb5 => ?_)
          have HB5 := Lib.hid (HB.out.trans (hb5.mono HB.out.size))
          clear hb5
          go_wp2
          go_roundg gk
          case measure => omega
          case rel => exact ⟨i + 1, by omega, by go_num, HN.out, HB5.out⟩
        | false =>
          have HE := Lib.hid (HBad.out HO2.out)
          refine wp_region_quiet (C := fun w' => Below wr.heap.size wr w') (by kernel_rfl) (by kernel_rfl) (⟨rfl, rfl, rfl, Nat.le_refl _, fun _ _ => rfl⟩) ?_
          refine QW.lit ?_
          refine qw_want rfl ?_ (fun w' hw' => ?_) ?_
          rotate_left
          · unfold Oper.quietAt
            go_simp
            exact rfl
          simp only [Act.put, List.setIfInBounds_toArray, List.set_cons_succ, List.set_cons_zero]
          refine qw_want rfl ?_ (fun w' hw' => ?_) ?_
          rotate_left
          · unfold Oper.quietAt
            go_simp
            exact rfl
          simp only [Act.put, List.setIfInBounds_toArray, List.set_cons_succ, List.set_cons_zero]
          refine qw_want rfl ?_ (fun w' hw' => ?_) ?_
          rotate_left
          · obtain ⟨k0, k1, k2, k3, k4, k5, k6, k7⟩ := HFx.out w' hw'
            unfold Oper.quietAt
            go_simp
            exact rfl
          simp only [Act.put, List.setIfInBounds_toArray, List.set_cons_succ, List.set_cons_zero]
          refine qw_want rfl ?_ (fun w' hw' => ?_) ?_
          rotate_left
          · unfold Oper.quietAt
            go_simp
            exact rfl
          simp only [Act.put, List.setIfInBounds_toArray, List.set_cons_succ, List.set_cons_zero]
          refine qw_want rfl ?_ (fun w' hw' => ?_) ?_
          rotate_left
          · unfold Oper.quietAt
            go_simp
            exact rfl
          simp only [Act.put, List.setIfInBounds_toArray, List.set_cons_succ, List.set_cons_zero]
          refine qw_want rfl ?_ (fun w' hw' => ?_) ?_
          rotate_left
          · obtain ⟨k0, k1, k2, k3, k4, k5, k6, k7⟩ := HFx.out w' hw'
            unfold Oper.quietAt
            go_simp
            exact rfl
          simp only [Act.put, List.setIfInBounds_toArray, List.set_cons_succ, List.set_cons_zero]
          refine qw_want rfl ?_ (fun w' hw' => ?_) ?_
          rotate_left
          · obtain ⟨k0, k1, k2, k3, k4, k5, k6, k7⟩ := HFx.out w' hw'
            unfold Oper.quietAt
            go_simp
            exact rfl
          simp only [Act.put, List.setIfInBounds_toArray, List.set_cons_succ, List.set_cons_zero]
          refine qw_want rfl ?_ (fun w' hw' => ?_) ?_
          rotate_left
          · unfold Oper.quietAt
            go_simp
            exact rfl
          simp only [Act.put, List.setIfInBounds_toArray, List.set_cons_succ, List.set_cons_zero]
          refine qw_want rfl ?_ (fun w' hw' => ?_) ?_
          rotate_left
          · unfold Oper.quietAt
            go_simp
            exact rfl
          simp only [Act.put, List.setIfInBounds_toArray, List.set_cons_succ, List.set_cons_zero]
          refine qw_want rfl ?_ (fun w' hw' => ?_) ?_
          rotate_left
          · unfold Oper.quietAt
            go_simp
            exact rfl
          simp only [Act.put, List.setIfInBounds_toArray, List.set_cons_succ, List.set_cons_zero]
          refine qw_want rfl ?_ (fun w' hw' => ?_) ?_
          rotate_left
          · obtain ⟨k0, k1, k2, k3, k4, k5, k6, k7⟩ := HFx.out w' hw'
            unfold Oper.quietAt
            go_simp
            exact rfl
          simp only [Act.put, List.setIfInBounds_toArray, List.set_cons_succ, List.set_cons_zero]
          refine qw_want rfl ?_ (fun w' hw' => ?_) ?_
          rotate_left
          · unfold Oper.quietAt
            go_simp
            exact rfl
          simp only [Act.put, List.setIfInBounds_toArray, List.set_cons_succ, List.set_cons_zero]
          refine qw_want rfl ?_ (fun w' hw' => ?_) ?_
          rotate_left
          · unfold Oper.quietAt
            go_simp
            exact rfl
          simp only [Act.put, List.setIfInBounds_toArray, List.set_cons_succ, List.set_cons_zero]
          refine qw_want rfl ?_ (fun w' hw' => ?_) ?_
          rotate_left
          · obtain ⟨k0, k1, k2, k3, k4, k5, k6, k7⟩ := HFx.out w' hw'
            unfold Oper.quietAt
            go_simp
            exact rfl
          simp only [Act.put, List.setIfInBounds_toArray, List.set_cons_succ, List.set_cons_zero]
          refine qw_want rfl (.bool false) (fun w' hw' => ?_) ?_
          · unfold Oper.quietAt
            go_simp
            refine (KI.out w' hw').mono ?_
            rintro e w2 ⟨rfl, hb⟩
            have hz := below_then hw' (Nat.le_refl _) hb
            exact ⟨rfl, by simpa using hz⟩
          simp only [Act.put, List.setIfInBounds_toArray, List.set_cons_succ, List.set_cons_zero]
          refine qw_want rfl ?_ (fun w' hw' => ?_) ?_
          rotate_left
          · unfold Oper.quietAt
            go_simp
            exact rfl
          simp only [Act.put, List.setIfInBounds_toArray, List.set_cons_succ, List.set_cons_zero]
          refine qw_want rfl ?_ (fun w' hw' => ?_) ?_
          rotate_left
          · unfold Oper.quietAt
            go_simp
            exact rfl
          simp only [Act.put, List.setIfInBounds_toArray, List.set_cons_succ, List.set_cons_zero]
          refine qw_want rfl ?_ (fun w' hw' => ?_) ?_
          rotate_left
          · unfold Oper.quietAt
            go_simp
            exact rfl
          simp only [Act.put, List.setIfInBounds_toArray, List.set_cons_succ, List.set_cons_zero]
          refine qw_skip (by rfl) ?_
          simp only [Act.put, List.setIfInBounds_toArray, List.set_cons_succ, List.set_cons_zero]
          refine qw_skip (by rfl) ?_
          simp only [Act.put, List.setIfInBounds_toArray, List.set_cons_succ, List.set_cons_zero]
          refine qw_skip (by rfl) ?_
          simp only [Act.put, List.setIfInBounds_toArray, List.set_cons_succ, List.set_cons_zero]
          refine qw_skip (by rfl) ?_
          simp only [Act.put, List.setIfInBounds_toArray, List.set_cons_succ, List.set_cons_zero]
          refine qw_skip (by rfl) ?_
          simp only [Act.put, List.setIfInBounds_toArray, List.set_cons_succ, List.set_cons_zero]
          refine qw_skip (by rfl) ?_
          simp only [Act.put, List.setIfInBounds_toArray, List.set_cons_succ, List.set_cons_zero]
          refine qw_skip (by rfl) ?_
          simp only [Act.put, List.setIfInBounds_toArray, List.set_cons_succ, List.set_cons_zero]
          refine qw_skip (by rfl) ?_
          simp only [Act.put, List.setIfInBounds_toArray, List.set_cons_succ, List.set_cons_zero]
          refine qw_skip (by rfl) ?_
          simp only [Act.put, List.setIfInBounds_toArray, List.set_cons_succ, List.set_cons_zero]
          refine qw_skip (by rfl) ?_
          simp only [Act.put, List.setIfInBounds_toArray, List.set_cons_succ, List.set_cons_zero]
          refine qw_want rfl ?_ (fun w' hw' => ?_) ?_
          rotate_left
          · unfold Oper.quietAt
            go_simp
            exact rfl
          simp only [Act.put, List.setIfInBounds_toArray, List.set_cons_succ, List.set_cons_zero]
          refine qw_end (fun w5 hb5 => ?_)
          have HB5 := Lib.hid (HB.out.trans (hb5.mono HB.out.size))
          clear hb5
          go_wp2
          go_ret
          exact ⟨by rw [HE.out]; rfl, HB0.out.trans (HB5.out.mono HB0.out.size)⟩
      · have d3 : decide ((i : Int) < len) = false := decide_eq_false hil
        have d4 : decide ((i : Int) ≥ len) = true := decide_eq_true (by omega)
        have d4' : decide (len ≤ (i : Int)) = true := decide_eq_true (by omega)
        have HO2 : Hid (ok i = (ri == 0)) := Lib.hid (by rw [HOi1.out, if_neg hil])
        clear hil
        cases hz : (ri != 0) with
        | false =>
          have HN := Lib.hid (HNext.out (by rw [HO2.out]; simpa using hz))
          refine wp_region_quiet (C := fun w' => Below wr.heap.size wr w') (by kernel_rfl) (by kernel_rfl) (⟨rfl, rfl, rfl, Nat.le_refl _, fun _ _ => rfl⟩) ?_
          refine QW.lit ?_
          refine qw_want rfl ?_ (fun w' hw' => ?_) ?_
          rotate_left
          · unfold Oper.quietAt
            go_simp
            exact rfl
          simp only [Act.put, List.setIfInBounds_toArray, List.set_cons_succ, List.set_cons_zero]
          refine qw_want rfl ?_ (fun w' hw' => ?_) ?_
          rotate_left
          · unfold Oper.quietAt
            go_simp
            exact rfl
          simp only [Act.put, List.setIfInBounds_toArray, List.set_cons_succ, List.set_cons_zero]
          refine qw_want rfl ?_ (fun w' hw' => ?_) ?_
          rotate_left
          · obtain ⟨k0, k1, k2, k3, k4, k5, k6, k7⟩ := HFx.out w' hw'
            unfold Oper.quietAt
            go_simp
            exact rfl
          simp only [Act.put, List.setIfInBounds_toArray, List.set_cons_succ, List.set_cons_zero]
          refine qw_want rfl ?_ (fun w' hw' => ?_) ?_
          rotate_left
          · unfold Oper.quietAt
            go_simp
            exact rfl
          simp only [Act.put, List.setIfInBounds_toArray, List.set_cons_succ, List.set_cons_zero]
          refine qw_want rfl ?_ (fun w' hw' => ?_) ?_
          rotate_left
          · unfold Oper.quietAt
            go_simp
            exact rfl
          simp only [Act.put, List.setIfInBounds_toArray, List.set_cons_succ, List.set_cons_zero]
          refine qw_skip (by rfl) ?_
          simp only [Act.put, List.setIfInBounds_toArray, List.set_cons_succ, List.set_cons_zero]
          refine qw_skip (by rfl) ?_
          simp only [Act.put, List.setIfInBounds_toArray, List.set_cons_succ, List.set_cons_zero]
          refine qw_skip (by rfl) ?_
          simp only [Act.put, List.setIfInBounds_toArray, List.set_cons_succ, List.set_cons_zero]
          refine qw_skip (by rfl) ?_
          simp only [Act.put, List.setIfInBounds_toArray, List.set_cons_succ, List.set_cons_zero]
          refine qw_skip (by rfl) ?_
          simp only [Act.put, List.setIfInBounds_toArray, List.set_cons_succ, List.set_cons_zero]
          refine qw_skip (by rfl) ?_
          simp only [Act.put, List.setIfInBounds_toArray, List.set_cons_succ, List.set_cons_zero]
          refine qw_skip (by rfl) ?_
          simp only [Act.put, List.setIfInBounds_toArray, List.set_cons_succ, List.set_cons_zero]
          refine qw_skip (by rfl) ?_
          simp only [Act.put, List.setIfInBounds_toArray, List.set_cons_succ, List.set_cons_zero]
          refine qw_skip (by rfl) ?_
          simp only [Act.put, List.setIfInBounds_toArray, List.set_cons_succ, List.set_cons_zero]
          refine qw_skip (by rfl) ?_
          simp only [Act.put, List.setIfInBounds_toArray, List.set_cons_succ, List.set_cons_zero]
          refine qw_skip (by rfl) ?_
          simp only [Act.put, List.setIfInBounds_toArray, List.set_cons_succ, List.set_cons_zero]
          refine qw_want rfl ?_ (fun w' hw' => ?_) ?_
          rotate_left
          · unfold Oper.quietAt
            go_simp
            exact rfl
          simp only [Act.put, List.setIfInBounds_toArray, List.set_cons_succ, List.set_cons_zero]
          refine qw_want rfl ?_ (fun w' hw' => ?_) ?_
          rotate_left
          · unfold Oper.quietAt
            go_simp
            exact rfl
          simp only [Act.put, List.setIfInBounds_toArray, List.set_cons_succ, List.set_cons_zero]
          refine qw_want rfl ?_ (fun w' hw' => ?_) ?_
          rotate_left
          · unfold Oper.quietAt
            go_simp
            exact rfl
          simp only [Act.put, List.setIfInBounds_toArray, List.set_cons_succ, List.set_cons_zero]
          refine qw_want rfl ?_ (fun w' hw' => ?_) ?_
          rotate_left
          · unfold Oper.quietAt
            go_simp
            exact rfl
          simp only [Act.put, List.setIfInBounds_toArray, List.set_cons_succ, List.set_cons_zero]
          refine qw_want rfl ?_ (fun w' hw' => ?_) ?_
          rotate_left
          · obtain ⟨k0, k1, k2, k3, k4, k5, k6, k7⟩ := HFx.out w' hw'
            unfold Oper.quietAt
            go_simp
            exact rfl
          simp only [Act.put, List.setIfInBounds_toArray, List.set_cons_succ, List.set_cons_zero]
          refine qw_want rfl ?_ (fun w' hw' => ?_) ?_
          rotate_left
          · unfold Oper.quietAt
            go_simp
            exact rfl
          simp only [Act.put, List.setIfInBounds_toArray, List.set_cons_succ, List.set_cons_zero]
          refine qw_want rfl ?_ (fun w' hw' => ?_) ?_
          rotate_left
          · unfold Oper.quietAt
            go_simp
            exact rfl
          simp only [Act.put, List.setIfInBounds_toArray, List.set_cons_succ, List.set_cons_zero]
          refine qw_want rfl ?_ (fun w' hw' => ?_) ?_
          rotate_left
          · unfold Oper.quietAt
            go_simp
            exact rfl
          simp only [Act.put, List.setIfInBounds_toArray, List.set_cons_succ, List.set_cons_zero]
          refine qw_want rfl ?_ (fun w' hw' => ?_) ?_
          rotate_left
          · unfold Oper.quietAt
            go_simp
            exact rfl
          simp only [Act.put, List.setIfInBounds_toArray, List.set_cons_succ, List.set_cons_zero]
          refine qw_want rfl ?_ (fun w' hw' => ?_) ?_
          rotate_left
          · obtain ⟨k0, k1, k2, k3, k4, k5, k6, k7⟩ := HFx.out w' hw'
            unfold Oper.quietAt
            go_simp
            exact rfl
          simp only [Act.put, List.setIfInBounds_toArray, List.set_cons_succ, List.set_cons_zero]
          refine qw_want rfl ?_ (fun w' hw' => ?_) ?_
          rotate_left
          · unfold Oper.quietAt
            go_simp
            exact rfl
          simp only [Act.put, List.setIfInBounds_toArray, List.set_cons_succ, List.set_cons_zero]
          refine qw_want rfl ?_ (fun w' hw' => ?_) ?_
          rotate_left
          · unfold Oper.quietAt
            go_simp
            exact rfl
          simp only [Act.put, List.setIfInBounds_toArray, List.set_cons_succ, List.set_cons_zero]
          refine qw_want rfl ?_ (fun w' hw' => ?_) ?_
          rotate_left
          · unfold Oper.quietAt
            go_simp
            exact rfl
          simp only [Act.put, List.setIfInBounds_toArray, List.set_cons_succ, List.set_cons_zero]
          refine qw_end (fun w5 hb5 => ?_)
          have HB5 := Lib.hid (HB.out.trans (hb5.mono HB.out.size))
          clear hb5
          go_wp2
          go_roundg gk
          case measure => omega
          case rel => exact ⟨i + 1, by omega, by go_num, HN.out, HB5.out⟩
        | true =>
          have HE := Lib.hid (HBad.out (by rw [HO2.out]; simpa using hz))
          refine wp_region_quiet (C := fun w' => Below wr.heap.size wr w') (by kernel_rfl) (by kernel_rfl) (⟨rfl, rfl, rfl, Nat.le_refl _, fun _ _ => rfl⟩) ?_
          refine QW.lit ?_
          refine qw_want rfl ?_ (fun w' hw' => ?_) ?_
          rotate_left
          · unfold Oper.quietAt
            go_simp
            exact rfl
          simp only [Act.put, List.setIfInBounds_toArray, List.set_cons_succ, List.set_cons_zero]
          refine qw_want rfl ?_ (fun w' hw' => ?_) ?_
          rotate_left
          · unfold Oper.quietAt
            go_simp
            exact rfl
          simp only [Act.put, List.setIfInBounds_toArray, List.set_cons_succ, List.set_cons_zero]
          refine qw_want rfl ?_ (fun w' hw' => ?_) ?_
          rotate_left
          · obtain ⟨k0, k1, k2, k3, k4, k5, k6, k7⟩ := HFx.out w' hw'
            unfold Oper.quietAt
            go_simp
            exact rfl
          simp only [Act.put, List.setIfInBounds_toArray, List.set_cons_succ, List.set_cons_zero]
          refine qw_want rfl ?_ (fun w' hw' => ?_) ?_
          rotate_left
          · unfold Oper.quietAt
            go_simp
            exact rfl
          simp only [Act.put, List.setIfInBounds_toArray, List.set_cons_succ, List.set_cons_zero]
          refine qw_want rfl ?_ (fun w' hw' => ?_) ?_
          rotate_left
          · unfold Oper.quietAt
            go_simp
            exact rfl
          simp only [Act.put, List.setIfInBounds_toArray, List.set_cons_succ, List.set_cons_zero]
          refine qw_skip (by rfl) ?_
          simp only [Act.put, List.setIfInBounds_toArray, List.set_cons_succ, List.set_cons_zero]
          refine qw_skip (by rfl) ?_
          simp only [Act.put, List.setIfInBounds_toArray, List.set_cons_succ, List.set_cons_zero]
          refine qw_skip (by rfl) ?_
          simp only [Act.put, List.setIfInBounds_toArray, List.set_cons_succ, List.set_cons_zero]
          refine qw_skip (by rfl) ?_
          simp only [Act.put, List.setIfInBounds_toArray, List.set_cons_succ, List.set_cons_zero]
          refine qw_skip (by rfl) ?_
          simp only [Act.put, List.setIfInBounds_toArray, List.set_cons_succ, List.set_cons_zero]
          refine qw_skip (by rfl) ?_
          simp only [Act.put, List.setIfInBounds_toArray, List.set_cons_succ, List.set_cons_zero]
          refine qw_skip (by rfl) ?_
          simp only [Act.put, List.setIfInBounds_toArray, List.set_cons_succ, List.set_cons_zero]
          refine qw_skip (by rfl) ?_
          simp only [Act.put, List.setIfInBounds_toArray, List.set_cons_succ, List.set_cons_zero]
          refine qw_skip (by rfl) ?_
          simp only [Act.put, List.setIfInBounds_toArray, List.set_cons_succ, List.set_cons_zero]
          refine qw_skip (by rfl) ?_
          simp only [Act.put, List.setIfInBounds_toArray, List.set_cons_succ, List.set_cons_zero]
          refine qw_skip (by rfl) ?_
          simp only [Act.put, List.setIfInBounds_toArray, List.set_cons_succ, List.set_cons_zero]
          refine qw_want rfl ?_ (fun w' hw' => ?_) ?_
          rotate_left
          · unfold Oper.quietAt
            go_simp
            exact rfl
          simp only [Act.put, List.setIfInBounds_toArray, List.set_cons_succ, List.set_cons_zero]
          refine qw_want rfl ?_ (fun w' hw' => ?_) ?_
          rotate_left
          · unfold Oper.quietAt
            go_simp
            exact rfl
          simp only [Act.put, List.setIfInBounds_toArray, List.set_cons_succ, List.set_cons_zero]
          refine qw_want rfl ?_ (fun w' hw' => ?_) ?_
          rotate_left
          · unfold Oper.quietAt
            go_simp
            exact rfl
          simp only [Act.put, List.setIfInBounds_toArray, List.set_cons_succ, List.set_cons_zero]
          refine qw_want rfl ?_ (fun w' hw' => ?_) ?_
          rotate_left
          · unfold Oper.quietAt
            go_simp
            exact rfl
          simp only [Act.put, List.setIfInBounds_toArray, List.set_cons_succ, List.set_cons_zero]
          refine qw_want rfl ?_ (fun w' hw' => ?_) ?_
          rotate_left
          · obtain ⟨k0, k1, k2, k3, k4, k5, k6, k7⟩ := HFx.out w' hw'
            unfold Oper.quietAt
            go_simp
            exact rfl
          simp only [Act.put, List.setIfInBounds_toArray, List.set_cons_succ, List.set_cons_zero]
          refine qw_want rfl ?_ (fun w' hw' => ?_) ?_
          rotate_left
          · unfold Oper.quietAt
            go_simp
            exact rfl
          simp only [Act.put, List.setIfInBounds_toArray, List.set_cons_succ, List.set_cons_zero]
          refine qw_want rfl ?_ (fun w' hw' => ?_) ?_
          rotate_left
          · unfold Oper.quietAt
            go_simp
            exact rfl
          simp only [Act.put, List.setIfInBounds_toArray, List.set_cons_succ, List.set_cons_zero]
          refine qw_want rfl ?_ (fun w' hw' => ?_) ?_
          rotate_left
          · unfold Oper.quietAt
            go_simp
            exact rfl
          simp only [Act.put, List.setIfInBounds_toArray, List.set_cons_succ, List.set_cons_zero]
          refine qw_want rfl ?_ (fun w' hw' => ?_) ?_
          rotate_left
          · unfold Oper.quietAt
            go_simp
            exact rfl
          simp only [Act.put, List.setIfInBounds_toArray, List.set_cons_succ, List.set_cons_zero]
          refine qw_want rfl ?_ (fun w' hw' => ?_) ?_
          rotate_left
          · obtain ⟨k0, k1, k2, k3, k4, k5, k6, k7⟩ := HFx.out w' hw'
            unfold Oper.quietAt
            go_simp
            exact rfl
          simp only [Act.put, List.setIfInBounds_toArray, List.set_cons_succ, List.set_cons_zero]
          refine qw_want rfl ?_ (fun w' hw' => ?_) ?_
          rotate_left
          · unfold Oper.quietAt
            go_simp
            exact rfl
          simp only [Act.put, List.setIfInBounds_toArray, List.set_cons_succ, List.set_cons_zero]
          refine qw_want rfl ?_ (fun w' hw' => ?_) ?_
          rotate_left
          · unfold Oper.quietAt
            go_simp
            exact rfl
          simp only [Act.put, List.setIfInBounds_toArray, List.set_cons_succ, List.set_cons_zero]
          refine qw_want rfl ?_ (fun w' hw' => ?_) ?_
          rotate_left
          · unfold Oper.quietAt
            go_simp
            exact rfl
          simp only [Act.put, List.setIfInBounds_toArray, List.set_cons_succ, List.set_cons_zero]
          refine qw_end (fun w5 hb5 => ?_)
          have HB5 := Lib.hid (HB.out.trans (hb5.mono HB.out.size))
          clear hb5
          go_wp2
          go_ret
          exact ⟨by rw [HE.out]; rfl, HB0.out.trans (HB5.out.mono HB0.out.size)⟩
theorem bit_ok (b : Bool) (w : World) : Calls Tryz.prog 36 #[.bool b] w fun e w' => e = .returned (.int .i64 (if b then 1 else 0)) ∧ w = w' := by
  cases b with
  | true =>
    go_enter Tryz.func36, Tryz.ntmps36
    go_wp2
    go_ret
    exact ⟨rfl, rfl⟩
  | false =>
    go_enter Tryz.func36, Tryz.ntmps36
    go_wp2
    go_ret
    exact ⟨rfl, rfl⟩
end Go.Proofs.YtkapbdjobfbhhaaGreat
namespace Go.Proofs.YtkapbdjobfbhhaaGreat
open Go.RowKit Go.Lib
theorem and_one_any (n : Int) : bits .and .i64 n 1 = n % 2 := by
  have h127 : (BitVec.ofInt 64 1).toNat = 2 ^ 1 - 1 := by decide
  have key : (BitVec.ofInt 64 n &&& BitVec.ofInt 64 1).toNat = (n % ((2 ^ 64 : Nat) : Int)).toNat % 2 ^ 1 := by
    rw [BitVec.toNat_and, BitVec.toNat_ofInt, h127, Nat.and_two_pow_sub_one_eq_mod]
  show IntKind.i64.wrap ((BitVec.ofInt 64 n &&& BitVec.ofInt 64 1).toNat : Nat) = n % 2
  rw [key, IntKind.wrap_i64]
  omega
theorem fits10_ok (v : Int) (w : World) : Calls Tryz.prog 38 #[.int .i64 v] w fun e w' => e = .returned (.bool (mayN v)) ∧ w = w' := by
  have e : mayN v = (decide ((-4611686018427387904 : Int) ≤ v) && decide (v ≤ 4611686018427387904)) := by unfold mayN; rw [Bool.decide_and]
  rw [e]
  clear e
  by_cases h1 : (-4611686018427387904 : Int) ≤ v
  · have d1 : decide ((-4611686018427387904 : Int) ≤ v) = true := decide_eq_true h1
    have d1' : decide (v ≥ (-4611686018427387904 : Int)) = true := decide_eq_true h1
    rw [d1]
    clear h1
    go_enter Tryz.func38, Tryz.ntmps38
    go_wp2
    go_ret
    exact ⟨by simp, rfl⟩
  · have d1 : decide ((-4611686018427387904 : Int) ≤ v) = false := decide_eq_false h1
    have d1' : decide (v ≥ (-4611686018427387904 : Int)) = false := decide_eq_false h1
    rw [d1]
    clear h1
    go_enter Tryz.func38, Tryz.ntmps38
    go_wp2
    go_ret
    exact ⟨by simp, rfl⟩
def atMostM (a b n : Int) : Bool := mayN a && mayN b && mayN n && decide (a - b ≤ n)
set_option maxHeartbeats 2000000 in
theorem atMost_ok (a b n : Int) (w : World) : Calls Tryz.prog 37 #[.int .i64 a, .int .i64 b, .int .i64 n] w fun e w' => e = .returned (.bool (atMostM a b n)) ∧ w = w' := by
  have ht : atMostM a b n = (mayN a && mayN b && mayN n && decide (a - b ≤ n)) := rfl
  cases ha : mayN a with
  | false =>
    have HE : Hid (atMostM a b n = false) := Lib.hid (by rw [ht, ha]; simp)
    have HA := Lib.hid ha
    clear ht ha
    go_enter Tryz.func37, Tryz.ntmps37
    go_wp2_with (go_at_call 38; refine (fits10_ok a _).mono ?_; rintro e w1 ⟨rfl, rfl⟩; rw [HA.out])
    go_ret
    exact ⟨by rw [HE.out]; rfl, rfl⟩
  | true =>
  cases hb : mayN b with
  | false =>
    have HE : Hid (atMostM a b n = false) := Lib.hid (by rw [ht, ha, hb]; simp)
    have HA := Lib.hid ha
    have HB := Lib.hid hb
    clear ht ha hb
    go_enter Tryz.func37, Tryz.ntmps37
    go_wp2_with fail
    refine (fits10_ok a _).mono ?_
    rintro e w1 ⟨rfl, rfl⟩
    rw [HA.out]
    go_wp2_with fail
    refine (fits10_ok b _).mono ?_
    rintro e w1 ⟨rfl, rfl⟩
    rw [HB.out]
    go_wp2
    go_ret
    exact ⟨by rw [HE.out]; rfl, rfl⟩
  | true =>
  cases hn : mayN n with
  | false =>
    have HE : Hid (atMostM a b n = false) := Lib.hid (by rw [ht, ha, hb, hn]; simp)
    have HA := Lib.hid ha
    have HB := Lib.hid hb
    have HN := Lib.hid hn
    clear ht ha hb hn
    go_enter Tryz.func37, Tryz.ntmps37
    go_wp2_with fail
    refine (fits10_ok a _).mono ?_
    rintro e w1 ⟨rfl, rfl⟩
    rw [HA.out]
    go_wp2_with fail
    refine (fits10_ok b _).mono ?_
    rintro e w1 ⟨rfl, rfl⟩
    rw [HB.out]
    go_wp2_with fail
    refine (fits10_ok n _).mono ?_
    rintro e w1 ⟨rfl, rfl⟩
    rw [HN.out]
    go_wp2
    go_ret
    exact ⟨by rw [HE.out]; rfl, rfl⟩
  | true =>
    have HE : Hid (atMostM a b n = decide (a - b ≤ n)) := Lib.hid (by rw [ht, ha, hb, hn]; simp)
    have HA := Lib.hid ha
    have HB := Lib.hid hb
    have HN := Lib.hid hn
    have ra := of_decide_eq_true ha
    have rb := of_decide_eq_true hb
    have rn := of_decide_eq_true hn
    clear ht ha hb hn
    go_enter Tryz.func37, Tryz.ntmps37
    go_wp2_with fail
    refine (fits10_ok a _).mono ?_
    rintro e w1 ⟨rfl, rfl⟩
    rw [HA.out]
    go_wp2_with fail
    refine (fits10_ok b _).mono ?_
    rintro e w1 ⟨rfl, rfl⟩
    rw [HB.out]
    go_wp2_with fail
    refine (fits10_ok n _).mono ?_
    rintro e w1 ⟨rfl, rfl⟩
    rw [HN.out]
    have e1 := and_one_any a
    have e2 := and_one_any b
    have e3 := and_one_any n
    have e4 : wrap64 (a % 2 - b % 2) = a % 2 - b % 2 := by unfold wrap64; omega
    have e5 : wrap64 (a % 2 - b % 2 - n % 2) = a % 2 - b % 2 - n % 2 := by unfold wrap64; omega
    go_upto_region 5 with fail
    clear e1 e2 e3 e4 e5
    have HM : Hid (∀ z : Int, z = max (min (a / 2 - b / 2 - n / 2) 4) (-4) → (a - b ≤ n ↔ 2 * z + (a % 2 - b % 2 - n % 2) ≤ 0)) := Lib.hid (fun z hz => by omega)
    obtain ⟨x, hx⟩ : ∃ x, a / 2 - b / 2 - n / 2 = x := ⟨_, rfl⟩
    obtain ⟨y, hy⟩ : ∃ y, a % 2 - b % 2 - n % 2 = y := ⟨_, rfl⟩
    have hy2 : -2 ≤ y ∧ y ≤ 1 := by omega
    rw [hx, hy] at HM ⊢
    clear ra rb rn hx hy
    by_cases h1 : 4 < x
    · have hif : (if 4 < x then (4 : Int) else x) = 4 := if_pos h1
      have HE2 : Hid (atMostM a b n = decide (8 + y ≤ 0)) := Lib.hid (by rw [HE.out]; exact decide_eq_decide.2 ((HM.out 4 (by omega)).trans (by omega)))
      have hw : wrap64 (8 + y) = 8 + y := by unfold wrap64; omega
      go_wp2_with fail
      all_goals first
        | omega
        | (go_ret; refine ⟨?_, rfl⟩; rw [HE2.out]; rfl)
        | (go_ret; refine ⟨?_, rfl⟩; rw [HE2.out]; refine ret_bool (decide_eq_decide.2 ?_); omega)
    · have hif : (if 4 < x then (4 : Int) else x) = x := if_neg h1
      by_cases h2 : -4 ≤ x
      · have hif2 : (if -4 ≤ x then x else (-4 : Int)) = x := if_pos h2
        have HE2 : Hid (atMostM a b n = decide (2 * x + y ≤ 0)) := Lib.hid (by rw [HE.out]; exact decide_eq_decide.2 (HM.out x (by omega)))
        have hw0 : wrap64 (2 * x) = 2 * x := by unfold wrap64; omega
        have hw : wrap64 (2 * x + y) = 2 * x + y := by unfold wrap64; omega
        go_wp2_with fail
        all_goals first
          | omega
          | (go_ret; refine ⟨?_, rfl⟩; rw [HE2.out]; rfl)
          | (go_ret; refine ⟨?_, rfl⟩; rw [HE2.out]; refine ret_bool (decide_eq_decide.2 ?_); omega)
      · have hif2 : (if -4 ≤ x then x else (-4 : Int)) = -4 := if_neg h2
        have HE2 : Hid (atMostM a b n = decide (-8 + y ≤ 0)) := Lib.hid (by rw [HE.out]; exact decide_eq_decide.2 ((HM.out (-4) (by omega)).trans (by omega)))
        have hw : wrap64 (-8 + y) = -8 + y := by unfold wrap64; omega
        go_wp2_with fail
        all_goals first
          | omega
          | (go_ret; refine ⟨?_, rfl⟩; rw [HE2.out]; rfl)
          | (go_ret; refine ⟨?_, rfl⟩; rw [HE2.out]; refine ret_bool (decide_eq_decide.2 ?_); omega)
end Go.Proofs.YtkapbdjobfbhhaaGreat

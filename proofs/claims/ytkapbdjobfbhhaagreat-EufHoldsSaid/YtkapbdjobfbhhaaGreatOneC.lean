/- One, whole: one contract for all its ways. -/
import Derived.Test.YtkapbdjobfbhhaaGreatWalk
import Derived.WideKeyPair
import Derived.DeepKeys4
import Derived.Deep.DeepCutAuto
namespace Go.Proofs.YtkapbdjobfbhhaaGreat
open Go.RowKit
open Go.Maps (Keyed)
theorem laidOut : laidOutB Tryz.prog = true := by kernel_rfl
theorem pair_key : Keyed Tryz.prog 136 := Go.Maps.Keyed.of_law (deep_law_laid laidOut (m := 3) (by decide) (of_decide_eq_true (by kernel_rfl)) (by kernel_rfl) (by kernel_rfl))
theorem pair_arr : Go.WideMaps.ArrKey Tryz.prog 136 3 2 := ⟨Tryz.underlying136, by kernel_rfl, by kernel_rfl, by kernel_rfl⟩
theorem int_wf {x : Int} (h0 : -9223372036854775808 ≤ x) (h1 : x ≤ 9223372036854775807) : (Lit.int .i64 x).wf = true := by
  simp [Lit.wf, IntKind.min, IntKind.max, IntKind.bits, IntKind.signed]; omega
theorem types_size : ∃ m, Tryz.prog.types.size = m + 1 := ⟨Tryz.prog.types.size - 1, by kernel_rfl⟩
theorem pair_key_of {x y : Int} (h0 : 0 ≤ x) (h1 : x ≤ 4096) (g0 : 0 ≤ y) (g1 : y ≤ 4096) : ∃ kl, keyOf Tryz.prog 136 (pairKey x y) = some kl :=
  ⟨_, Go.WideMaps.keyOf_pair pair_arr Tryz.underlying3 types_size (int_wf (by omega) (by omega)) (int_wf (by omega) (by omega))⟩
section
variable {w w' : World} {B bf bn bp m : Nat} {lj : Value} {N : Int → Value} {n : Int} {J : List Jn}
theorem one_out (h : FR w B bf bn bp lj N n J m) (x y : Int) (hxy : ¬ ((0 ≤ x ∧ x < n) ∧ (0 ≤ y ∧ y < n))) :
    Calls Tryz.prog 53 #[.pointer (some ⟨bf, 0, none⟩), .int .i64 x, .int .i64 y] w fun e w' => e = .returned (.bool false) ∧ Below w.heap.size w w' := by
  have hb3 : Below w.heap.size w (((w.alloc (.cells #[.pointer (some ⟨bf, 0, none⟩)] 76)).alloc (.cells #[.int .i64 y] 3)).alloc (.cells #[.bool false] 4)) :=
    (((Below.refl _ w).alloc (Nat.le_refl _) _).alloc (by simp) _).alloc (by simp; omega) _
  have h3 := h.below hb3
  have H3 := Lib.hid h3
  have HB3 := Lib.hid hb3
  clear h hb3 h3
  by_cases hx : 0 ≤ x ∧ x < n
  · have hy : ¬ (0 ≤ y ∧ y < n) := fun hy => hxy ⟨hx, hy⟩
    have d1 : decide (0 ≤ x ∧ x < n) = true := decide_eq_true hx
    have d2 : decide (0 ≤ y ∧ y < n) = false := decide_eq_false hy
    clear hx hy hxy
    go_enter Tryz.func53, Tryz.ntmps53
    go_wp2_with fail
    refine (is_ok H3.out _).mono ?_
    rintro e w1 ⟨rfl, rfl⟩
    rw [d1]
    go_wp2_with fail
    refine (is_ok H3.out _).mono ?_
    rintro e w1 ⟨rfl, rfl⟩
    rw [d2]
    go_wp2_with fail
    exact bodyPost_ret (v := .bool false) (by simp [results, Tryz.results53, go_sem]) rfl ⟨rfl, HB3.out⟩
  · have d1 : decide (0 ≤ x ∧ x < n) = false := decide_eq_false hx
    clear hx hxy
    go_enter Tryz.func53, Tryz.ntmps53
    go_wp2_with fail
    refine (is_ok H3.out _).mono ?_
    rintro e w1 ⟨rfl, rfl⟩
    rw [d1]
    go_wp2_with fail
    exact bodyPost_ret (v := .bool false) (by simp [results, Tryz.results53, go_sem]) rfl ⟨rfl, HB3.out⟩
def oneW (w : World) (bf : Nat) (y lo hi : Int) : World :=
  (((w.alloc (.cells #[.pointer (some ⟨bf, 0, none⟩)] 76)).alloc (.cells #[.int .i64 y] 3)).alloc (.cells #[.bool false] 4)).alloc (.cells #[.int .i64 lo, .int .i64 hi] 136)
theorem one_hit (h : FR w B bf bn bp lj N n J m) (x y : Int) (hx : 0 ≤ x ∧ x < n) (hy : 0 ≤ y ∧ y < n) (f : Value → Option Value) (hf : MapAt Tryz.prog 136 w bp m f) (hat : f (pairKey (min x y) (max x y)) = some (.bool true)) :
    Calls Tryz.prog 53 #[.pointer (some ⟨bf, 0, none⟩), .int .i64 x, .int .i64 y] w fun e w' => e = .returned (.bool true) ∧ Below w.heap.size w w' := by
  have hb3 : Below w.heap.size w (((w.alloc (.cells #[.pointer (some ⟨bf, 0, none⟩)] 76)).alloc (.cells #[.int .i64 y] 3)).alloc (.cells #[.bool false] 4)) :=
    (((Below.refl _ w).alloc (Nat.le_refl _) _).alloc (by simp) _).alloc (by simp; omega) _
  have h3 := h.below hb3
  have H3 := Lib.hid h3
  have HB3 := Lib.hid hb3
  have H0 := Lib.hid h
  clear h hb3 h3
  have d1 : decide (0 ≤ x ∧ x < n) = true := decide_eq_true hx
  have d2 : decide (0 ≤ y ∧ y < n) = true := decide_eq_true hy
  go_enter Tryz.func53, Tryz.ntmps53
  go_wp2_with fail
  refine (is_ok H3.out _).mono ?_
  rintro e w1 ⟨rfl, rfl⟩
  rw [d1]
  go_wp2_with fail
  refine (is_ok H3.out _).mono ?_
  rintro e w1 ⟨rfl, rfl⟩
  rw [d2]
  go_upto_region 3 with (fail)
  go_cut [7] (fun s7 wc => s7 = .pointer (some ⟨w.heap.size + 1 + 1 + 1, 0, none⟩) ∧ wc = oneW w bf y (min x y) (max x y))
  case first =>
    go_wp2
    all_goals
      go_meet
      refine ⟨rfl, ?_⟩
      unfold oneW
      first
        | (rw [show min x y = x by omega, show max x y = y by omega]; done)
        | (rw [show min x y = y by omega, show max x y = x by omega]; done)
        | (rw [show min x y = x by omega, show max x y = x by omega]; done)
  case rest =>
    obtain ⟨rfl, rfl⟩ := hcut
    have hsz4 : (oneW w bf y (min x y) (max x y)).heap.size = w.heap.size + 4 := by simp [oneW]
    have hb4 : Below w.heap.size w (oneW w bf y (min x y) (max x y)) := HB3.out.alloc (by simp; omega) _
    have h4 := H0.out.below hb4
    have hf4 := hf.below hb4 hf.lt
    have a0 : Blk (oneW w bf y (min x y) (max x y)) w.heap.size 76 #[.pointer (some ⟨bf, 0, none⟩)] := (((Blk.new w _ _).alloc _).alloc _).alloc _
    have a1 : Blk (oneW w bf y (min x y) (max x y)) (w.heap.size + 1 + 1) 4 #[.bool false] := (Blk.new_at (by simp) _ _).alloc _
    have a2 : Blk (oneW w bf y (min x y) (max x y)) (w.heap.size + 1 + 1 + 1) 136 #[.int .i64 (min x y), .int .i64 (max x y)] := Blk.new_at (by simp) _ _
    generalize oneW w bf y (min x y) (max x y) = W at *
    obtain ⟨kl, hkl⟩ := pair_key_of (x := min x y) (y := max x y) (by omega) (by have := H0.out.hn; omega) (by omega) (by have := H0.out.hn; omega)
    have hlook : ∀ d, (Instr.lookup 122 (.map (some bp)) (.agg #[.int .i64 (min x y), .int .i64 (max x y)]) false).run Tryz.prog (W.drewN d) = .ok (.bool true) (W.drewN d) := fun d => by
      have := (hf4.drewN d).look pair_key Tryz.underlying122 (zero_bool _) hkl false
      rw [hat] at this
      exact this
    have c0 := a0.cell 0
    have c1 := h4.blk.cell 3
    have c2 := a2.cell 0
    have c3 := a2.cell 1
    have c4 := a1.frozen 0
    have c5 := a1.cell 0
    simp only [List.getElem?_toArray, List.getElem?_cons_zero, List.getElem?_cons_succ] at c0 c1 c2 c3 c5
    have HB4 := Lib.hid hb4
    have A1 := Lib.hid a1
    clear h4 hf4 a0 a1 a2 hb4 hf hat
    generalize min x y = lo at *
    generalize max x y = hi at *
    go_wp2
    go_quiet (fail)
    go_wp2
    have z0 := ((A1.out.drewN nq).set_ 0 (.bool true)).cell 0
    simp at z0
    exact bodyPost_ret (v := .bool true) (by simp [results, Tryz.results53, go_sem, z0]) rfl ⟨rfl, (below_drewN HB4.out nq).setCell (p := ⟨w.heap.size + 1 + 1, 0, none⟩) (by simp; omega) _⟩
end
end Go.Proofs.YtkapbdjobfbhhaaGreat
namespace Go.Proofs.YtkapbdjobfbhhaaGreat
open Go.RowKit
open Go.Maps (Keyed)
attribute [local go_sem] Oper.semAt_some
structure OneX (w0 : World) (c3 c5 c6 c7 l D : Nat) (r : Loop) (B bf bn bp : Nat) (lj : Value) (N : Int → Value) (n : Int) (J : List Jn) (m : Nat) (y lo hi : Int) (V : List Stp) (W : World) : Prop where
  loop : LoopAt W l D r
  fr : FR W B bf bn bp lj N n J m
  x3 : Blk W c3 76 #[.pointer (some ⟨bf, 0, none⟩)]
  x5 : Blk W c5 3 #[.int .i64 y]
  x6 : Blk W c6 4 #[.bool false]
  x7 : Blk W c7 136 #[.int .i64 lo, .int .i64 hi]
  kept : Kept (fun _ => False) w0 W
  none_ : ∀ s ∈ V, s.node ≠ y
structure OneY (w0 : World) (c6 l D : Nat) (r : Loop) (B bf bn bp : Nat) (lj : Value) (N : Int → Value) (n : Int) (J : List Jn) (m : Nat) (x y : Int) (W : World) : Prop where
  loop : LoopAt W l D (doneRec r .ret)
  fr : FR W B bf bn bp lj N n J (m + 1)
  x6 : Blk W c6 4 #[.bool true]
  kept : Kept (fun b => b = bp) w0 W
  conn : Conn J x y
section
variable {w w' : World} {B bf bn bp m : Nat} {lj : Value} {N : Int → Value} {n : Int} {J : List Jn}
theorem FR.lts (h : FR w B bf bn bp lj N n J m) : bf < w.heap.size ∧ bn < w.heap.size ∧ bp < w.heap.size ∧ (∀ g, lj.ownBlock = some g → g < w.heap.size) ∧ ∀ x g, (N x).ownBlock = some g → g < w.heap.size := by
  obtain ⟨f, hf, _⟩ := h.near
  obtain ⟨q, hq, _⟩ := h.pairs
  exact ⟨h.blk.lt, hf.lt, hq.lt, fun g hg => (clip_lt h.own g hg).2, fun x g hg => (clip_lt (h.rows x) g hg).2⟩
theorem FR.apart_pairs (h : FR w B bf bn bp lj N n J m) : bf ≠ bp ∧ bn ≠ bp ∧ (∀ g, lj.ownBlock = some g → g ≠ bp) ∧ ∀ x g, (N x).ownBlock = some g → g ≠ bp := by
  obtain ⟨q, hq, _⟩ := h.pairs
  exact ⟨fun e => map_blk_ne hq h.blk e.symm, h.ne, fun g hg e => map_clip_ne hq h.own (e ▸ hg), fun x g hg e => map_clip_ne hq (h.rows x) (e ▸ hg)⟩
theorem OneX.keep {w0 : World} {c3 c5 c6 c7 l D : Nat} {r : Loop} {y lo hi : Int} {V : List Stp} {H : Nat} (h : OneX w0 c3 c5 c6 c7 l D r B bf bn bp lj N n J m y lo hi V w) (h0 : FR w0 B bf bn bp lj N n J m) (hw : w0.heap.size ≤ H)
    (hH : c3 < H ∧ c5 < H ∧ c6 < H ∧ c7 < H ∧ l < H ∧ D < H) (hk : Kept (fun b => H ≤ b ∧ ∀ cs, ¬ Blk w b 3 cs) w w') : OneX w0 c3 c5 c6 c7 l D r B bf bn bp lj N n J m y lo hi V w' := by
  obtain ⟨l1, l2, l3, l4, l5⟩ := h0.lts
  have hn : ∀ b, b < H → ¬ (H ≤ b ∧ ∀ cs, ¬ Blk w b 3 cs) := fun b hb hc => by omega
  exact ⟨h.loop.kept hk (hn _ (by omega)) (hn _ (by omega)), h.fr.keep hk (hn _ (by omega)) (hn _ (by omega)) (hn _ (by omega)) (fun g hg => hn _ (by have := l4 g hg; omega)) (fun x g hg => hn _ (by have := l5 x g hg; omega)),
    h.x3.kept hk (hn _ (by omega)), h.x5.kept hk (hn _ (by omega)), h.x6.kept hk (hn _ (by omega)), h.x7.kept hk (hn _ (by omega)), h.kept.then_ hk (fun b hb hs => hn b (by omega) hs), h.none_⟩
theorem FR.mono {m' : Nat} (h : FR w B bf bn bp lj N n J m) (hm : m ≤ m') : FR w B bf bn bp lj N n J m' := by
  obtain ⟨f, hf, hf2⟩ := h.near
  obtain ⟨q, hq, hq2⟩ := h.pairs
  exact { h with near := ⟨f, hf.mono hm, hf2⟩, pairs := ⟨q, hq.mono hm, hq2⟩, len := Nat.le_trans h.len hm }
theorem FR.more (h : FR w B bf bn bp lj N n J m) : FR w B bf bn bp lj N n J (m + 1) := h.mono (Nat.le_succ _)
theorem FR.newpair (h : FR w B bf bn bp lj N n J m) (hk : Kept (fun b => b = bp) w w') {g : Value → Option Value} (hg : MapAt Tryz.prog 136 w' bp (m + 1) g) (hc : ∀ x y, g (pairKey x y) = none ∨ (g (pairKey x y) = some (.bool true) ∧ Conn J x y)) : FR w' B bf bn bp lj N n J (m + 1) := by
  obtain ⟨p1, p2, p3, p4⟩ := h.apart_pairs
  obtain ⟨f, hf, hf2⟩ := h.near
  exact { blk := h.blk.kept hk p1, own := clip_kept h.own hk p3, near := ⟨f, (hf.kept hk p2).mono (Nat.le_succ _), hf2⟩, rows := fun x => clip_kept (h.rows x) hk (p4 x), apart := h.apart, pairs := ⟨g, hg, hc⟩, hbf := h.hbf, hbn := h.hbn, hbp := h.hbp, ne := h.ne, fine := h.fine, h0 := h.h0, hn := h.hn, len := Nat.le_succ_of_le h.len }
end
open Classical in
noncomputable def putFn (q : Value → Option Value) (k u : Value) (v : Value) : Option Value := if v = k then some u else q v
theorem putFn_at (q : Value → Option Value) (k u : Value) : putFn q k u k = some u := if_pos rfl
theorem putFn_far (q : Value → Option Value) (k u v : Value) (h : v ≠ k) : putFn q k u v = q v := if_neg h
theorem pairKey_inj {a b x y : Int} (h : pairKey a b = pairKey x y) : a = x ∧ b = y := by
  unfold pairKey at h
  simpa using h
set_option maxRecDepth 100000 in
set_option maxHeartbeats 2000000 in
theorem one_walk {w : World} {B bf bn bp m : Nat} {lj : Value} {N : Int → Value} {n : Int} {J : List Jn} (h : FR w B bf bn bp lj N n J m) (hm : m ≤ 1000000) (x y : Int) (hx : 0 ≤ x ∧ x < n) (hy : 0 ≤ y ∧ y < n)
    (f : Value → Option Value) (hf : MapAt Tryz.prog 136 w bp m f) (hat : f (pairKey (min x y) (max x y)) = none) :
    Calls Tryz.prog 53 #[.pointer (some ⟨bf, 0, none⟩), .int .i64 x, .int .i64 y] w fun e w' => e = .returned (.bool (decide (cls J x = cls J y))) ∧ FR w' B bf bn bp lj N n J (m + 1) ∧ Kept (fun b => b = bp) w w' := by
  have hb3 : Below w.heap.size w (((w.alloc (.cells #[.pointer (some ⟨bf, 0, none⟩)] 76)).alloc (.cells #[.int .i64 y] 3)).alloc (.cells #[.bool false] 4)) :=
    (((Below.refl _ w).alloc (Nat.le_refl _) _).alloc (by simp) _).alloc (by simp; omega) _
  have h3 := h.below hb3
  have H3 := Lib.hid h3
  have HB3 := Lib.hid hb3
  have H0 := Lib.hid h
  clear h hb3 h3
  have d1 : decide (0 ≤ x ∧ x < n) = true := decide_eq_true hx
  have d2 : decide (0 ≤ y ∧ y < n) = true := decide_eq_true hy
  refine callsIn_wide.1 (callsIn_of_wp_marks (n := 2) Tryz.func53 rfl trivial (wpIn_wide.2 ?_) rfl)
  simp only [Tryz.ntmps53, List.size_toArray, List.length_cons, List.length_nil, Nat.reduceAdd, Nat.reduceSub, Array.replicate_succ, Array.replicate_zero, List.push_toArray, List.append_toArray, List.nil_append, List.cons_append]
  go_wp2_with fail
  refine (is_ok H3.out _).mono ?_
  rintro e w1 ⟨rfl, rfl⟩
  rw [d1]
  go_wp2_with fail
  refine (is_ok H3.out _).mono ?_
  rintro e w1 ⟨rfl, rfl⟩
  rw [d2]
  go_upto_region 3 with (fail)
  go_cut [7] from 9 to 44 (fun s7 wc => s7 = .pointer (some ⟨w.heap.size + 1 + 1 + 1, 0, none⟩) ∧ wc = oneW w bf y (min x y) (max x y))
  case first =>
    go_wp2
    all_goals
      go_meet
      refine ⟨rfl, ?_⟩
      unfold oneW
      first
        | (rw [show min x y = x by omega, show max x y = y by omega]; done)
        | (rw [show min x y = y by omega, show max x y = x by omega]; done)
        | (rw [show min x y = x by omega, show max x y = x by omega]; done)
  case rest =>
    obtain ⟨rfl, rfl⟩ := hcut
    have hsz4 : (oneW w bf y (min x y) (max x y)).heap.size = w.heap.size + 4 := by simp [oneW]
    have hb4 : Below w.heap.size w (oneW w bf y (min x y) (max x y)) := HB3.out.alloc (by simp; omega) _
    have h4 := H0.out.below hb4
    have hf4 := hf.below hb4 hf.lt
    have a0 : Blk (oneW w bf y (min x y) (max x y)) w.heap.size 76 #[.pointer (some ⟨bf, 0, none⟩)] := (((Blk.new w _ _).alloc _).alloc _).alloc _
    have a5 : Blk (oneW w bf y (min x y) (max x y)) (w.heap.size + 1) 3 #[.int .i64 y] := ((Blk.new_at (by simp) _ _).alloc _).alloc _
    have a1 : Blk (oneW w bf y (min x y) (max x y)) (w.heap.size + 1 + 1) 4 #[.bool false] := (Blk.new_at (by simp) _ _).alloc _
    have a2 : Blk (oneW w bf y (min x y) (max x y)) (w.heap.size + 1 + 1 + 1) 136 #[.int .i64 (min x y), .int .i64 (max x y)] := Blk.new_at (by simp) _ _
    generalize oneW w bf y (min x y) (max x y) = W at *
    obtain ⟨kl, hkl⟩ := pair_key_of (x := min x y) (y := max x y) (by omega) (by have := H0.out.hn; omega) (by omega) (by have := H0.out.hn; omega)
    have hlook : ∀ d, (Instr.lookup 122 (.map (some bp)) (.agg #[.int .i64 (min x y), .int .i64 (max x y)]) false).run Tryz.prog (W.drewN d) = .ok (.bool false) (W.drewN d) := fun d => by
      have := (hf4.drewN d).look pair_key Tryz.underlying122 (zero_bool _) hkl false
      rw [hat] at this
      exact this
    have c0 := a0.cell 0
    have c1 := h4.blk.cell 3
    have c2 := a2.cell 0
    have c3 := a2.cell 1
    simp only [List.getElem?_toArray, List.getElem?_cons_zero, List.getElem?_cons_succ] at c0 c1 c2 c3
    have HB4 := Lib.hid hb4
    have HF4 := Lib.hid h4
    have A0 := Lib.hid a0
    have A1 := Lib.hid a1
    have A2 := Lib.hid a2
    have A5 := Lib.hid a5
    have hlohi : (min x y = x ∧ max x y = y) ∨ (min x y = y ∧ max x y = x) := by omega
    have HLH := Lib.hid hlohi
    clear h4 hf4 a0 a1 a2 a5 hb4 hf hat hlohi
    generalize min x y = lo at *
    generalize max x y = hi at *
    go_wp2
    go_quiet (fail)
    go_wp2
    obtain ⟨W3, hW3⟩ : ∃ W3, ((W.drewN nq).alloc (.cells #[.pointer (some ⟨bf, 0, none⟩)] 76)).alloc (.cells #[.int .i64 x] 3) = W3 := ⟨_, rfl⟩
    have hs3 : W3.heap.size = W.heap.size + 2 := by rw [← hW3]; simp
    have hbW : Below W.heap.size W W3 := by rw [← hW3]; exact ((below_drewN (Below.refl _ W) nq).alloc (by simp) _).alloc (by simp) _
    have hf3 := HF4.out.below hbW
    have x2 : Blk W3 W.heap.size 76 #[.pointer (some ⟨bf, 0, none⟩)] := by rw [← hW3]; exact (Blk.new_at (by simp) _ _).alloc _
    have x1 : Blk W3 (W.heap.size + 1) 3 #[.int .i64 x] := by rw [← hW3]; exact Blk.new_at (by simp) _ _
    have y0 := A0.out.below hbW A0.out.lt
    have y1 := A1.out.below hbW A1.out.lt
    have y2 := A2.out.below hbW A2.out.lt
    have y5 := A5.out.below hbW A5.out.lt
    have hb3 : Kept (fun _ => False) w W3 := (Kept.of_below HB4.out).then_below hbW
    rw [hW3]
    clear hW3 hbW c0 c1 c2 c3 hlook A0 A1 A2 A5 HF4 HB4 H3 HB3
    rw [hsz4] at x1 x2
    have hbf := hf3.blk.lt
    have Hf3 := Lib.hid hf3
    have X1 := Lib.hid x1
    have X2 := Lib.hid x2
    refine wpIn_wide.1 (rangeFunc_wide (n := 2) (gf := 88) rfl (fun _ _ => by simp [invoke, go_sem]) fun fn r hr => ?_)
    have e1 := congrArg Loop.tmps hr
    have e2 := congrArg Loop.params hr
    have e3 := congrArg Loop.assign hr
    have e4 := congrArg Loop.body hr
    have e5 := congrArg Loop.state hr
    have e6 := congrArg Loop.pending hr
    simp only [loopRec] at e1 e2 e3 e4 e5 e6
    clear hr
    have hloop := LoopAt.new W3 r
    have hbL : Below W3.heap.size W3 ((W3.alloc (.deferred (some []))).alloc (.loop r)) := ((Below.refl _ W3).alloc (Nat.le_refl _) _).alloc (by simp) _
    have hszL : ((W3.alloc (.deferred (some []))).alloc (.loop r)).heap.size = W3.heap.size + 2 := by simp
    generalize (W3.alloc (.deferred (some []))).alloc (.loop r) = WL at *
    have hfL := Hf3.out.below hbL
    have x1' := X1.out.below hbL X1.out.lt
    have x2' := X2.out.below hbL X2.out.lt
    have hNK : NK WL B bf bn bp lj N n J m (w.heap.size + 4 + 1) (w.heap.size + 4) x := ⟨hfL.blk, hfL.near, hfL.rows, x1', x2'⟩
    have y0' := y0.below hbL y0.lt
    have y1' := y1.below hbL y1.lt
    have y2' := y2.below hbL y2.lt
    have y5' := y5.below hbL y5.lt
    have hbk := hb3.then_below hbL
    have hL : w.heap.size + 6 ≤ W3.heap.size := by omega
    generalize W3.heap.size = L at *
    clear hs3 hsz4
    refine callsIn_wide.2 ((walk_iter (L + 1) H0.out.fine hx H0.out.hn (fun b => b = L + 1 ∨ b = bp ∨ b = w.heap.size + 1 + 1) ?_ WL hNK
      (OneX w w.heap.size (w.heap.size + 1) (w.heap.size + 1 + 1) (w.heap.size + 1 + 1 + 1) (L + 1) L r B bf bn bp lj N n J m y lo hi)
      (OneY w (w.heap.size + 1 + 1) (L + 1) L r B bf bn bp lj N n J m x y) ?_ ?_ ?_).mono ?_)
    · rintro b hb hT
      obtain ⟨l1, l2, l3, l4, l5⟩ := H0.out.lts
      obtain ⟨p1, p2, p3, p4⟩ := H0.out.apart_pairs
      rcases hb with rfl | rfl | rfl | rfl | ⟨z, hz⟩
      · rcases hT with h | h | h
        · omega
        · exact p1 h
        · omega
      · rcases hT with h | h | h
        · omega
        · exact p2 h
        · omega
      · rcases hT with h | h | h <;> omega
      · rcases hT with h | h | h <;> omega
      · have := l5 z b hz
        rcases hT with h | h | h
        · omega
        · exact p4 z b hz h
        · omega
    · exact ⟨hloop, hfL, y0', y5', y1', y2', hbk, fun s hs => by cases hs⟩
    · intro V W1 W2 h1 hk
      exact h1.keep H0.out (by omega) ⟨by omega, by omega, by omega, by omega, by omega, by omega⟩ hk
    · intro V s O k W1 hs htk hOk hx1 hnk
      have hconn := (hs.conn k s hOk).symm
      clear htk hOk hs hnk
      refine ⟨_, _, _, _, run_yield hx1.loop.rec_ (by rw [e2]; rfl), ?_⟩
      rw [e1, e2, e3, e4]
      clear e1 e2 e3 e4
      refine roundIn_of_wpIn trivial ?_
      simp only [List.zip_toArray, List.zip_cons_cons, List.zip_nil_right, List.foldl_toArray', List.foldl_cons, List.foldl_nil, List.setIfInBounds_toArray, List.set_cons_succ, List.set_cons_zero]
      unfold stpVal
      have hW1 := hx1.kept.size
      obtain ⟨l1, l2, l3, l4, l5⟩ := H0.out.lts
      have hfc := hx1.fr.blk
      gi_wp2
      have hs1 := hx1.loop.lt
      have ha1 := Kept.alloc (Kept.refl (fun _ => False) W1) (.cells #[.int .i64 s.node, .int .i64 s.from_, .int .i64 s.reason] 134)
      have hb1 := Blk.new W1 134 #[.int .i64 s.node, .int .i64 s.from_, .int .i64 s.reason]
      have hsz1 : W1.heap.size < (W1.alloc (.cells #[.int .i64 s.node, .int .i64 s.from_, .int .i64 s.reason] 134)).heap.size := by simp
      generalize W1.alloc (.cells #[.int .i64 s.node, .int .i64 s.from_, .int .i64 s.reason] 134) = W2 at *
      have hl2 := hx1.loop.kept ha1 id id
      have hk2 := (ha1.mono (S' := fun b => b = L + 1) fun _ _ h => h.elim).then_ (Kept.putObj W2 (L + 1) (.loop (busyRec r))) (fun _ _ h => h)
      have hl3 := hl2.put (busyRec r)
      have hbr := hl2.begin_ (P := Tryz.prog) e5
      have hb3 := hb1.kept (Kept.putObj W2 (L + 1) (.loop (busyRec r))) (by omega)
      have hsz3 := (Kept.putObj W2 (L + 1) (.loop (busyRec r))).size
      generalize W2.putObj (L + 1) (.loop (busyRec r)) = W4 at *
      have hL1 : ∀ b, b < w.heap.size → ¬ b = L + 1 := fun b hb => by omega
      have f4 := hx1.fr.keep hk2 (hL1 _ l1) (hL1 _ l2) (hL1 _ l3) (fun g hg => hL1 _ (l4 g hg)) (fun x g hg => hL1 _ (l5 x g hg))
      have z3 := hx1.x3.kept hk2 (by omega)
      have z5 := hx1.x5.kept hk2 (by omega)
      have z6 := hx1.x6.kept hk2 (by omega)
      have z7 := hx1.x7.kept hk2 (by omega)
      have c3 := z3.cell 0
      have c5 := z5.cell 0
      have c7 := z7.cell 0
      have c8 := z7.cell 1
      have cb := hb3.cell 0
      have cf := f4.blk.cell 3
      simp only [List.getElem?_toArray, List.getElem?_cons_zero, List.getElem?_cons_succ] at c3 c5 c7 c8 cb cf
      have F4 := Lib.hid f4
      have HX := Lib.hid hx1
      have HK := Lib.hid hk2
      have L3 := Lib.hid hl3
      clear f4 hx1 hk2 hl3 hl2
      refine ⟨W4, hbr, ?_⟩
      clear hbr
      by_cases hsy : s.node = y
      · have dy : (s.node == y) = true := by simpa using hsy
        obtain ⟨q, hq, hq2⟩ := F4.out.pairs
        obtain ⟨w5, hst, hq3, hg5⟩ := hq.drew.store pair_key Tryz.underlying122 (by unfold maxLen; omega) hkl (.bool true) (g := putFn q (pairKey lo hi) (.bool true)) (putFn_at _ _ _) (fun v hv => putFn_far _ _ _ v hv)
        have p6 : w.heap.size + 1 + 1 ≠ bp := by omega
        have g5 := grown_undrew hg5
        have z6' := z6.grown g5 (fun e => p6 (by injection e))
        have c6 := z6'.cell 0
        have c6f := z6'.frozen 0
        simp only [List.getElem?_toArray, List.getElem?_cons_zero] at c6
        have HQ3 := Lib.hid hq3
        have HQ2 := Lib.hid hq2
        have G5 := Lib.hid g5
        have Hsy := Lib.hid hsy
        clear hq3 hq2 hg5 hq g5
        have fin_ : ∀ a' : Act, roundPost Tryz.prog (L + 1) (fun e W' => Kept (mayT WL.heap.size (fun b => b = L + 1 ∨ b = bp ∨ b = w.heap.size + 1 + 1) W1) W1 W' ∧
            ((e = .returned (.bool true) ∧ OneX w w.heap.size (w.heap.size + 1) (w.heap.size + 1 + 1) (w.heap.size + 1 + 1 + 1) (L + 1) L r B bf bn bp lj N n J m y lo hi (V ++ [s]) W') ∨
            (e = .returned (.bool false) ∧ OneY w (w.heap.size + 1 + 1) (L + 1) L r B bf bn bp lj N n J m x y W'))) .ret a' (w5.setCell ⟨w.heap.size + 1 + 1, 0, none⟩ (.bool true)) := by
          intro a'
          have hxy : Conn J x y := Hsy.out ▸ hconn
          have hpair : ∀ x' y', putFn q (pairKey lo hi) (.bool true) (pairKey x' y') = none ∨ (putFn q (pairKey lo hi) (.bool true) (pairKey x' y') = some (.bool true) ∧ Conn J x' y') := by
            intro x' y'
            by_cases he : pairKey x' y' = pairKey lo hi
            · refine .inr ⟨he ▸ putFn_at _ _ _, ?_⟩
              obtain ⟨rfl, rfl⟩ := pairKey_inj he
              rcases HLH.out with ⟨rfl, rfl⟩ | ⟨rfl, rfl⟩
              · exact hxy
              · exact hxy.symm
            · rw [putFn_far _ _ _ _ he]
              exact HQ2.out x' y'
          have k5 : Kept (fun b => b = bp) W4 w5 := (Kept.refl _ W4).grown G5.out (fun k hk => .inl (by injection hk with hk; exact hk.symm))
          have f5 := F4.out.newpair k5 HQ3.out hpair
          have k6 : Kept (fun b => b = w.heap.size + 1 + 1) w5 (w5.setCell ⟨w.heap.size + 1 + 1, 0, none⟩ (.bool true)) := Kept.set1 _ _ _ _
          have z7' := z6'.set_ 0 (.bool true)
          have lsz := L3.out.lt
          generalize w5.setCell ⟨w.heap.size + 1 + 1, 0, none⟩ (.bool true) = w6 at *
          have l6 := (L3.out.kept k5 (by omega) (by omega)).kept k6 (by omega) (by omega)
          have k7 := Kept.putObj w6 (L + 1) (.loop (doneRec r .ret))
          have f6 := f5.keep k6 (by omega) (by omega) (by omega) (fun g hg => by have := l4 g hg; omega) (fun x g hg => by have := l5 x g hg; omega)
          have f7 := f6.keep k7 (by omega) (by omega) (by omega) (fun g hg => by have := l4 g hg; omega) (fun x g hg => by have := l5 x g hg; omega)
          have kk : Kept (fun b => b = L + 1 ∨ b = bp ∨ b = w.heap.size + 1 + 1) W1 (w6.putObj (L + 1) (.loop (doneRec r .ret))) :=
            (((HK.out.mono (fun _ _ h => .inl h)).trans (k5.mono (fun _ _ h => .inr (.inl h)))).trans (k6.mono (fun _ _ h => .inr (.inr h)))).trans (k7.mono (fun _ _ h => .inl h))
          refine ⟨_, _, l6.stop_ .ret, kk.mono (fun b _ hb => .inl ⟨by omega, hb⟩), .inr ⟨rfl, l6.put _, f7, ?_, (HX.out.kept.mono (S' := fun b => b = bp) (fun _ _ h => h.elim)).then_ kk (fun i hi e => ?_), hxy⟩⟩
          · have := z7'.kept k7 (by omega)
            simpa using this
          · rcases e with e | e | e
            · omega
            · exact e
            · omega
        have Fin := Lib.hid fin_
        clear fin_
        unfold pairKey at hst
        gi_wp2
        gi_region
        all_goals gi_wp2
        all_goals exact Fin.out _
      · have dy : (s.node == y) = false := by simpa using hsy
        gi_wp2
        have hk6 : Kept (fun b => b = L + 1) W1 (W4.putObj (L + 1) (.loop r)) := HK.out.then_ (Kept.putObj W4 (L + 1) (.loop r)) (fun _ _ h => h)
        refine ⟨_, _, L3.out.end_ e5 e6, hk6.mono (fun b _ hb => .inl ⟨by omega, .inl hb⟩), .inl ⟨rfl, L3.out.put r, HX.out.fr.keep hk6 (hL1 _ l1) (hL1 _ l2) (hL1 _ l3) (fun g hg => hL1 _ (l4 g hg)) (fun x g hg => hL1 _ (l5 x g hg)),
          HX.out.x3.kept hk6 (by omega), HX.out.x5.kept hk6 (by omega), HX.out.x6.kept hk6 (by omega), HX.out.x7.kept hk6 (by omega), HX.out.kept.then_ hk6 (fun i hi e => absurd e (by omega)), ?_⟩⟩
        intro u hu
        rcases List.mem_append.1 hu with hu | hu
        · exact HX.out.none_ u hu
        · rw [List.mem_singleton.1 hu]
          exact hsy
    · clear e1 e2 e3 e4
      obtain ⟨l1, l2, l3, l4, l5⟩ := H0.out.lts
      rintro e W' ⟨rfl, ⟨O, hs, hx1⟩ | hy1⟩
      · have hcl : decide (cls J x = cls J y) = false := by
          simp only [decide_eq_false_iff_not]
          intro hc
          obtain ⟨s, hs1, hs2⟩ := List.mem_map.1 (hs.full (conn_cls J hc))
          exact hx1.none_ s hs1 hs2
        have Hcl := Lib.hid hcl
        refine ⟨none, _, hx1.loop.over_ e5 e6, ?_⟩
        have k7 := Kept.putObj W' (L + 1) (.loop (overRec r))
        have l7 := hx1.loop.put (overRec r)
        have z6 := hx1.x6.kept k7 (by omega)
        have f7 := hx1.fr.keep k7 (by omega) (by omega) (by omega) (fun g hg => by have := l4 g hg; omega) (fun x g hg => by have := l5 x g hg; omega)
        have kk7 := hx1.kept.then_ k7 (fun i hi e => absurd e (by omega))
        generalize W'.putObj (L + 1) (.loop (overRec r)) = W7 at *
        have x0 := z6.cell 0
        have x1 := z6.frozen 0
        simp only [List.getElem?_toArray, List.getElem?_cons_zero] at x0
        have F7 := Lib.hid f7
        have K7 := Lib.hid kk7
        have L7 := Lib.hid l7
        clear hs hx1 f7 kk7 l7 k7 hcl
        go_wp2
        have k8 := Kept.set1 W7 (w.heap.size + 1 + 1) 0 (.bool false)
        have z8 := z6.set_ 0 (.bool false)
        have f8 := F7.out.keep k8 (by omega) (by omega) (by omega) (fun g hg => by have := l4 g hg; omega) (fun x g hg => by have := l5 x g hg; omega)
        have l8 := L7.out.kept k8 (by omega) (by omega)
        have kk8 := K7.out.then_ k8 (fun i hi e => absurd e (by omega))
        generalize W7.setCell ⟨w.heap.size + 1 + 1, 0, none⟩ (.bool false) = W8 at *
        have k9 := Kept.putObj W8 L (.deferred none)
        have x9 := (z8.kept k9 (by omega)).cell 0
        simp at x9
        rw [Hcl.out]
        refine ⟨by simp, .inl ⟨_, _, rfl, run_takeDeferred l8.def_, ?_⟩⟩
        refine ⟨.bool false, by simp [results, Tryz.results53, go_sem, x9], rfl, (f8.keep k9 (by omega) (by omega) (by omega) (fun g hg => by have := l4 g hg; omega) (fun x g hg => by have := l5 x g hg; omega)).more, (kk8.then_ k9 (fun i hi e => absurd e (by omega))).mono (fun _ _ h => h.elim)⟩
      · have Hcl := Lib.hid (decide_eq_true (cls_conn hy1.conn))
        refine ⟨some .ret, _, hy1.loop.over_done, ?_⟩
        have k7 := Kept.putObj W' (L + 1) (.loop (overRec (doneRec r .ret)))
        have l7 := hy1.loop.put (overRec (doneRec r .ret))
        have z6 := hy1.x6.kept k7 (by omega)
        have f7 := hy1.fr.keep k7 (by omega) (by omega) (by omega) (fun g hg => by have := l4 g hg; omega) (fun x g hg => by have := l5 x g hg; omega)
        have kk7 := hy1.kept.then_ k7 (fun i hi e => absurd e (by omega))
        generalize W'.putObj (L + 1) (.loop (overRec (doneRec r .ret))) = W7 at *
        have x0 := z6.cell 0
        have x1 := z6.frozen 0
        simp only [List.getElem?_toArray, List.getElem?_cons_zero] at x0
        have F7 := Lib.hid f7
        have K7 := Lib.hid kk7
        have L7 := Lib.hid l7
        clear hy1 f7 kk7 l7 k7
        refine wpIn_wide.2 ?_
        go_wp2
        have k9 := Kept.putObj W7 L (.deferred none)
        have x9 := (z6.kept k9 (by omega)).cell 0
        simp at x9
        rw [Hcl.out]
        refine ⟨by simp, .inl ⟨_, _, rfl, run_takeDeferred L7.out.def_, ?_⟩⟩
        refine ⟨.bool true, by simp [results, Tryz.results53, go_sem, x9], rfl, F7.out.keep k9 (by omega) (by omega) (by omega) (fun g hg => by have := l4 g hg; omega) (fun x g hg => by have := l5 x g hg; omega), K7.out.then_ k9 (fun i hi e => absurd e (by omega))⟩
end Go.Proofs.YtkapbdjobfbhhaaGreat
namespace Go.Proofs.YtkapbdjobfbhhaaGreat
open Go.RowKit
open Go.Maps (Keyed)
def oneM (n : Int) (J : List Jn) (x y : Int) : Bool := decide ((0 ≤ x ∧ x < n) ∧ (0 ≤ y ∧ y < n) ∧ cls J x = cls J y)
section
variable {w : World} {B bf bn bp m : Nat} {lj : Value} {N : Int → Value} {n : Int} {J : List Jn}
theorem one_ok (h : FR w B bf bn bp lj N n J m) (hm : m ≤ 1000000) (x y : Int) :
    Calls Tryz.prog 53 #[.pointer (some ⟨bf, 0, none⟩), .int .i64 x, .int .i64 y] w fun e w' => e = .returned (.bool (oneM n J x y)) ∧ FR w' B bf bn bp lj N n J (m + 1) ∧ Kept (fun b => b = bp) w w' := by
  have hlow : ∀ w', Below w.heap.size w w' → FR w' B bf bn bp lj N n J (m + 1) ∧ Kept (fun b => b = bp) w w' := fun w' hb => ⟨(h.below hb).more, (Kept.of_below hb).mono fun _ _ h => h⟩
  by_cases hxy : (0 ≤ x ∧ x < n) ∧ (0 ≤ y ∧ y < n)
  · obtain ⟨f, hf, hf2⟩ := h.pairs
    rcases hf2 (min x y) (max x y) with hn | ⟨hs, hc⟩
    · refine (one_walk h hm x y hxy.1 hxy.2 f hf hn).mono ?_
      rintro e w' ⟨rfl, h1, h2⟩
      refine ⟨?_, h1, h2⟩
      unfold oneM
      simp only [hxy.1, hxy.2, true_and, and_self]
    · refine (one_hit h x y hxy.1 hxy.2 f hf hs).mono ?_
      rintro e w' ⟨rfl, hb⟩
      refine ⟨?_, hlow w' hb⟩
      have hcl : cls J x = cls J y := by
        have := cls_conn hc
        rcases Int.le_total x y with hle | hle
        · rwa [Int.min_eq_left hle, Int.max_eq_right hle] at this
        · rw [Int.min_eq_right hle, Int.max_eq_left hle] at this
          exact this.symm
      rw [show oneM n J x y = true from decide_eq_true ⟨hxy.1, hxy.2, hcl⟩]
  · refine (one_out h x y hxy).mono ?_
    rintro e w' ⟨rfl, hb⟩
    refine ⟨?_, hlow w' hb⟩
    rw [show oneM n J x y = false from decide_eq_false fun hc => hxy ⟨hc.1, hc.2.1⟩]
end
end Go.Proofs.YtkapbdjobfbhhaaGreat

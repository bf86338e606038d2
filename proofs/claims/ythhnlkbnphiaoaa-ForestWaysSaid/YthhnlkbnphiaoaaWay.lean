/- Way. -/
import Derived.Test.YthhnlkbnphiaoaaOneC
import Derived.WalkMore
namespace Go.Proofs.Ythhnlkbnphiaoaa
open Go.RowKit
open Go.Maps (Keyed)
attribute [local go_sem] Oper.semAt_some

/-- Where each node was come to. -/
def comeFn (V : List Stp) (v : Value) : Option Value := match v with
  | .int .i64 x => (V.find? (fun s => s.node = x)).map stpVal
  | _ => none
theorem comeFn_at {V : List Stp} (hn : (V.map Stp.node).Nodup) {i : Nat} {s : Stp} (h : V[i]? = some s) : comeFn V (.int .i64 s.node) = some (stpVal s) := by
  unfold comeFn
  have : V.find? (fun t => t.node = s.node) = some s := by
    induction V generalizing i with
    | nil => cases h
    | cons v V ih =>
      rw [List.map_cons, List.nodup_cons] at hn
      rw [List.find?_cons]
      cases i with
      | zero =>
        simp only [List.getElem?_cons_zero, Option.some.injEq] at h
        subst h
        simp
      | succ i =>
        rw [List.getElem?_cons_succ] at h
        have hm : s.node ∈ V.map Stp.node := List.mem_map.2 ⟨s, List.mem_of_getElem? h, rfl⟩
        have : ¬ v.node = s.node := fun e => hn.1 (e ▸ hm)
        simp only [this, decide_false]
        exact ih hn.2 h
  show Option.map stpVal (V.find? (fun t => t.node = s.node)) = _
  rw [this]
  rfl
theorem comeFn_none {V : List Stp} {x : Int} (h : ∀ s ∈ V, s.node ≠ x) : comeFn V (.int .i64 x) = none := by
  unfold comeFn
  show Option.map stpVal (V.find? (fun t => t.node = x)) = _
  rw [List.find?_eq_none.2 (fun s hs => by simpa using h s hs)]
  rfl
theorem comeFn_new {V : List Stp} {s : Stp} (h : ∀ u ∈ V, u.node ≠ s.node) : comeFn (V ++ [s]) (.int .i64 s.node) = some (stpVal s) := by
  show Option.map stpVal ((V ++ [s]).find? (fun t => t.node = s.node)) = _
  rw [List.find?_append, List.find?_eq_none.2 (fun u hu => by simpa using h u hu)]
  simp
theorem comeFn_far {V : List Stp} {s : Stp} {v : Value} (h : v ≠ .int .i64 s.node) : comeFn (V ++ [s]) v = comeFn V v := by
  unfold comeFn
  split
  · rename_i x
    have hx : ¬ s.node = x := fun e => h (by rw [e])
    rw [List.find?_append]
    simp [hx]
  · rfl
theorem wint_info : (Try.prog.info? 3).map (fun i => (i.zero, i.size, i.bytes)) = some (some (.int .i64 0), 1, 8) := by kernel_rfl
theorem Trace.len {O : List Stp} {i : Nat} {rs : List Int} (h : Trace O i rs) : rs.length ≤ i := by
  induction h with
  | zero => exact Nat.le_refl _
  | step _ _ hj _ _ ih => rw [List.length_cons]; omega
/-- v is a row of the reasons from y to x, or nil. -/
def WayIs (w : World) (base : Nat) (J : List Jn) (y x : Int) (v : Value) : Prop :=
  if cls J x = cls J y then ∃ ns rs, Path J y x ns rs ∧ w.ownsRow base 3 1 v rs.length (rs.map fun r => .int .i64 r) ∧ rs.length ≤ 4096 else v = .slice none 0 0
theorem step_key : Go.Maps.Keyed Try.prog 3 := int_key
theorem zero_step (w : World) : (zeroValue 56).run Try.prog w = .ok (.agg #[.int .i64 0, .int .i64 0, .int .i64 0]) w := by kernel_rfl

structure WayX (w0 : World) (c4 c8 bm l D : Nat) (r : Loop) (B bf bn bp : Nat) (lj : Value) (N : Int → Value) (n : Int) (J : List Jn) (m : Nat) (y : Int) (V : List Stp) (W : World) : Prop where
  loop : LoopAt W l D r
  fr : FR W B bf bn bp lj N n J m
  x4 : Blk W c4 3 #[.int .i64 y]
  x8 : Blk W c8 51 #[.map (some bm)]
  come : MapAt Try.prog 3 W bm V.length (comeFn V)
  kept : Kept (fun _ => False) w0 W

theorem WayX.keep {w w' : World} {B bf bn bp m : Nat} {lj : Value} {N : Int → Value} {n : Int} {J : List Jn} {w0 : World} {c4 c8 bm l D : Nat} {r : Loop} {y : Int} {V : List Stp} {S : Nat → Prop} {H : Nat} (h : WayX w0 c4 c8 bm l D r B bf bn bp lj N n J m y V w) (h0 : FR w0 B bf bn bp lj N n J m) (hw : w0.heap.size ≤ H)
    (hH : c4 < H ∧ c8 < H ∧ bm < H ∧ l < H ∧ D < H) (hk : Kept S w w') (hS : ∀ b, b < H → ¬ S b) : WayX w0 c4 c8 bm l D r B bf bn bp lj N n J m y V w' := by
  obtain ⟨l1, l2, l3, l4, l5⟩ := h0.lts
  exact ⟨h.loop.kept hk (hS _ (by omega)) (hS _ (by omega)), h.fr.keep hk (hS _ (by omega)) (hS _ (by omega)) (hS _ (by omega)) (fun g hg => hS _ (by have := l4 g hg; omega)) (fun x g hg => hS _ (by have := l5 x g hg; omega)),
    h.x4.kept hk (hS _ (by omega)), h.x8.kept hk (hS _ (by omega)), h.come.kept hk (hS _ (by omega)), h.kept.then_ hk (fun b hb hs => hS b (by omega) hs)⟩

section
variable {w w' : World} {B bf bn bp m : Nat} {lj : Value} {N : Int → Value} {n : Int} {J : List Jn}
theorem way_out (h : FR w B bf bn bp lj N n J m) (x y : Int) (hxy : ¬ ((0 ≤ x ∧ x < n) ∧ (0 ≤ y ∧ y < n))) :
    Calls Try.prog 10 #[.pointer (some ⟨bf, 0, none⟩), .int .i64 x, .int .i64 y] w fun e w' => e = .returned (.tuple #[.slice none 0 0, .bool false]) ∧ Below w.heap.size w w' := by
  have hb3 : Below w.heap.size w (w.alloc (.cells #[.int .i64 x] 3)) := (Below.refl _ w).alloc (Nat.le_refl _) _
  have h3 := h.below hb3
  have c4 := (Blk.new w 3 #[.int .i64 x]).cell 0
  simp only [List.getElem?_toArray, List.getElem?_cons_zero] at c4
  have H3 := Lib.hid h3
  have HB3 := Lib.hid hb3
  clear h hb3 h3
  by_cases hx : 0 ≤ x ∧ x < n
  · have hy : ¬ (0 ≤ y ∧ y < n) := fun hy => hxy ⟨hx, hy⟩
    have d1 : decide (0 ≤ x ∧ x < n) = true := decide_eq_true hx
    have d2 : decide (0 ≤ y ∧ y < n) = false := decide_eq_false hy
    clear hx hy hxy
    go_enter Try.func10, Try.ntmps10
    go_wp2
    go_step3
    go_wp2_with fail
    refine (is_ok H3.out _).mono ?_
    rintro e w1 ⟨rfl, rfl⟩
    rw [d1]
    go_wp2_with fail
    refine (is_ok H3.out _).mono ?_
    rintro e w1 ⟨rfl, rfl⟩
    rw [d2]
    go_wp2_with fail
    try rw [Exit.noGoto_ret]
    go_ret2
    exact ⟨rfl, HB3.out⟩
  · have d1 : decide (0 ≤ x ∧ x < n) = false := decide_eq_false hx
    clear hx hxy
    go_enter Try.func10, Try.ntmps10
    go_wp2
    go_step3
    go_wp2_with fail
    refine (is_ok H3.out _).mono ?_
    rintro e w1 ⟨rfl, rfl⟩
    rw [d1]
    go_wp2_with fail
    try rw [Exit.noGoto_ret]
    go_ret2
    exact ⟨rfl, HB3.out⟩

set_option maxRecDepth 100000 in
set_option maxHeartbeats 2000000 in
theorem way_walk (h : FR w B bf bn bp lj N n J m) (y x : Int) (hx : 0 ≤ x ∧ x < n) (hy : 0 ≤ y ∧ y < n) :
    Calls Try.prog 10 #[.pointer (some ⟨bf, 0, none⟩), .int .i64 y, .int .i64 x] w fun e w' => ∃ v, e = .returned (.tuple #[v, .bool (decide (cls J x = cls J y))]) ∧
      WayIs w' w.heap.size J y x v ∧ Below w.heap.size w w' := by
  have hb3 : Below w.heap.size w (w.alloc (.cells #[.int .i64 y] 3)) := (Below.refl _ w).alloc (Nat.le_refl _) _
  have h3 := h.below hb3
  have c4 := (Blk.new w 3 #[.int .i64 y]).cell 0
  simp only [List.getElem?_toArray, List.getElem?_cons_zero] at c4
  have H3 := Lib.hid h3
  have HB3 := Lib.hid hb3
  have H0 := Lib.hid h
  clear h hb3 h3
  have d1 : decide (0 ≤ y ∧ y < n) = true := decide_eq_true hy
  have d2 : decide (0 ≤ x ∧ x < n) = true := decide_eq_true hx
  have hmm := @run_makeMap Try.prog
  refine callsIn_wide.1 (callsIn_of_wp_marks (n := 2) Try.func10 rfl trivial (wpIn_wide.2 ?_) rfl)
  simp only [Try.ntmps10, List.size_toArray, List.length_cons, List.length_nil, Nat.reduceAdd, Nat.reduceSub, Array.replicate_succ, Array.replicate_zero, List.push_toArray, List.append_toArray, List.nil_append, List.cons_append]
  go_wp2
  go_step3
  go_wp2_with fail
  refine (is_ok H3.out _).mono ?_
  rintro e w1 ⟨rfl, rfl⟩
  rw [d1]
  go_wp2_with fail
  refine (is_ok H3.out _).mono ?_
  rintro e w1 ⟨rfl, rfl⟩
  rw [d2]
  go_upto_region 3 with (fail)
  go_wp2
  go_step3
  go_wp2_with (go_at_call 19; refine (walk_ok _ _ (.inr ⟨_, rfl⟩)).mono ?_; rintro e w1 ⟨rfl, rfl⟩)
  obtain ⟨W3, hW3⟩ : ∃ W3, ((((w.alloc (.cells #[.int .i64 y] 3)).alloc (.map #[] 0)).alloc (.cells #[.map (some (w.heap.size + 1))] 51)).alloc (.cells #[.pointer (some ⟨bf, 0, none⟩)] 24)).alloc (.cells #[.int .i64 x] 3) = W3 := ⟨_, rfl⟩
  have hs3 : W3.heap.size = w.heap.size + 5 := by rw [← hW3]; simp
  have hbW : Below w.heap.size w W3 := by rw [← hW3]; exact ((((HB3.out.alloc (by simp) _).alloc (by simp; omega) _).alloc (by simp; omega) _).alloc (by simp; omega) _)
  have hf3 := H0.out.below hbW
  have x2 : Blk W3 (w.heap.size + 1 + 1 + 1) 24 #[.pointer (some ⟨bf, 0, none⟩)] := by rw [← hW3]; exact (Blk.new_at (by simp) _ _).alloc _
  have x1 : Blk W3 (w.heap.size + 1 + 1 + 1 + 1) 3 #[.int .i64 x] := by rw [← hW3]; exact Blk.new_at (by simp) _ _
  have y4 : Blk W3 w.heap.size 3 #[.int .i64 y] := by rw [← hW3]; exact ((((Blk.new w _ _).alloc _).alloc _).alloc _).alloc _
  have y8 : Blk W3 (w.heap.size + 1 + 1) 51 #[.map (some (w.heap.size + 1))] := by rw [← hW3]; exact ((Blk.new_at (by simp) _ _).alloc _).alloc _
  have ym : MapAt Try.prog 3 W3 (w.heap.size + 1) 0 (comeFn []) := by
    rw [← hW3]
    have := MapAt.made Try.prog 3 (w.alloc (.cells #[.int .i64 y] 3))
    rw [World.size_alloc] at this
    refine (((this.alloc _).alloc _).alloc _).congr fun key kl _ => ?_
    unfold comeFn
    split <;> rfl
  have hb3 : Kept (fun _ => False) w W3 := Kept.of_below hbW
  rw [hW3]
  clear hW3 hbW c4 H3 HB3
  have Hf3 := Lib.hid hf3
  have X1 := Lib.hid x1
  have X2 := Lib.hid x2
  refine wpIn_wide.1 (rangeFunc_wide (n := 2) (gf := 22) rfl (fun _ _ => by simp [invoke, go_sem]) fun fn r hr => ?_)
  have e1 := congrArg Loop.tmps hr
  have e2 := congrArg Loop.params hr
  have e3 := congrArg Loop.assign hr
  have e4 := congrArg Loop.body hr
  have e5 := congrArg Loop.state hr
  have e6 := congrArg Loop.pending hr
  simp only [loopRec] at e1 e2 e3 e4 e5 e6
  clear hr
  have hloop := LoopAt.new W3 r
  have hbL : Below W3.heap.size W3 ((W3.alloc (.deferred (some []))).alloc (.loop r)) := ((Below.refl _ W3).alloc (Nat.le_refl _) _).alloc (by simp) _
  have hszL : ((W3.alloc (.deferred (some []))).alloc (.loop r)).heap.size = W3.heap.size + 2 := by simp
  generalize (W3.alloc (.deferred (some []))).alloc (.loop r) = WL at *
  have hfL := Hf3.out.below hbL
  have x1' := X1.out.below hbL X1.out.lt
  have x2' := X2.out.below hbL X2.out.lt
  have hNK : NK WL B bf bn bp lj N n J m (w.heap.size + 1 + 1 + 1 + 1) (w.heap.size + 1 + 1 + 1) x := ⟨hfL.blk, hfL.near, hfL.rows, x1', x2'⟩
  have y4' := y4.below hbL y4.lt
  have y8' := y8.below hbL y8.lt
  have ym' := ym.below hbL ym.lt
  have hbk := hb3.then_below hbL
  have hL : w.heap.size + 5 ≤ W3.heap.size := by omega
  have hbf := H0.out.lts.1
  generalize W3.heap.size = L at *
  clear hs3
  refine callsIn_wide.2 ((walk_iter (L + 1) H0.out.fine hx H0.out.hn (fun b => b = L + 1 ∨ b = w.heap.size + 1) ?_ WL hNK
    (fun V W => WayX w w.heap.size (w.heap.size + 1 + 1) (w.heap.size + 1) (L + 1) L r B bf bn bp lj N n J m y V W ∧ ∀ s ∈ V, s.node ≠ y)
    (fun W => ∃ O k s, Seen J x O k ∧ O[k]? = some s ∧ s.node = y ∧ WayX w w.heap.size (w.heap.size + 1 + 1) (w.heap.size + 1) (L + 1) L (doneRec r (.exit 0)) B bf bn bp lj N n J m y (O.take k ++ [s]) W) ?_ ?_ ?_).mono ?_)
  · rintro b hb hT
    obtain ⟨l1, l2, l3, l4, l5⟩ := H0.out.lts
    rcases hb with rfl | rfl | rfl | rfl | ⟨z, hz⟩
    · rcases hT with h | h <;> omega
    · rcases hT with h | h <;> omega
    · rcases hT with h | h <;> omega
    · rcases hT with h | h <;> omega
    · have := l5 z b hz
      rcases hT with h | h <;> omega
  · exact ⟨⟨hloop, hfL, y4', y8', ym', hbk⟩, fun s hs => by cases hs⟩
  · rintro V W1 W2 ⟨h1, h2⟩ hk
    exact ⟨h1.keep H0.out (H := WL.heap.size) (by omega) ⟨by omega, by omega, by omega, by omega, by omega⟩ hk (fun b hb hc => by omega), h2⟩
  · rintro V s O k W1 hs htk hOk ⟨hx1, hne⟩ hnk
    clear hnk
    have hnd := hs.nodes H0.out.fine hx s (List.mem_of_getElem? hOk)
    have hbd := hs.bound H0.out.fine hx
    have hn4 := H0.out.hn
    have hfar : ∀ u ∈ V, u.node ≠ s.node := by
      intro u hu e
      rw [← htk] at hu
      obtain ⟨q, hq, he⟩ := List.mem_take_iff_getElem.1 hu
      obtain ⟨hk1, hk2⟩ := List.getElem?_eq_some_iff.1 hOk
      have := (List.pairwise_iff_getElem.1 hs.nodup) q k (by rw [List.length_map]; omega) (by rw [List.length_map]; omega) (by omega)
      rw [List.getElem_map, List.getElem_map, he, hk2] at this
      exact this e
    have hVl : V.length ≤ 4096 := by rw [← htk, List.length_take]; omega
    obtain ⟨w0', hst0⟩ : ∃ V', V' = V ++ [s] := ⟨_, rfl⟩
    have Hs := Lib.hid (show s.node = y → ∃ O k t, Seen J x O k ∧ O[k]? = some t ∧ t.node = y ∧ V ++ [s] = O.take k ++ [t] from fun e => ⟨O, k, s, hs, hOk, e, by rw [htk]⟩)
    clear hs htk hOk hbd w0' hst0
    refine ⟨_, _, _, _, run_yield hx1.loop.rec_ (by rw [e2]; rfl), ?_⟩
    rw [e1, e2, e3, e4]
    clear e1 e2 e3 e4
    refine roundIn_of_wpIn trivial ?_
    simp only [List.zip_toArray, List.zip_cons_cons, List.zip_nil_right, List.foldl_toArray', List.foldl_cons, List.foldl_nil, List.setIfInBounds_toArray, List.set_cons_succ, List.set_cons_zero]
    unfold stpVal
    have hW1 := hx1.kept.size
    obtain ⟨l1, l2, l3, l4, l5⟩ := H0.out.lts
    have Hne := Lib.hid hne
    have Hfar := Lib.hid hfar
    clear hne hfar
    gi_wp2
    have hs1 := hx1.loop.lt
    have ha1 := Kept.alloc (Kept.refl (fun _ => False) W1) (.cells #[.int .i64 s.node, .int .i64 s.from_, .int .i64 s.reason] 56)
    have hb1 := Blk.new W1 56 #[.int .i64 s.node, .int .i64 s.from_, .int .i64 s.reason]
    have hsz1 : W1.heap.size < (W1.alloc (.cells #[.int .i64 s.node, .int .i64 s.from_, .int .i64 s.reason] 56)).heap.size := by simp
    generalize W1.alloc (.cells #[.int .i64 s.node, .int .i64 s.from_, .int .i64 s.reason] 56) = W2 at *
    have hl2 := hx1.loop.kept ha1 id id
    have hk2 := (ha1.mono (S' := fun b => b = L + 1) fun _ _ h => h.elim).then_ (Kept.putObj W2 (L + 1) (.loop (busyRec r))) (fun _ _ h => h)
    have hl3 := hl2.put (busyRec r)
    have hbr := hl2.begin_ (P := Try.prog) e5
    have hb3 := hb1.kept (Kept.putObj W2 (L + 1) (.loop (busyRec r))) (by omega)
    have hsz3 := (Kept.putObj W2 (L + 1) (.loop (busyRec r))).size
    generalize W2.putObj (L + 1) (.loop (busyRec r)) = W4 at *
    have hL1 : ∀ b, b < w.heap.size + 5 → ¬ b = L + 1 := fun b hb => by omega
    have f4 := hx1.fr.keep hk2 (hL1 _ (by omega)) (hL1 _ (by omega)) (hL1 _ (by omega)) (fun g hg => hL1 _ (by have := l4 g hg; omega)) (fun x g hg => hL1 _ (by have := l5 x g hg; omega))
    have z4 := hx1.x4.kept hk2 (by omega)
    have z8 := hx1.x8.kept hk2 (by omega)
    have zm := hx1.come.kept hk2 (by omega)
    obtain ⟨w5, hst, hq3, hg5⟩ := zm.store int_key Try.underlying51 (by unfold maxLen; omega) (int_key_of (x := s.node) (by omega) (by omega)) (stpVal s) (g := comeFn (V ++ [s])) (comeFn_new Hfar.out) (fun v hv => comeFn_far hv)
    have z45 := z4.grown hg5 (fun e => by injection e; omega)
    have z85 := z8.grown hg5 (fun e => by injection e; omega)
    have hb5 := hb3.grown hg5 (fun e => by injection e; omega)
    have k5 : Kept (fun b => b = w.heap.size + 1) W4 w5 := (Kept.refl _ W4).grown hg5 (fun k hk => .inl (by injection hk with hk; exact hk.symm))
    have l5' := hl3.kept k5 (by omega) (by omega)
    have f5 := f4.keep k5 (by omega) (by omega) (by omega) (fun g hg => by have := l4 g hg; omega) (fun x g hg => by have := l5 x g hg; omega)
    have kk : Kept (fun b => b = L + 1 ∨ b = w.heap.size + 1) W1 w5 := (hk2.mono (fun _ _ h => .inl h)).trans (k5.mono (fun _ _ h => .inr h))
    have c8 := z8.cell 0
    have c4 := z45.cell 0
    have cb0 := hb3.cell 0
    have cb1 := hb3.cell 1
    have cb2 := hb3.cell 2
    have cb5 := hb5.cell 0
    simp only [List.getElem?_toArray, List.getElem?_cons_zero, List.getElem?_cons_succ] at c4 c8 cb0 cb1 cb2 cb5
    unfold stpVal at hst
    have HX := Lib.hid hx1
    have HK := Lib.hid kk
    have L5 := Lib.hid l5'
    have F5 := Lib.hid f5
    have Q3 := Lib.hid hq3
    clear f4 hx1 hk2 hl3 hl2 kk l5' f5 hg5 hq3 zm k5
    refine ⟨W4, hbr, ?_⟩
    clear hbr
    have goal_ : ∀ r', Kept (mayT WL.heap.size (fun b => b = L + 1 ∨ b = w.heap.size + 1) W1) W1 (w5.putObj (L + 1) (.loop r')) ∧ WayX w w.heap.size (w.heap.size + 1 + 1) (w.heap.size + 1) (L + 1) L r' B bf bn bp lj N n J m y (V ++ [s]) (w5.putObj (L + 1) (.loop r')) := by
      intro r'
      have k7 := Kept.putObj w5 (L + 1) (.loop r')
      have kk7 := HK.out.then_ k7 (fun _ _ h => .inl h)
      refine ⟨kk7.mono (fun b _ hb => .inl ⟨by omega, hb⟩), L5.out.put r', F5.out.keep k7 (hL1 _ (by omega)) (hL1 _ (by omega)) (hL1 _ (by omega)) (fun g hg => hL1 _ (by have := l4 g hg; omega)) (fun x g hg => hL1 _ (by have := l5 x g hg; omega)), z45.kept k7 (by omega), z85.kept k7 (by omega), ?_, HX.out.kept.then_ kk7 (fun i hi e => absurd e (by omega))⟩
      rw [List.length_append, List.length_singleton]
      exact Q3.out.kept k7 (by omega)
    have Fin := Lib.hid goal_
    clear goal_
    by_cases hsy : s.node = y
    · have dy : (s.node == y) = true := by simpa using hsy
      have Hsy := Lib.hid hsy
      clear hsy
      gi_wp2
      obtain ⟨g1, g2⟩ := Fin.out (doneRec r (.exit 0))
      obtain ⟨O, k, u, q1, q2, q3, q4⟩ := Hs.out Hsy.out
      exact ⟨_, _, L5.out.stop_ (.exit 0), g1, .inr ⟨rfl, O, k, u, q1, q2, q3, q4 ▸ g2⟩⟩
    · have dy : (s.node == y) = false := by simpa using hsy
      have Hsy := Lib.hid hsy
      clear hsy
      gi_wp2
      obtain ⟨g1, g2⟩ := Fin.out r
      refine ⟨_, _, L5.out.end_ e5 e6, g1, .inl ⟨rfl, g2, ?_⟩⟩
      intro u hu
      rcases List.mem_append.1 hu with hu | hu
      · exact Hne.out u hu
      · rw [List.mem_singleton.1 hu]
        exact Hsy.out
  · clear e1 e2 e3 e4
    obtain ⟨l1, l2, l3, l4, l5⟩ := H0.out.lts
    have hn4 := H0.out.hn
    rintro e W' ⟨rfl, ⟨O, hs, hx1, hne⟩ | ⟨O, k, s, hs, hOk, hsy, hx1⟩⟩
    · have hcl : ¬ cls J x = cls J y := by
        intro hc
        obtain ⟨s, hs1, hs2⟩ := List.mem_map.1 (hs.full (conn_cls J hc))
        exact hne s hs1 hs2
      have Hcl := Lib.hid hcl
      refine ⟨none, _, hx1.loop.over_ e5 e6, ?_⟩
      have k7 := Kept.putObj W' (L + 1) (.loop (overRec r))
      have l7 := hx1.loop.put (overRec r)
      have z4 := hx1.x4.kept k7 (by omega)
      have z8 := hx1.x8.kept k7 (by omega)
      have zm := hx1.come.kept k7 (by omega)
      have kk7 := hx1.kept.then_ k7 (fun i hi e => absurd e (by omega))
      generalize W'.putObj (L + 1) (.loop (overRec r)) = W7 at *
      have hlook := zm.look int_key Try.underlying51 (zero_step _) (int_key_of (x := y) (by omega) (by omega)) true
      rw [comeFn_none hne] at hlook
      simp only [if_true] at hlook
      have c4 := z4.cell 0
      have c8 := z8.cell 0
      simp only [List.getElem?_toArray, List.getElem?_cons_zero] at c4 c8
      have K7 := Lib.hid kk7
      have L7 := Lib.hid l7
      clear hs hx1 hne kk7 l7 k7 hcl zm
      go_wp2
      rw [Exit.noGoto_ret]
      have hbx : Below W7.heap.size W7 (W7.alloc (.cells #[.int .i64 0, .int .i64 0, .int .i64 0] 56)) := (Below.refl _ W7).alloc (Nat.le_refl _) _
      have l8 := L7.out.kept (Kept.of_below (S := fun _ => False) hbx) id id
      have K8 := K7.out.then_below hbx
      generalize W7.alloc (.cells #[.int .i64 0, .int .i64 0, .int .i64 0] 56) = W8 at *
      refine ⟨by simp, .inl ⟨_, _, rfl, run_takeDeferred l8.def_, ?_⟩⟩
      refine ⟨.tuple #[.slice none 0 0, .bool false], by simp [results, Try.results10, go_sem], .slice none 0 0, ?_, ?_, (K8.takeDef (by omega)).to_below⟩
      · rw [decide_eq_false Hcl.out]
      · unfold WayIs
        rw [if_neg Hcl.out]
    · have hcl : cls J x = cls J y := by
        rw [← hsy]
        exact (cls_conn (hs.conn k s hOk)).symm
      have Hcl := Lib.hid hcl
      refine ⟨some (.exit 0), _, hx1.loop.over_done, ?_⟩
      have k7 := Kept.putObj W' (L + 1) (.loop (overRec (doneRec r (.exit 0))))
      have l7 := hx1.loop.put (overRec (doneRec r (.exit 0)))
      have z4 := hx1.x4.kept k7 (by omega)
      have z8 := hx1.x8.kept k7 (by omega)
      have zm := hx1.come.kept k7 (by omega)
      have kk7 := hx1.kept.then_ k7 (fun i hi e => absurd e (by omega))
      generalize W'.putObj (L + 1) (.loop (overRec (doneRec r (.exit 0)))) = W7 at *
      have hkl := (List.getElem?_eq_some_iff.1 hOk).1
      have htk : O.take k ++ [s] = O.take (k + 1) := by
        rw [List.take_add_one, hOk]
        rfl
      rw [htk] at zm
      have hnd : ((O.take (k + 1)).map Stp.node).Nodup := by
        rw [List.map_take]
        exact hs.nodup.sublist (List.take_sublist _ _)
      have hcome : ∀ i t, i ≤ k → O[i]? = some t → comeFn (O.take (k + 1)) (.int .i64 t.node) = some (stpVal t) := fun i t hi ht =>
        comeFn_at hnd (i := i) (by rw [List.getElem?_take_of_lt (by omega)]; exact ht)
      have hlook := zm.look int_key Try.underlying51 (zero_step _) (int_key_of (x := y) (by omega) (by omega)) true
      rw [← hsy, hcome k s (Nat.le_refl _) hOk, hsy] at hlook
      simp only [if_true] at hlook
      unfold stpVal at hlook
      have c4 := z4.cell 0
      have c8 := z8.cell 0
      simp only [List.getElem?_toArray, List.getElem?_cons_zero] at c4 c8
      have K7 := Lib.hid kk7
      have L7 := Lib.hid l7
      have ZM := Lib.hid zm
      have Hcome := Lib.hid hcome
      have Hs := Lib.hid hs
      have HOk := Lib.hid hOk
      clear hs hx1 kk7 l7 k7 hcl zm hcome htk hnd hOk
      obtain ⟨ns, rs, htr, hpath, -⟩ := Hs.out.trace k s HOk.out
      have hbd := Hs.out.bound H0.out.fine hx
      have htl := htr.len
      have hr4 : rs.length ≤ 4096 := by omega
      have HP := Lib.hid hpath
      have HT := Lib.hid htr
      have hO0 := Lib.hid Hs.out.head
      have hlk := Lib.hid (show ∀ i t W, i ≤ k → O[i]? = some t → (0 ≤ t.node ∧ t.node < n) → MapAt Try.prog 3 W (w.heap.size + 1) (O.take (k + 1)).length (comeFn (O.take (k + 1))) → (Instr.lookup 51 (.map (some (w.heap.size + 1))) (.int .i64 t.node) false).run Try.prog W = .ok (stpVal t) W from fun i t W hi ht hn hW => by
        have := hW.look int_key Try.underlying51 (zero_step _) (int_key_of (x := t.node) (by omega) (by omega)) false
        rw [Hcome.out i t hi ht] at this
        exact this)
      obtain ⟨i0, hi, hz0, hz1, hz2⟩ := info_parts wint_info
      generalize (O.take (k + 1)).length = zl at *
      have Hsy := Lib.hid hsy
      clear hpath htr htl hbd hsy
      refine wpIn_wide.2 ?_
      go_upto_region 11 with (fail)
      have hbx : Below W7.heap.size W7 (W7.alloc (.cells #[.int .i64 s.node, .int .i64 s.from_, .int .i64 s.reason] 56)) := (Below.refl _ W7).alloc (Nat.le_refl _) _
      have l8 := Lib.hid (L7.out.kept (Kept.of_below (S := fun _ => False) hbx) id id)
      have K8 := Lib.hid (K7.out.then_below hbx)
      have bx := Lib.hid (Blk.new W7 56 #[.int .i64 s.node, .int .i64 s.from_, .int .i64 s.reason])
      have z8' := Lib.hid (z8.alloc (.cells #[.int .i64 s.node, .int .i64 s.from_, .int .i64 s.reason] 56))
      have zm' := Lib.hid (ZM.out.alloc (.cells #[.int .i64 s.node, .int .i64 s.from_, .int .i64 s.reason] 56))
      have hsz8 : (W7.alloc (.cells #[.int .i64 s.node, .int .i64 s.from_, .int .i64 s.reason] 56)).heap.size = W7.heap.size + 1 := by simp
      have hL7 := L7.out.lt
      clear hbx hlook c4 c8 L7 K7 ZM z4 z8
      generalize W7.alloc (.cells #[.int .i64 s.node, .int .i64 s.from_, .int .i64 s.reason] 56) = W8 at *
      generalize W7.heap.size = C at *
      go_loopg [6] k (fun gk v wr => ∃ (t : Stp) (rs' pre : List Int), O[gk]? = some t ∧ gk ≤ k ∧ Trace O gk rs' ∧ pre ++ rs' = rs ∧ Blk wr C 56 #[.int .i64 t.node, .int .i64 t.from_, .int .i64 t.reason] ∧
        wr.ownsRow W8.heap.size 3 1 v pre.length (pre.map fun r => .int .i64 r) ∧ Kept (fun b => b = C) W8 wr)
      case atStart =>
        exact ⟨s, rs, [], HOk.out, Nat.le_refl _, HT.out, rfl, bx.out, World.ownsRow_nil _ _ _ _, Kept.refl _ _⟩
      case round =>
        obtain ⟨t, rs', pre, hOt, hgk, htr, hpre, hbk, hown, hkp⟩ := hrel
        have hpl : pre.length + rs'.length = rs.length := by rw [← hpre, List.length_append]
        obtain ⟨A, cap, rfl⟩ := own_slice hown
        have hz8 := z8'.out.kept hkp (by have := z8'.out.lt; have := l8.out.lt; omega)
        have hzm := zm'.out.kept hkp (by have := zm'.out.lt; omega)
        have c8 := hz8.cell 0
        have cb1 := hbk.cell 1
        have cb2 := hbk.cell 2
        simp only [List.getElem?_toArray, List.getElem?_cons_zero, List.getElem?_cons_succ] at c8 cb1 cb2
        have hws := hkp.size
        cases htr with
        | zero =>
          rw [hO0.out] at hOt
          injection hOt with hOt
          subst hOt
          rw [List.append_nil] at hpre
          subst hpre
          have Hown := Lib.hid hown
          have Hkp := Lib.hid hkp
          clear hown hkp hbk hz8 hzm hpl
          go_wp2
          try rw [Exit.noGoto_ret]
          have l9 := l8.out.kept Hkp.out (by omega) (by omega)
          have K9 := K8.out.then_ Hkp.out (fun i hi e => absurd e (by omega))
          have k10 := Kept.putObj wr L (.deferred none)
          refine ⟨by simp, .inl ⟨_, _, rfl, run_takeDeferred l9.def_, ?_⟩⟩
          refine ⟨.tuple #[.slice A pre.length cap, .bool true], by simp [results, Try.results10, go_sem], .slice A pre.length cap, ?_, ?_, (K9.takeDef (by omega)).to_below⟩
          · rw [decide_eq_true Hcl.out]
          · unfold WayIs
            rw [if_pos Hcl.out]
            refine ⟨ns, pre, Hsy.out ▸ HP.out, own_base (own_kept Hown.out k10 (fun g hg e => ?_)) (fun g hg => ?_), hr4⟩
            · have := (Hown.out.lt g hg).1
              omega
            · have := (Hown.out.lt g hg).1
              omega
        | step hOi hOj hj hf htr2 =>
          rename_i j t' u rs2
          rw [hOt] at hOi
          injection hOi with hOi
          subst hOi
          have hu := Hs.out.nodes H0.out.fine hx u (List.mem_of_getElem? hOj)
          have d3 : decide (0 ≤ t.from_) = true := decide_eq_true (by omega)
          rw [List.length_cons] at hpl
          have hown' := hown
          have Hown := Lib.hid hown
          have Hkp := Lib.hid hkp
          have Hbk := Lib.hid hbk
          have Hzm := Lib.hid hzm
          have Hz8 := Lib.hid hz8
          have Hf := Lib.hid hf
          have HOj := Lib.hid hOj
          have Htr2 := Lib.hid htr2
          have Hlt := Lib.hid (show ∀ g, (Value.slice A pre.length cap).ownBlock = some g → W8.heap.size ≤ g from fun g hg => (Hown.out.lt g hg).1)
          have hC8 : C < W8.heap.size := by omega
          have HL1 := Lib.hid (show ∀ W, MapAt Try.prog 3 W (w.heap.size + 1) zl (comeFn (O.take (k + 1))) → (Instr.lookup 51 (.map (some (w.heap.size + 1))) (.int .i64 t.from_) false).run Try.prog W = .ok (.agg #[.int .i64 u.node, .int .i64 u.from_, .int .i64 u.reason]) W from fun W hW => by
            rw [hf]
            exact hlk.out j u W (by omega) hOj hu hW)
          have h1c : Hid (∀ u ∈ (#[.int .i64 t.reason] : Array Value).toList, u.oneCell' = true) := Lib.hid (by simp [Value.oneCell'])
          clear hown hown' hkp hbk hzm hz8 hf hOj htr2 hOt
          go_upto_region 13 with (fail)
          go_wp2_with (at_builtin; refine list_push _ rfl (.tmp 49) (.tmp 52) 27 rfl W8.heap.size 3 i0 (.int .i64 0) 1 8 Try.underlying27 hi hz0 hz1 hz2 rfl (by decide) (.slice A pre.length cap) pre.length _ rfl (Hown.out.alloc _) wr.heap.size #[.int .i64 t.reason] rfl (Blk.new _ _ _) rfl h1c.out (by omega) (by omega) (by omega) (fun g2 cap2 w1 hown1 hgrow hat hlt1 => ?_)
                       have z81 := (Hz8.out.alloc (.cells #[.int .i64 t.reason] 3)).grown hgrow (fun e => by have := Hlt.out _ e.symm; omega)
                       have zb1 := (Hbk.out.alloc (.cells #[.int .i64 t.reason] 3)).grown hgrow (fun e => by have := Hlt.out _ e.symm; omega)
                       have zm1 := (Hzm.out.alloc (.cells #[.int .i64 t.reason] 3)).grown hgrow (fun e => by have := Hlt.out _ e.symm; omega)
                       have hl1 := HL1.out w1 zm1
                       have e8 := z81.cell 0
                       have eb0 := zb1.cell 0
                       have eb1 := zb1.cell 1
                       have eb2 := zb1.cell 2
                       have ef0 := zb1.frozen 0
                       have ef1 := zb1.frozen 1
                       have ef2 := zb1.frozen 2
                       simp only [List.getElem?_toArray, List.getElem?_cons_zero, List.getElem?_cons_succ] at e8 eb0 eb1 eb2
                       have Hown1 := Lib.hid hown1
                       have Hgrow := Lib.hid hgrow
                       have Hat := Lib.hid hat
                       clear zm1 hown1 hgrow hat)
          go_roundg j
          case measure => exact hj
          case rel =>
            have hb3 := ((zb1.set_ 0 (.int .i64 u.node)).set_ 1 (.int .i64 u.from_)).set_ 2 (.int .i64 u.reason)
            have k3 : Kept (fun b => b = C) w1 (((w1.setCell ⟨C, 0, none⟩ (.int .i64 u.node)).setCell ⟨C, 1, none⟩ (.int .i64 u.from_)).setCell ⟨C, 2, none⟩ (.int .i64 u.reason)) :=
              ((Kept.set1 w1 C 0 _).trans (Kept.set1 _ C 1 _)).trans (Kept.set1 _ C 2 _)
            refine ⟨u, rs2, pre ++ [t.reason], HOj.out, by omega, Htr2.out, by rw [List.append_assoc]; exact hpre, by simpa using hb3, ?_, ?_⟩
            · rw [List.length_append, List.length_singleton, List.map_append]
              exact own_kept Hown1.out k3 (fun g hg e => by have := (Hown1.out.lt g hg).1; omega)
            · exact (((Hkp.out.alloc _).grown Hgrow.out (fun q hq => .inr (Hlt.out q hq))).trans k3)
end
end Go.Proofs.Ythhnlkbnphiaoaa

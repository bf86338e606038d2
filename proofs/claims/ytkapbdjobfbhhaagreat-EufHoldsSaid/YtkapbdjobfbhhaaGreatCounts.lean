/- There are as many least ones as nodes less joins. -/
import Derived.Test.YtkapbdjobfbhhaaGreatJoin
import Derived.Test.YtkapbdjobfbhhaaGreatShelf
import Derived.Sort.OwnSortedInts
namespace Go.Proofs.YtkapbdjobfbhhaaGreat
open Go.RowKit
open Go.Maps (Keyed)
attribute [local go_sem] Oper.semAt_some
def RowOf (w : World) (base : Nat) (v : Value) (rs : List Int) : Prop := w.ownsRow base 3 1 v rs.length (rs.map fun r => .int .i64 r) ∧ rs.length ≤ 4096
theorem RowOf.kf {B base : Nat} {w w' : World} {v : Value} {rs : List Int} (h : RowOf w base v rs) (hk : Kf B w w') : RowOf w' base v rs := ⟨hk.row h.1, h.2⟩
theorem RowOf.below {base : Nat} {w w' : World} {v : Value} {rs : List Int} (h : RowOf w base v rs) (hb : Below w.heap.size w w') : RowOf w' base v rs := h.kf (B := 0) (Kf.of_below hb)
theorem RowOf.drewN {base : Nat} {w : World} {v : Value} {rs : List Int} (h : RowOf w base v rs) (d : Nat) : RowOf (w.drewN d) base v rs := h
structure ClassX (w0 : World) (gb l D H : Nat) (r : Loop) (B bf bn bp : Nat) (lj : Value) (N : Int → Value) (n : Int) (J : List Jn) (m : Nat) (V : List Stp) (W : World) : Prop where
  loop : LoopAt W l D r
  fr : FR W B bf bn bp lj N n J m
  box : ∃ gv, Blk W gb 27 #[gv] ∧ W.ownsRow H 3 1 gv V.length (V.map fun s => .int .i64 s.node)
  kept : Kept (fun _ => False) w0 W
def ClassR (n : Int) (J : List Jn) (a : Int) (ss : List Int) : Prop := (∀ x, x ∈ ss ↔ (0 ≤ x ∧ x < n) ∧ cls J x = cls J a) ∧ ss.Pairwise (· < ·)
theorem class_of {n : Int} {J : List Jn} {a : Int} {O : List Stp} (hF : Fine n J) (ha : 0 ≤ a ∧ a < n) (h : Seen J a O O.length) : ClassR n J a ((O.map Stp.node).mergeSort fun x y => decide (x ≤ y)) := by
  have hp := List.mergeSort_perm (O.map Stp.node) (fun x y => decide (x ≤ y))
  refine ⟨fun x => ?_, ?_⟩
  · rw [hp.mem_iff]
    constructor
    · intro hx
      obtain ⟨s, hs, rfl⟩ := List.mem_map.1 hx
      obtain ⟨i, hi⟩ := List.getElem?_of_mem hs
      exact ⟨h.nodes hF ha s hs, cls_conn (h.conn i s hi)⟩
    · rintro ⟨_, hc⟩
      exact h.full (conn_cls J hc.symm)
  · have hs : List.Pairwise (fun x y => decide (x ≤ y) = true) ((O.map Stp.node).mergeSort fun x y => decide (x ≤ y)) := List.pairwise_mergeSort (fun a b c h1 h2 => by simp at *; omega) (fun a b => by simp; omega) _
    have hn : List.Nodup ((O.map Stp.node).mergeSort fun x y => decide (x ≤ y)) := hp.nodup_iff.2 h.nodup
    exact (hs.and hn).imp fun ⟨h1, h2⟩ => by
      have := of_decide_eq_true h1
      omega
section
variable {w w' : World} {B bf bn bp m : Nat} {lj : Value} {N : Int → Value} {n : Int} {J : List Jn}
theorem sort_own {base g cap : Nat} {zs : List Int} (h : w.ownsRow base 3 1 (.slice (some ⟨g, 0, none⟩) zs.length cap) zs.length (zs.map (Value.int .i64))) (hsz : zs.length < 4611686018427387904) :
    Calls Tryz.prog 74 #[.slice (some ⟨g, 0, none⟩) zs.length cap] w fun e w' => e = .returned (.tuple #[]) ∧ w'.ownsRow base 3 1 (.slice (some ⟨g, 0, none⟩) zs.length cap) zs.length ((zs.mergeSort fun x y => decide (x ≤ y)).map (Value.int .i64)) ∧ w.grownBy w' (some g) := by
  rcases h.2 with ⟨hv, _⟩ | ⟨g', cap', cur, hv, hb, hh, hc, hM, hs, ht⟩
  · cases hv
  · injection hv with e1 _ e3
    injection e1 with e1
    injection e1 with e1
    subst e1 e3
    rw [Nat.mul_one] at ht
    refine (Tryz.slices_Sort_int g 0 cap zs w (holds_of_blockI hh ht) (Array.getElem?_eq_some_iff.1 hh).1 hsz).mono ?_
    rintro e w' ⟨rfl, k, os, rfl⟩
    exact ⟨rfl, ownsRow_sortedI (List.length_mergeSort _) hb hh hc hM hs, grownBy_sortedI _⟩
set_option maxRecDepth 100000 in
set_option maxHeartbeats 2000000 in
theorem class_walk (h : FR w B bf bn bp lj N n J m) (x : Int) (hx : 0 ≤ x ∧ x < n) :
    Calls Tryz.prog 52 #[.pointer (some ⟨bf, 0, none⟩), .int .i64 x] w fun e w' => ∃ v ss, e = .returned v ∧ ClassR n J x ss ∧ RowOf w' w.heap.size v ss ∧ Below w.heap.size w w' := by
  have hb3 : Below w.heap.size w (w.alloc (.cells #[.slice none 0 0] 27)) := (Below.refl _ w).alloc (Nat.le_refl _) _
  have h3 := h.below hb3
  have H3 := Lib.hid h3
  have HB3 := Lib.hid hb3
  have H0 := Lib.hid h
  clear h hb3 h3
  have d1 : decide (0 ≤ x ∧ x < n) = true := decide_eq_true hx
  refine callsIn_wide.1 (callsIn_of_wp_marks (n := 2) Tryz.func52 rfl trivial (wpIn_wide.2 ?_) rfl)
  simp only [Tryz.ntmps52, List.size_toArray, List.length_cons, List.length_nil, Nat.reduceAdd, Nat.reduceSub, Array.replicate_succ, Array.replicate_zero, List.push_toArray, List.append_toArray, List.nil_append, List.cons_append]
  go_wp2_with fail
  refine (is_ok H3.out _).mono ?_
  rintro e w1 ⟨rfl, rfl⟩
  rw [d1]
  go_wp2_with (go_at_call 73; refine (walk_ok _ _ (.inr ⟨_, rfl⟩)).mono ?_; rintro e w1 ⟨rfl, rfl⟩)
  obtain ⟨W3, hW3⟩ : ∃ W3, ((w.alloc (.cells #[.slice none 0 0] 27)).alloc (.cells #[.pointer (some ⟨bf, 0, none⟩)] 76)).alloc (.cells #[.int .i64 x] 3) = W3 := ⟨_, rfl⟩
  have hs3 : W3.heap.size = w.heap.size + 3 := by rw [← hW3]; simp
  have hbW : Below w.heap.size w W3 := by rw [← hW3]; exact ((HB3.out.alloc (by simp) _).alloc (by simp; omega) _)
  have hf3 := H0.out.below hbW
  have x2 : Blk W3 (w.heap.size + 1) 76 #[.pointer (some ⟨bf, 0, none⟩)] := by rw [← hW3]; exact (Blk.new_at (by simp) _ _).alloc _
  have x1 : Blk W3 (w.heap.size + 1 + 1) 3 #[.int .i64 x] := by rw [← hW3]; exact Blk.new_at (by simp) _ _
  have y4 : Blk W3 w.heap.size 27 #[.slice none 0 0] := by rw [← hW3]; exact ((Blk.new w _ _).alloc _).alloc _
  have hb3 : Kept (fun _ => False) w W3 := Kept.of_below hbW
  rw [hW3]
  clear hW3 hbW H3 HB3
  have Hf3 := Lib.hid hf3
  have X1 := Lib.hid x1
  have X2 := Lib.hid x2
  obtain ⟨i0, hi, hz0, hz1, hz2⟩ := info_parts wint_info
  refine wpIn_wide.1 (rangeFunc_wide (n := 2) (gf := 88) rfl (fun _ _ => by simp [invoke, go_sem]) fun fn r hr => ?_)
  have e1 := congrArg Loop.tmps hr
  have e2 := congrArg Loop.params hr
  have e3 := congrArg Loop.assign hr
  have e4 := congrArg Loop.body hr
  have e5 := congrArg Loop.state hr
  have e6 := congrArg Loop.pending hr
  simp only [loopRec] at e1 e2 e3 e4 e5 e6
  clear hr
  have hloop := LoopAt.new W3 r
  have hbL : Below W3.heap.size W3 ((W3.alloc (.deferred (some []))).alloc (.loop r)) := ((Below.refl _ W3).alloc (Nat.le_refl _) _).alloc (by simp) _
  have hszL : ((W3.alloc (.deferred (some []))).alloc (.loop r)).heap.size = W3.heap.size + 2 := by simp
  generalize (W3.alloc (.deferred (some []))).alloc (.loop r) = WL at *
  have hfL := Hf3.out.below hbL
  have x1' := X1.out.below hbL X1.out.lt
  have x2' := X2.out.below hbL X2.out.lt
  have hNK : NK WL B bf bn bp lj N n J m (w.heap.size + 1 + 1) (w.heap.size + 1) x := ⟨hfL.blk, hfL.near, hfL.rows, x1', x2'⟩
  have y4' := y4.below hbL y4.lt
  have hbk := hb3.then_below hbL
  have hL : w.heap.size + 3 ≤ W3.heap.size := by omega
  have hbf := H0.out.lts.1
  generalize W3.heap.size = L at *
  clear hs3
  refine callsIn_wide.2 ((walk_iter (L + 1) H0.out.fine hx H0.out.hn (fun b => b = L + 1 ∨ b = w.heap.size) ?_ WL hNK
    (ClassX w w.heap.size (L + 1) L (L + 2) r B bf bn bp lj N n J m) (fun _ => False) ?_ ?_ ?_).mono ?_)
  · rintro b hb hT
    obtain ⟨l1, l2, l3, l4, l5⟩ := H0.out.lts
    rcases hb with rfl | rfl | rfl | rfl | ⟨z, hz⟩
    · rcases hT with h | h <;> omega
    · rcases hT with h | h <;> omega
    · rcases hT with h | h <;> omega
    · rcases hT with h | h <;> omega
    · have := l5 z b hz
      rcases hT with h | h <;> omega
  · exact ⟨hloop, hfL, ⟨_, y4', World.ownsRow_nil _ _ _ _⟩, hbk⟩
  · intro V W1 W2 h1 hk
    obtain ⟨l1, l2, l3, l4, l5⟩ := H0.out.lts
    have hn : ∀ b, b < L + 2 → ¬ (WL.heap.size ≤ b ∧ ∀ cs, ¬ Blk W1 b 3 cs) := fun b hb hc => by omega
    obtain ⟨gv, hg, ho⟩ := h1.box
    exact ⟨h1.loop.kept hk (hn _ (by omega)) (hn _ (by omega)), h1.fr.keep hk (hn _ (by omega)) (hn _ (by omega)) (hn _ (by omega)) (fun g hg => hn _ (by have := l4 g hg; omega)) (fun x g hg => hn _ (by have := l5 x g hg; omega)),
      ⟨gv, hg.kept hk (hn _ (by omega)), own_kept ho hk (fun g hg hc => by
        obtain ⟨cs, hcs⟩ := own_heap ho hg
        exact hc.2 cs hcs)⟩, h1.kept.then_ hk (fun b hb hs => hn b (by omega) hs)⟩
  · rintro V s O k W1 hs htk hOk hx1 hnk
    clear hnk
    have hbd := hs.bound H0.out.fine hx
    have hn4 := H0.out.hn
    have hVl : V.length ≤ 4096 := by rw [← htk, List.length_take]; omega
    clear hs htk hOk hbd
    refine ⟨_, _, _, _, run_yield hx1.loop.rec_ (by rw [e2]; rfl), ?_⟩
    rw [e1, e2, e3, e4]
    clear e1 e2 e3 e4
    refine roundIn_of_wpIn trivial ?_
    simp only [List.zip_toArray, List.zip_cons_cons, List.zip_nil_right, List.foldl_toArray', List.foldl_cons, List.foldl_nil, List.setIfInBounds_toArray, List.set_cons_succ, List.set_cons_zero]
    unfold stpVal
    have hW1 := hx1.kept.size
    obtain ⟨l1, l2, l3, l4, l5⟩ := H0.out.lts
    gi_wp2
    have hs1 := hx1.loop.lt
    have ha1 := Kept.alloc (Kept.refl (fun _ => False) W1) (.cells #[.int .i64 s.node, .int .i64 s.from_, .int .i64 s.reason] 134)
    have hb1 := Blk.new W1 134 #[.int .i64 s.node, .int .i64 s.from_, .int .i64 s.reason]
    have hsz1 : W1.heap.size < (W1.alloc (.cells #[.int .i64 s.node, .int .i64 s.from_, .int .i64 s.reason] 134)).heap.size := by simp
    generalize W1.alloc (.cells #[.int .i64 s.node, .int .i64 s.from_, .int .i64 s.reason] 134) = W2 at *
    have hl2 := hx1.loop.kept ha1 id id
    have hk2 := (ha1.mono (S' := fun b => b = L + 1) fun _ _ h => h.elim).then_ (Kept.putObj W2 (L + 1) (.loop (busyRec r))) (fun _ _ h => h)
    have hl3 := hl2.put (busyRec r)
    have hbr := hl2.begin_ (P := Tryz.prog) e5
    have hb3 := hb1.kept (Kept.putObj W2 (L + 1) (.loop (busyRec r))) (by omega)
    have hsz3 := (Kept.putObj W2 (L + 1) (.loop (busyRec r))).size
    generalize W2.putObj (L + 1) (.loop (busyRec r)) = W4 at *
    obtain ⟨gv, hbx, hown⟩ := hx1.box
    have hbx4 := hbx.kept hk2 (by omega)
    have hown4 := own_kept hown hk2 (fun g hg e => own_obj_ne hown hx1.loop.rec_ (fun _ _ _ h => by cases h) (e ▸ hg))
    have hgl : ∀ g, gv.ownBlock = some g → L + 2 ≤ g := fun g hg => (hown.lt g hg).1
    have c0 := hbx4.cell 0
    have cb := hb3.cell 0
    simp only [List.getElem?_toArray, List.getElem?_cons_zero] at c0 cb
    have h1c : Hid (∀ u ∈ (#[.int .i64 s.node] : Array Value).toList, u.oneCell' = true) := Lib.hid (by simp [Value.oneCell'])
    have HX := Lib.hid hx1
    have HK := Lib.hid hk2
    have L3 := Lib.hid hl3
    have HO := Lib.hid hown4
    have HO1 := Lib.hid hown
    have HBX := Lib.hid hbx4
    have HG := Lib.hid hgl
    clear hx1 hk2 hl3 hl2 hown hown4 hbx hgl
    refine ⟨W4, hbr, ?_⟩
    clear hbr
    obtain ⟨A, cap, rfl⟩ := own_slice HO.out
    gi_wp2_with (gi_at_builtin; refine listIn_push _ rfl (.tmp 14) (.tmp 17) 27 rfl (L + 2) 3 i0 (.int .i64 0) 1 8 Tryz.underlying27 hi hz0 hz1 hz2 rfl (by decide) (.slice A V.length cap) V.length _ rfl (HO.out.alloc _) W4.heap.size #[.int .i64 s.node] rfl (Blk.new _ _ _) rfl h1c.out (by omega) (by omega) (by omega) (fun g2 cap2 w5 hown5 hgrow5 hat5 hlt5 => ?_); have b5 := (HBX.out.alloc (.cells #[.int .i64 s.node] 3)).grown hgrow5 (fun e => by have := HG.out _ e.symm; omega); have x5 := b5.cell 0; have y5 := b5.frozen 0; simp only [List.getElem?_toArray, List.getElem?_cons_zero] at x5; have B5 := Lib.hid b5; have O5 := Lib.hid hown5; have G5 := Lib.hid hgrow5; clear b5 hown5 hgrow5 hat5)
    have k5 : Kept (fun b => b = w.heap.size ∨ (Value.slice A V.length cap).ownBlock = some b) W4 (w5.setCell ⟨w.heap.size, 0, none⟩ (.slice (some ⟨g2, 0, none⟩) (V.length + 1) cap2)) :=
      (((Kept.refl _ W4).alloc _).grown G5.out (fun k hk => .inl (.inr hk))).setCell (p := ⟨w.heap.size, 0, none⟩) (.inl (.inl rfl)) _
    have b6 := B5.out.set_ 0 (.slice (some ⟨g2, 0, none⟩) (V.length + 1) cap2)
    have o6 := own_kept O5.out (Kept.set1 w5 w.heap.size 0 (.slice (some ⟨g2, 0, none⟩) (V.length + 1) cap2)) (fun k hk e => by have := (O5.out.lt k hk).1; omega)
    have l6 := L3.out.kept k5 (fun hc => by rcases hc with hc | hc; omega; have := HG.out _ hc; omega) (fun hc => by rcases hc with hc | hc; omega; have := HG.out _ hc; omega)
    generalize w5.setCell ⟨w.heap.size, 0, none⟩ (.slice (some ⟨g2, 0, none⟩) (V.length + 1) cap2) = W6 at *
    have k7 := Kept.putObj W6 (L + 1) (.loop r)
    have kk : Kept (fun b => b = L + 1 ∨ b = w.heap.size ∨ (Value.slice A V.length cap).ownBlock = some b) W1 (W6.putObj (L + 1) (.loop r)) :=
      ((HK.out.mono (fun _ _ h => .inl h)).trans (k5.mono (fun _ _ h => .inr h))).trans (k7.mono (fun _ _ h => .inl h))
    have hno : ∀ b, b < w.heap.size → ¬ (b = L + 1 ∨ b = w.heap.size ∨ (Value.slice A V.length cap).ownBlock = some b) := by
      rintro b hb (e | e | e)
      · omega
      · omega
      · have := HG.out _ e
        omega
    refine ⟨_, _, l6.end_ e5 e6, kk.mono ?_, rfl, l6.put r, HX.out.fr.keep kk (hno _ l1) (hno _ l2) (hno _ l3) (fun g hg => hno _ (l4 g hg)) (fun x g hg => hno _ (l5 x g hg)), ⟨.slice (some ⟨g2, 0, none⟩) (V.length + 1) cap2, ?_, ?_⟩, HX.out.kept.then_ kk (fun i hi e => hno i hi e)⟩
    · rintro b hb (e | e | e)
      · exact .inl ⟨by omega, .inl e⟩
      · exact .inl ⟨by omega, .inr e⟩
      · exact .inr ⟨by have := HG.out _ e; omega, own_heap HO1.out e⟩
    · have := b6.kept k7 (by omega)
      simpa using this
    · rw [List.length_append, List.length_singleton, List.map_append]
      exact own_kept o6 k7 (fun g hg e => by have := (o6.lt g hg).1; omega)
  · clear e1 e2 e3 e4
    have hn4 := H0.out.hn
    rintro e W' ⟨rfl, ⟨O, hs, hx1⟩ | hf⟩
    · have hbd := hs.bound H0.out.fine hx
      have hcr := class_of H0.out.fine hx hs
      have hpos : 0 < O.length := by
        have := hs.head
        exact (List.getElem?_eq_some_iff.1 this).1
      refine ⟨none, _, hx1.loop.over_ e5 e6, ?_⟩
      have k7 := Kept.putObj W' (L + 1) (.loop (overRec r))
      have l7 := hx1.loop.put (overRec r)
      obtain ⟨gv, hbx, hown⟩ := hx1.box
      have b7 := hbx.kept k7 (by omega)
      have o7 := own_kept hown k7 (fun g hg e => own_obj_ne hown hx1.loop.rec_ (fun _ _ _ h => by cases h) (e ▸ hg))
      have kk7 := hx1.kept.then_ k7 (fun i hi e => absurd e (by omega))
      generalize W'.putObj (L + 1) (.loop (overRec r)) = W7 at *
      rw [show O.map (fun s => Value.int .i64 s.node) = (O.map Stp.node).map (Value.int .i64) by simp, ← List.length_map (f := Stp.node)] at o7
      rw [← List.length_map (f := Stp.node)] at hpos hbd
      clear hs hx1 hbx hown k7
      generalize O.map Stp.node = zs at *
      obtain ⟨g, cap, rfl, _, _, _⟩ := own_form o7 hpos
      have hg7 := (o7.lt g rfl).1
      have x0 := b7.cell 0
      simp only [List.getElem?_toArray, List.getElem?_cons_zero] at x0
      have O7 := Lib.hid o7
      have B7 := Lib.hid b7
      have L7 := Lib.hid l7
      have K7 := Lib.hid kk7
      have HC := Lib.hid hcr
      clear o7 b7 l7 kk7 hcr
      go_wp2_with (go_at_call 74; refine (sort_own O7.out (by omega)).mono ?_; rintro e w8 ⟨rfl, ho8, hg8⟩; have b8 := B7.out.grown hg8 (fun e => by injection e with e; omega); have x8 := b8.cell 0; have y8 := b8.frozen 0; simp only [List.getElem?_toArray, List.getElem?_cons_zero] at x8; have O8 := Lib.hid ho8; have G8 := Lib.hid hg8; have B8 := Lib.hid b8; clear ho8 hg8 b8)
      have k8 : Kept (fun b => b = g ∨ b = w.heap.size) W7 (w8.setCell ⟨w.heap.size, 0, none⟩ (.slice (some ⟨g, 0, none⟩) zs.length cap)) :=
        ((Kept.refl _ W7).grown G8.out (fun z hz => .inl (.inl (by injection hz with hz; exact hz.symm)))).setCell (p := ⟨w.heap.size, 0, none⟩) (.inl (.inr rfl)) _
      have b9 := B8.out.set_ 0 (.slice (some ⟨g, 0, none⟩) zs.length cap)
      have o9 := own_kept O8.out (Kept.set1 w8 w.heap.size 0 (.slice (some ⟨g, 0, none⟩) zs.length cap)) (fun k hk e => by have := (O8.out.lt k hk).1; omega)
      have l9 := L7.out.kept k8 (by omega) (by omega)
      generalize w8.setCell ⟨w.heap.size, 0, none⟩ (.slice (some ⟨g, 0, none⟩) zs.length cap) = w9 at *
      have k9 := Kept.putObj w9 L (.deferred none)
      have x9 := (b9.kept k9 (by omega)).cell 0
      simp at x9
      refine ⟨by simp, .inl ⟨_, _, rfl, run_takeDeferred l9.def_, ?_⟩⟩
      refine ⟨.slice (some ⟨g, 0, none⟩) zs.length cap, by simp [results, Tryz.results52, go_sem, x9], .slice (some ⟨g, 0, none⟩) zs.length cap, zs.mergeSort fun x y => decide (x ≤ y), rfl, HC.out, ⟨?_, ?_⟩, ((K7.out.then_ k8 (fun i hi e => by rcases e with e | e <;> omega)).then_ k9 (fun i hi e => absurd e (by omega))).to_below⟩
      · rw [List.length_mergeSort]
        exact own_base (own_kept o9 k9 (fun q hq e => by have := (o9.lt q hq).1; omega)) (fun q hq => by have := (o9.lt q hq).1; omega)
      · rw [List.length_mergeSort]
        omega
    · exact hf.elim
def RepR (n : Int) (J : List Jn) (a r : Int) : Prop := (0 ≤ r ∧ r < n) ∧ cls J r = cls J a ∧ ∀ x, 0 ≤ x → x < n → cls J x = cls J a → r ≤ x
theorem ClassR.rep {a : Int} {ss : List Int} (h : ClassR n J a ss) (ha : 0 ≤ a ∧ a < n) : ∃ (hp : 0 < ss.length), RepR n J a ss[0] := by
  have hm := (h.1 a).2 ⟨ha, rfl⟩
  have hp : 0 < ss.length := List.length_pos_of_mem hm
  refine ⟨hp, ?_⟩
  have h0 := (h.1 ss[0]).1 (List.getElem_mem hp)
  refine ⟨h0.1, h0.2, fun x h1 h2 h3 => ?_⟩
  obtain ⟨i, hi, rfl⟩ := List.mem_iff_getElem.1 ((h.1 x).2 ⟨⟨h1, h2⟩, h3⟩)
  rcases Nat.eq_zero_or_pos i with rfl | hpos
  · exact Int.le_refl _
  · exact Int.le_of_lt (List.pairwise_iff_getElem.1 h.2 0 i hp hi hpos)
theorem rep_ok (h : FR w B bf bn bp lj N n J m) (x : Int) (hx : 0 ≤ x ∧ x < n) :
    Calls Tryz.prog 27 #[.pointer (some ⟨bf, 0, none⟩), .int .i64 x] w fun e w' => ∃ r, e = .returned (.int .i64 r) ∧ RepR n J x r ∧ Below w.heap.size w w' := by
  have H := Lib.hid h
  have d1 : decide (0 ≤ x ∧ x < n) = true := decide_eq_true hx
  clear h
  go_enter Tryz.func27, Tryz.ntmps27
  go_wp2_with fail
  refine (is_ok H.out _).mono ?_
  rintro e w1 ⟨rfl, rfl⟩
  rw [d1]
  go_wp2_with fail
  refine (class_walk H.out x hx).mono ?_
  rintro e w2 ⟨v, ss, rfl, hc, hr, hb⟩
  obtain ⟨hp, hrep⟩ := hc.rep hx
  obtain ⟨g, cap, rfl, _, _, _⟩ := own_form hr.1 hp
  have e0 := hr.1.cells (g := g) rfl 0 (.int .i64 ss[0]) (by rw [List.getElem?_map, List.getElem?_eq_getElem hp]; rfl)
  rw [addr_add] at e0
  have HB := Lib.hid hb
  have HR := Lib.hid hrep
  clear hb hrep hr hc
  generalize ss[0] = r at *
  generalize ss.length = q at *
  go_wp2
  go_ret
  exact ⟨_, rfl, HR.out, HB.out⟩
end
end Go.Proofs.YtkapbdjobfbhhaaGreat
namespace Go.Proofs.YtkapbdjobfbhhaaGreat
open Go.RowKit Go.Lib
theorem Tree.last {J : List Jn} {j : Jn} (h : Tree (J ++ [j])) : Tree J ∧ ¬ Conn J j.a j.b := by
  generalize hK : J ++ [j] = K at h
  cases h with
  | nil => simp at hK
  | snoc hT hn =>
    obtain ⟨rfl, he⟩ := List.append_inj' hK rfl
    injection he with he
    subst he
    exact ⟨hT, hn⟩
theorem least_of {P : Nat → Prop} (k : Nat) (hk : P k) : ∃ m, P m ∧ ∀ j, P j → m ≤ j := by
  induction k using Nat.strongRecOn with
  | _ k ih =>
    by_cases h : ∃ j, j < k ∧ P j
    · obtain ⟨j, h1, h2⟩ := h
      exact ih j h1 h2
    · exact ⟨k, hk, fun j hj => Nat.le_of_not_lt fun hlt => h ⟨j, hlt, hj⟩⟩
theorem rep_exists {n : Int} {J : List Jn} {a : Int} (ha : 0 ≤ a ∧ a < n) : ∃ r, RepR n J a r := by
  obtain ⟨m, h1, h2⟩ := least_of (P := fun k : Nat => cls J (k : Int) = cls J a) a.toNat (by rw [Int.toNat_of_nonneg ha.1])
  have h3 := h2 a.toNat (by rw [Int.toNat_of_nonneg ha.1])
  refine ⟨m, ⟨by omega, by omega⟩, h1, fun x h4 h5 h6 => ?_⟩
  have h7 := h2 x.toNat (by rw [Int.toNat_of_nonneg h4]; exact h6)
  omega
theorem RepR.one {n : Int} {J : List Jn} {a b r s : Int} (h : RepR n J a r) (k : RepR n J b s) (hc : cls J a = cls J b) : r = s := by
  have h1 := h.2.2 s k.1.1 k.1.2 (by rw [k.2.1, hc])
  have h2 := k.2.2 r h.1.1 h.1.2 (by rw [h.2.1, hc])
  omega
theorem RepR.self {n : Int} {J : List Jn} {a r : Int} (h : RepR n J a r) : RepR n J r r := ⟨h.1, rfl, fun x h1 h2 h3 => h.2.2 x h1 h2 (h3.trans h.2.1)⟩
theorem rep_snoc {n : Int} {J : List Jn} {j : Jn} {ra rb : Int} (hc : ¬ cls J j.a = cls J j.b) (ha : RepR n J j.a ra) (hb : RepR n J j.b rb) (i : Int) :
    RepR n (J ++ [j]) i i ↔ RepR n J i i ∧ i ≠ max ra rb := by
  have hab : ra ≠ rb := fun e => hc (by rw [← ha.2.1, e, hb.2.1])
  constructor
  · rintro ⟨hi, _, hm⟩
    have h1 : RepR n J i i := ⟨hi, rfl, fun x h1 h2 h3 => hm x h1 h2 (by rw [cls_snoc, cls_snoc, h3])⟩
    refine ⟨h1, fun e => ?_⟩
    rcases Int.lt_or_gt_of_ne hab with hlt | hlt
    · have e1 : i = rb := by omega
      have := hm ra ha.1.1 ha.1.2 (by rw [cls_snoc, cls_snoc, e1, ha.2.1, hb.2.1, if_neg hc, if_pos rfl])
      omega
    · have e1 : i = ra := by omega
      have := hm rb hb.1.1 hb.1.2 (by rw [cls_snoc, cls_snoc, e1, ha.2.1, hb.2.1, if_neg hc, if_pos rfl])
      omega
  · rintro ⟨h, hne⟩
    refine ⟨h.1, rfl, fun x h1 h2 h3 => ?_⟩
    rw [cls_snoc, cls_snoc] at h3
    by_cases hx : cls J x = cls J j.b
    · rw [if_pos hx] at h3
      by_cases hi : cls J i = cls J j.b
      · exact h.2.2 x h1 h2 (hx.trans hi.symm)
      · rw [if_neg hi] at h3
        have e1 := h.one ha h3.symm
        have e2 := hb.2.2 x h1 h2 hx
        omega
    · rw [if_neg hx] at h3
      by_cases hi : cls J i = cls J j.b
      · rw [if_pos hi] at h3
        have e1 := h.one hb hi
        have e2 := ha.2.2 x h1 h2 h3
        omega
      · rw [if_neg hi] at h3
        exact h.2.2 x h1 h2 h3
theorem count_less (p q : Nat → Bool) (M : Nat) (hM : p M = true) (h : ∀ i, q i = (p i && decide (i ≠ M))) : ∀ k, (List.range k).countP q + (if M < k then 1 else 0) = (List.range k).countP p
  | 0 => by simp
  | k + 1 => by
    have ih := count_less p q M hM h k
    rw [List.range_succ, List.countP_append, List.countP_append, List.countP_singleton, List.countP_singleton, h k]
    by_cases hk : k = M
    · subst hk
      rw [if_neg (Nat.lt_irrefl k)] at ih
      simp [hM]
      omega
    · rw [← ih]
      have e : decide (k ≠ M) = true := decide_eq_true hk
      rw [e, Bool.and_true]
      have : (M < k + 1) ↔ (M < k) := by omega
      simp only [this]
      omega
open Classical in
noncomputable def repCount (n : Int) (J : List Jn) (k : Nat) : Nat := (List.range k).countP fun (i : Nat) => decide (RepR n J (i : Int) (i : Int))
open Classical in
theorem rep_count {n : Int} : ∀ J : List Jn, Fine n J → repCount n J n.toNat + J.length = n.toNat := by
  intro J
  induction J using snoc_ind with
  | h0 =>
    intro _
    unfold repCount
    have : ∀ i ∈ List.range n.toNat, decide (RepR n [] (i : Int) i) = true := fun i hi => decide_eq_true ⟨by have := List.mem_range.1 hi; omega, rfl, fun x _ _ h => by
      have : x = (i : Int) := h
      omega⟩
    rw [List.countP_eq_length.2 this]
    simp
  | h1 J j ih =>
    intro hF
    obtain ⟨hT, hn⟩ := hF.tree.last
    have hj := hF.nodes j (by simp)
    have hF' : Fine n J := ⟨hT, fun x hx => hF.nodes x (List.mem_append_left _ hx)⟩
    have ih := ih hF'
    obtain ⟨ra, ha⟩ := rep_exists (J := J) hj.1
    obtain ⟨rb, hb⟩ := rep_exists (J := J) hj.2
    have hc : ¬ cls J j.a = cls J j.b := fun e => hn (conn_cls J e)
    have hM : RepR n J (max ra rb) (max ra rb) := by
      rcases Int.le_total ra rb with h | h
      · rw [Int.max_eq_right h]
        exact hb.self
      · rw [Int.max_eq_left h]
        exact ha.self
    obtain ⟨M, hMe⟩ := Int.eq_ofNat_of_zero_le hM.1.1
    have := count_less (fun i => decide (RepR n J (i : Int) i)) (fun i => decide (RepR n (J ++ [j]) (i : Int) i)) M (by
      rw [hMe] at hM
      exact decide_eq_true hM) (fun i => by
      rw [Bool.eq_iff_iff]
      simp only [decide_eq_true_eq, Bool.and_eq_true]
      rw [rep_snoc hc ha hb, hMe]
      exact and_congr Iff.rfl ⟨fun h e => h (by rw [e]), fun h e => h (by omega)⟩) n.toNat
    rw [if_pos (by have := hM.1.2; omega)] at this
    unfold repCount at *
    rw [List.length_append, List.length_singleton]
    omega
end Go.Proofs.YtkapbdjobfbhhaaGreat

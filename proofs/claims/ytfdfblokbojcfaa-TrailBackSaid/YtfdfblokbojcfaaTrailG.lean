/- above, Back. -/
import Derived.Test.YtfdfblokbojcfaaTrailF
import Derived.Test.YtfdfblokbojcfaaTrailD
namespace Go.Proofs.Ytfdfblokbojcfaa
open Go.RowKit
attribute [local go_sem] Oper.semAt_some

theorem above_ok {w : World} (v : Value) (lev : Int) (hv : v = .pointer none ∨ ∃ a, v = .pointer (some a)) :
    Calls Try.prog 27 #[v, .int .i64 lev] w fun e w' => e = .returned (.func (.func 35) #[] #[.pointer (some ⟨w.heap.size, 0, none⟩), .pointer (some ⟨w.heap.size + 1, 0, none⟩)]) ∧
      (w.alloc (.cells #[v] 25)).alloc (.cells #[.int .i64 lev] 3) = w' := by
  rcases hv with rfl | ⟨a, rfl⟩
  · go_enter Try.func27, Try.ntmps27
    go_wp2
    go_ret
    exact ⟨rfl, rfl⟩
  · go_enter Try.func27, Try.ntmps27
    go_wp2
    go_ret
    exact ⟨rfl, rfl⟩

theorem TR.keep {S : Nat → Prop} {w w' : World} {B bt ba : Nat} {lv : Value} {M : Tr} (h : TR w B bt ba lv M) (hk : Kept S w w') (h1 : ¬ S bt) (h2 : ¬ S ba) (h3 : ∀ g, lv.ownBlock = some g → ¬ S g) : TR w' B bt ba lv M :=
  ⟨h.blk.kept hk h1, h.at_.kept hk h2, own_kept h.own hk h3, h.hbt, h.hba, h.ok⟩

theorem TR.setLevel {w : World} {B bt ba : Nat} {lv : Value} {M : Tr} (h : TR w B bt ba lv M) (lev : Nat) (hl : lev ≤ 65536) : TR (w.setCell ⟨bt, 2, none⟩ (.int .i64 lev)) B bt ba lv ⟨M.n, M.L, lev⟩ := by
  have hk := Kept.set1 w bt 2 (.int .i64 lev)
  refine ⟨?_, h.at_.kept hk (h.at_.ne_ h.blk (by decide)), own_kept h.own hk (fun g hg e => own_blk_ne h.own h.blk (by decide) (e ▸ hg)), h.hbt, h.hba, h.ok.lower lev hl⟩
  have := h.blk.set_ 2 (.int .i64 lev)
  simpa using this

/-- What Back's loop holds behind k rounds. -/
structure Got (w : World) (bt ba gb l D : Nat) (r : Loop) (M : Tr) (k : Nat) (W : World) : Prop where
  loop : LoopAt W l D r
  box : ∃ gv, Blk W gb 22 #[gv] ∧ W.ownsRow D 3 1 gv k ((M.L.reverse.take k).map fun p => .int .i64 p.lit)
  kept : Kept (fun b => b = bt ∨ b = ba) w W

theorem Got.keep {w W W' : World} {bt ba gb l D : Nat} {r : Loop} {M : Tr} {k : Nat} (h : Got w bt ba gb l D r M k W) (hk : Kept (fun b => b = bt ∨ b = ba) W W') (h1 : bt < w.heap.size) (h2 : ba < w.heap.size)
    (hg : w.heap.size ≤ gb) (hl : w.heap.size ≤ l) (hD : w.heap.size ≤ D) : Got w bt ba gb l D r M k W' := by
  obtain ⟨gv, hb, ho⟩ := h.box
  exact ⟨h.loop.kept hk (by omega) (by omega), ⟨gv, hb.kept hk (by omega), own_kept ho hk (fun g hg => by have := (ho.lt g hg).1; omega)⟩, h.kept.trans hk⟩

set_option maxHeartbeats 1000000 in
theorem back_ok {w : World} {B bt ba : Nat} {lv : Value} {M : Tr} (h : TR w B bt ba lv M) (lev : Nat) (hl : lev ≤ M.lv) :
    Calls Try.prog 21 #[.pointer (some ⟨bt, 0, none⟩), .int .i64 lev] w fun e w' => ∃ v lv', e = .returned (.tuple #[v, .int .i64 0]) ∧
      w'.ownsRow w.heap.size 3 1 v (above lev M.L) ((M.L.reverse.take (above lev M.L)).map fun p => .int .i64 p.lit) ∧
      TR w' B bt ba lv' ⟨M.n, M.L.take (M.L.length - above lev M.L), lev⟩ ∧ Kept (fun k => k = bt ∨ k = ba) w w' := by
  have c2 := h.blk.cell 2
  simp only [List.getElem?_toArray, List.getElem?_cons_zero, List.getElem?_cons_succ] at c2
  have q0 := h.blk.lt
  have d1 : decide ((lev : Int) < 0) = false := by simp
  have d2 : decide (M.lv < lev) = false := by simp; omega
  refine callsIn_wide.1 (callsIn_of_wp_marks (n := 2) Try.func21 rfl trivial (wpIn_wide.2 ?_) rfl)
  simp only [Try.ntmps21, List.size_toArray, List.length_cons, List.length_nil, Nat.reduceAdd, Nat.reduceSub, Array.replicate_succ, Array.replicate_zero, List.push_toArray, List.append_toArray, List.nil_append, List.cons_append]
  go_wp2_with (go_at_call 27; refine (above_ok _ _ (.inr ⟨_, rfl⟩)).mono ?_; rintro e w1 ⟨rfl, rfl⟩)
  have hba := h.at_.lt
  have hM := h.ok
  have hN := hM.n
  have hlen := hM.len
  have hle := above_le lev M.L
  obtain ⟨W3, hW3⟩ : ∃ W3, ((w.alloc (.cells #[.slice none 0 0] 22)).alloc (.cells #[.pointer (some ⟨bt, 0, none⟩)] 25)).alloc (.cells #[.int .i64 lev] 3) = W3 := ⟨_, rfl⟩
  have hs3 : w.heap.size + 3 ≤ W3.heap.size := by rw [← hW3]; simp
  have hk3 : Kept (fun b => b = bt ∨ b = ba) w W3 := by rw [← hW3]; exact (((Kept.refl _ w).alloc _).alloc _).alloc _
  have ht3 : TR W3 B bt ba lv M := by rw [← hW3]; exact ⟨((h.blk.alloc _).alloc _).alloc _, ((h.at_.alloc _).alloc _).alloc _, ((h.own.alloc _).alloc _).alloc _, h.hbt, h.hba, h.ok⟩
  have hg3 : Blk W3 w.heap.size 22 #[.slice none 0 0] := by rw [← hW3]; exact ((Blk.new w _ _).alloc _).alloc _
  have hx1 : Blk W3 (w.heap.size + 1) 25 #[.pointer (some ⟨bt, 0, none⟩)] := by rw [← hW3]; exact (Blk.new_at (by simp) _ _).alloc _
  have hx2 : Blk W3 (w.heap.size + 1 + 1) 3 #[.int .i64 lev] := by rw [← hW3]; exact Blk.new_at (by simp) _ _
  rw [hW3]
  clear hW3 h
  have hn2 : w.heap.size + 1 + 1 ≠ ba := by omega
  obtain ⟨i0, hi, hz0, hz1, hz2⟩ := info_parts int_info
  refine wpIn_wide.1 (rangeFunc_wide (n := 2) (gf := 35) rfl (fun _ _ => by simp [invoke, go_sem]) fun fn r hr => ?_)
  refine callsIn_wide.2 ((above_iter (W3.heap.size + 1) B bt ba (w.heap.size + 1) (w.heap.size + 1 + 1) lev M hM (Got w bt ba w.heap.size (W3.heap.size + 1) W3.heap.size r M)
    (fun k W W' hx hk => hx.keep hk q0 hba (Nat.le_refl _) (by omega) (by omega)) ?_ _ ?_ ?_ hn2).mono ?_)
  · intro k W hk hi2 hx hmid
    have e1 := congrArg Loop.tmps hr
    have e2 := congrArg Loop.params hr
    have e3 := congrArg Loop.assign hr
    have e4 := congrArg Loop.body hr
    have e5 := congrArg Loop.state hr
    simp only [loopRec] at e1 e2 e3 e4 e5
    refine ⟨_, _, _, _, run_yield hx.loop.rec_ (by rw [e2]; rfl), ?_⟩
    rw [e1, e2, e3, e4]
    have e6 := congrArg Loop.pending hr
    simp only [loopRec] at e6
    clear e1 e2 e3 e4 hr
    refine roundIn_of_wpIn trivial ?_
    generalize hlit : M.L[M.L.length - 1 - k].lit = lit
    have Hlit := Lib.hid hlit
    clear hlit
    simp only [List.zip_toArray, List.zip_cons_cons, List.zip_nil_right, List.foldl_toArray', List.foldl_cons, List.foldl_nil, List.setIfInBounds_toArray, List.set_cons_succ, List.set_cons_zero]
    have hbr := Lib.hid (hx.loop.begin_ (P := Try.prog) e5)
    have hk2 := Kept.putObj W (W3.heap.size + 1) (.loop (busyRec r))
    have hl2 := hx.loop.put (busyRec r)
    obtain ⟨gv, hbox, hown⟩ := hx.box
    have hne2 : gv.ownBlock ≠ some (W3.heap.size + 1) := own_obj_ne hown hx.loop.rec_ (fun _ _ _ h => by cases h)
    have hne3 : gv.ownBlock ≠ some W3.heap.size := own_obj_ne hown hx.loop.def_ (fun _ _ _ h => by cases h)
    have hne4 : gv.ownBlock ≠ some w.heap.size := own_blk_ne hown hbox (by decide)
    have hb2 := hbox.kept hk2 (by omega)
    have ho2 := own_kept hown hk2 (fun g hg e => hne2 (e ▸ hg))
    have hsz := hx.loop.lt
    have hsz2 := hk2.size
    have hgvb : ∀ g, gv.ownBlock = some g → W3.heap.size ≤ g := fun g hg => (hown.lt g hg).1
    generalize W.putObj (W3.heap.size + 1) (.loop (busyRec r)) = W2 at *
    have b0 := hb2.cell 0
    simp only [List.getElem?_toArray, List.getElem?_cons_zero] at b0
    have h1c : Hid (∀ u ∈ #[Value.int .i64 lit].toList, u.oneCell' = true) := Lib.hid (by simp [Value.oneCell'])
    have Hown := Lib.hid ho2
    have Hown0 := Lib.hid hown
    have Hx := Lib.hid hx
    have Hmid := Lib.hid hmid
    have Hne2 := Lib.hid hne2
    have Hne3 := Lib.hid hne3
    have Hne4 := Lib.hid hne4
    have Hgvb := Lib.hid hgvb
    clear hown ho2 hx hmid hne2 hne3 hne4 hgvb
    gi_wp2
    refine ⟨W2, hbr.out, ?_⟩
    gi_wp2_with (gi_at_builtin; refine listIn_push _ rfl (.tmp 23) (.tmp 25) 22 rfl W3.heap.size 3 i0 (.int .i64 0) 1 8 Try.underlying22 hi hz0 hz1 hz2 rfl (by decide) gv k _ rfl (Hown.out.alloc _) W2.heap.size #[.int .i64 lit] rfl (Blk.new _ _ _) rfl h1c.out (by omega) (by omega) (by omega) (fun g2 cap2 w1 hown1 hgrow hat hlt1 => ?_); have b1 := (hb2.alloc (.cells #[.int .i64 lit] 3)).grown hgrow (fun e => Hne4.out e.symm); have b1c := b1.cell 0; have b1f := b1.frozen 0; simp only [List.getElem?_toArray, List.getElem?_cons_zero] at b1c)
    have k5 : Kept (fun b => b = w.heap.size ∨ gv.ownBlock = some b) W2 (w1.setCell ⟨w.heap.size, 0, none⟩ (.slice (some ⟨g2, 0, none⟩) (k + 1) cap2)) :=
      (((Kept.refl _ W2).alloc _).grown hgrow (fun k hk => .inl (.inr hk))).setCell (p := ⟨w.heap.size, 0, none⟩) (.inl (.inl rfl)) _
    have b5 := b1.set_ 0 (.slice (some ⟨g2, 0, none⟩) (k + 1) cap2)
    have o5 := own_kept hown1 (Kept.set1 w1 w.heap.size 0 (.slice (some ⟨g2, 0, none⟩) (k + 1) cap2)) (fun k hk e => own_blk_ne hown1 b1 (by decide) (e ▸ hk))
    have l5 := hl2.kept k5 (fun hc => by rcases hc with hc | hc; omega; exact Hne2.out hc) (fun hc => by rcases hc with hc | hc; omega; exact Hne3.out hc)
    generalize w1.setCell ⟨w.heap.size, 0, none⟩ (.slice (some ⟨g2, 0, none⟩) (k + 1) cap2) = W5 at *
    have k6 : Kept (fun b => b = W3.heap.size + 1 ∨ b = w.heap.size ∨ gv.ownBlock = some b) W (W5.putObj (W3.heap.size + 1) (.loop r)) :=
      ((hk2.mono (fun _ _ h => .inl h)).trans (k5.mono (fun _ _ h => .inr h))).trans ((Kept.putObj W5 _ _).mono (fun _ _ h => .inl h))
    refine ⟨_, _, l5.end_ e5 e6, rfl, ⟨l5.put r, ⟨.slice (some ⟨g2, 0, none⟩) (k + 1) cap2, b5.kept (Kept.putObj W5 _ _) (by omega), ?_⟩, ?_⟩, ?_⟩
    · have o6 := own_kept o5 (Kept.putObj W5 (W3.heap.size + 1) (.loop r)) (fun g hg e => own_obj_ne o5 l5.rec_ (fun _ _ _ h => by cases h) (e ▸ hg))
      have : (M.L.reverse.take (k + 1)).map (fun p => Value.int .i64 p.lit) = (M.L.reverse.take k).map (fun p => Value.int .i64 p.lit) ++ [.int .i64 lit] := by
        rw [List.take_succ_eq_append_getElem (by rw [List.length_reverse]; omega), List.map_append, List.getElem_reverse, ← Hlit.out]
        rfl
      rw [this]
      exact o6
    · exact Hx.out.kept.then_ k6 (fun i hi hc => by
        rcases hc with hc | hc | hc
        · omega
        · omega
        · have := Hgvb.out i hc; omega)
    · obtain ⟨lv2, ht⟩ := Hmid.out.tr
      refine ⟨⟨lv2, ht.keep k6 ?_ ?_ ?_⟩, Hmid.out.x1.kept k6 ?_, Hmid.out.x2.kept k6 ?_⟩
      · intro hc
        rcases hc with hc | hc | hc
        · omega
        · omega
        · have := Hgvb.out _ hc; omega
      · intro hc
        rcases hc with hc | hc | hc
        · omega
        · omega
        · have := Hgvb.out _ hc; omega
      · intro g hg hc
        rcases hc with hc | hc | hc
        · exact own_obj_ne ht.own Hx.out.loop.rec_ (fun _ _ _ h => by cases h) (hc ▸ hg)
        · exact own_blk_ne ht.own hbox (by decide) (hc ▸ hg)
        · exact own_own_ne ht.own Hown0.out (by decide) hg hc
      · intro hc
        rcases hc with hc | hc | hc
        · omega
        · omega
        · have := Hgvb.out _ hc; omega
      · intro hc
        rcases hc with hc | hc | hc
        · omega
        · omega
        · have := Hgvb.out _ hc; omega
  · refine ⟨⟨lv, ?_⟩, (hx1.alloc _).alloc _, (hx2.alloc _).alloc _⟩
    rw [Nat.sub_zero, List.take_length]
    exact ⟨(ht3.blk.alloc _).alloc _, (ht3.at_.alloc _).alloc _, (ht3.own.alloc _).alloc _, ht3.hbt, ht3.hba, ht3.ok⟩
  · exact ⟨LoopAt.new _ _, ⟨_, (hg3.alloc _).alloc _, World.ownsRow_nil _ _ _ _⟩, (hk3.alloc _).alloc _⟩
  · have e5 := congrArg Loop.state hr
    have e6 := congrArg Loop.pending hr
    simp only [loopRec] at e5 e6
    clear hr
    rintro e W' ⟨rfl, hx, hmid⟩
    refine ⟨none, _, hx.loop.over_ e5 e6, ?_⟩
    have k7 := Kept.putObj W' (W3.heap.size + 1) (.loop (overRec r))
    have l7 := hx.loop.put (overRec r)
    obtain ⟨gv, hb, ho⟩ := hx.box
    obtain ⟨lv2, ht⟩ := hmid.tr
    have hb7 := hb.kept k7 (by omega)
    have ho7 := own_kept ho k7 (fun g hg e => own_obj_ne ho hx.loop.rec_ (fun _ _ _ h => by cases h) (e ▸ hg))
    have ht7 := ht.keep k7 (by omega) (by omega) (fun g hg e => own_obj_ne ht.own hx.loop.rec_ (fun _ _ _ h => by cases h) (e ▸ hg))
    have kk7 := hx.kept.then_ k7 (fun i hi e => absurd e (by omega))
    generalize W'.putObj (W3.heap.size + 1) (.loop (overRec r)) = W7 at *
    have x0 := hb7.cell 0
    have x1 := hb7.frozen 0
    have x2 := ht7.blk.cell 2
    have x3 := ht7.blk.frozen 2
    simp only [List.getElem?_toArray, List.getElem?_cons_zero, List.getElem?_cons_succ] at x0 x2
    have n1 : w.heap.size ≠ bt := by omega
    have n2 : bt ≠ w.heap.size := by omega
    have Ht7 := Lib.hid ht7
    have Hk7 := Lib.hid kk7
    have Hl7 := Lib.hid l7
    have Ho7 := Lib.hid ho7
    obtain ⟨A, cap, rfl⟩ := own_slice ho7
    clear ht7 kk7 l7 ho7 hx hmid ht ho hb k7
    go_wp2
    have hk8 : Kept (fun b => b = bt ∨ b = w.heap.size) W7 ((W7.setCell ⟨bt, 2, none⟩ (.int .i64 lev)).setCell ⟨w.heap.size, 0, none⟩ (.slice A (above lev M.L) cap)) :=
      ((Kept.refl _ W7).setCell (p := ⟨bt, 2, none⟩) (.inl (.inl rfl)) _).setCell (p := ⟨w.heap.size, 0, none⟩) (.inl (.inr rfl)) _
    have l8 := Hl7.out.kept hk8 (by omega) (by omega)
    have b8 : Blk ((W7.setCell ⟨bt, 2, none⟩ (.int .i64 lev)).setCell ⟨w.heap.size, 0, none⟩ (.slice A (above lev M.L) cap)) w.heap.size 22 #[.slice A (above lev M.L) cap] := by
      have := (hb7.far (p := ⟨bt, 2, none⟩) n1 (.int .i64 lev)).set_ 0 (.slice A (above lev M.L) cap)
      simpa using this
    have hgb := hb7.far (p := ⟨bt, 2, none⟩) n1 (.int .i64 lev)
    have hlv := hM.lv
    have t8 := (Ht7.out.setLevel lev (by omega)).keep (Kept.set1 _ w.heap.size 0 (.slice A (above lev M.L) cap)) n2 (by omega) (fun g hg e => own_blk_ne (Ht7.out.setLevel lev (by omega)).own hgb (by decide) (e ▸ hg))
    have o8 := own_kept Ho7.out hk8 (fun g hg hc => by have := (Ho7.out.lt g hg).1; omega)
    have kk8 := Hk7.out.then_ hk8 (fun i hi hc => by rcases hc with hc | hc; exact .inl hc; omega)
    generalize (W7.setCell ⟨bt, 2, none⟩ (.int .i64 lev)).setCell ⟨w.heap.size, 0, none⟩ (.slice A (above lev M.L) cap) = W8 at *
    have k9 := Kept.putObj W8 W3.heap.size (.deferred none)
    have x9 := (b8.kept k9 (by omega)).cell 0
    simp only [List.getElem?_toArray, List.getElem?_cons_zero] at x9
    refine ⟨by simp, .inl ⟨_, _, rfl, run_takeDeferred l8.def_, ?_⟩⟩
    refine ⟨.tuple #[.slice A (above lev M.L) cap, .int .i64 0], by simp [results, Try.results21, go_sem, x9], _, lv2, rfl, ?_, ?_, kk8.takeDef (by omega)⟩
    · exact own_base (own_kept o8 k9 (fun g hg e => own_obj_ne o8 l8.def_ (fun _ _ _ h => by cases h) (e ▸ hg))) (fun g hg => by have := (o8.lt g hg).1; omega)
    · exact t8.keep k9 (by omega) (by omega) (fun g hg e => own_obj_ne t8.own l8.def_ (fun _ _ _ h => by cases h) (e ▸ hg))

theorem back_arg {w : World} {B bt ba : Nat} {lv : Value} {M : Tr} (h : TR w B bt ba lv M) (lev : Int) (hl : lev < 0 ∨ (M.lv : Int) < lev) :
    Calls Try.prog 21 #[.pointer (some ⟨bt, 0, none⟩), .int .i64 lev] w fun e w' => e = .returned (.tuple #[.slice none 0 0, .int .i64 2]) ∧ Below w.heap.size w w' := by
  have c2 := h.blk.cell 2
  simp only [List.getElem?_toArray, List.getElem?_cons_zero, List.getElem?_cons_succ] at c2
  have q0 := h.blk.lt
  clear h
  generalize M.lv = k at *
  by_cases h1 : lev < 0
  · have d1 : decide (lev < 0) = true := by simpa using h1
    clear hl
    go_enter Try.func21, Try.ntmps21
    go_wp2
    exact bodyPost_ret (v := .tuple #[.slice none 0 0, .int .i64 2]) (by simp [results, Try.results21, go_sem]) rfl ⟨rfl, (Below.refl _ _).alloc (Nat.le_refl _) _⟩
  · have d1 : decide (lev < 0) = false := by simpa using h1
    have d2 : decide ((k : Int) < lev) = true := by simp; omega
    clear hl
    go_enter Try.func21, Try.ntmps21
    go_wp2
    exact bodyPost_ret (v := .tuple #[.slice none 0 0, .int .i64 2]) (by simp [results, Try.results21, go_sem]) rfl ⟨rfl, (Below.refl _ _).alloc (Nat.le_refl _) _⟩
theorem back_nil {w : World} (lev : Int) :
    Calls Try.prog 21 #[.pointer none, .int .i64 lev] w fun e w' => e = .returned (.tuple #[.slice none 0 0, .int .i64 3]) ∧ Below w.heap.size w w' := by
  go_enter Try.func21, Try.ntmps21
  go_wp2
  exact bodyPost_ret (v := .tuple #[.slice none 0 0, .int .i64 3]) (by simp [results, Try.results21, go_sem]) rfl ⟨rfl, (Below.refl _ _).alloc (Nat.le_refl _) _⟩
end Go.Proofs.Ytfdfblokbojcfaa

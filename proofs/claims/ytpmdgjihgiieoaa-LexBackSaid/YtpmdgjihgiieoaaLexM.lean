/- All. -/
import Derived.Test.YtpmdgjihgiieoaaLexL
namespace Go.Proofs.Ytpmdgjihgiieoaa
open Go.RowKit
attribute [local go_sem] Oper.semAt_some

theorem tok_info : (Try.prog.info? 29).map (fun i => (i.zero, i.size, i.bytes)) = some (some (.agg #[.int .i8 0, .string ⟨#[]⟩, .int .i64 0, .int .i64 0]), 4, 40) := by kernel_rfl

theorem tokens_ok {w : World} (s : ByteArray) :
    Calls Try.prog 14 #[.string s] w fun e w' => e = .returned (.func (.func 28) #[] #[.pointer (some ⟨w.heap.size, 0, none⟩)]) ∧ w.alloc (.cells #[.string s] 9) = w' := by
  go_enter Try.func14, Try.ntmps14
  go_wp2
  go_ret
  exact ⟨rfl, rfl⟩

/-- What All's loop holds behind some tokens; the three results' cells lie at B, B + 1, B + 2, the text's at B + 3. -/
structure Got (w : World) (B D : Nat) (s : ByteArray) (c1 c2 : Int) (acc : List Tk) (W : World) : Prop where
  box : ∃ gv, Blk W B 23 #[gv] ∧ W.ownsRow D 29 4 gv acc.length (acc.flatMap tkCells)
  at_ : Blk W (B + 1) 3 #[.int .i64 c1]
  err : Blk W (B + 2) 24 #[.int .i64 c2]
  str : Blk W (B + 3) 9 #[.string s]
  kept : Below B w W

theorem Got.keep {w W W' : World} {B D : Nat} {s : ByteArray} {c1 c2 : Int} {acc : List Tk} (h : Got w B D s c1 c2 acc W) (hk : Below W.heap.size W W') (hB : B ≤ W.heap.size) : Got w B D s c1 c2 acc W' := by
  obtain ⟨gv, hb, ho⟩ := h.box
  exact ⟨⟨gv, hb.below hk hb.lt, own_kept ho (Kept.of_below (S := fun _ => False) hk) (fun _ _ h => h)⟩, h.at_.below hk h.at_.lt, h.err.below hk h.err.lt, h.str.below hk h.str.lt, h.kept.trans (hk.mono hB)⟩
theorem LoopAt.keep {W W' : World} {l D : Nat} {r : Loop} (h : LoopAt W l D r) (hk : Below W.heap.size W W') : LoopAt W' l D r :=
  h.kept (Kept.of_below (S := fun _ => False) hk) (fun h => h) (fun h => h)

theorem Got.put {w W : World} {B D l D' : Nat} {s : ByteArray} {c1 c2 : Int} {acc : List Tk} {r : Loop} (h : Got w B D s c1 c2 acc W) (hl : LoopAt W l D' r) (hB : B + 3 < l) (r' : Loop) : Got w B D s c1 c2 acc (W.putObj l (.loop r')) := by
  obtain ⟨gv, hb, ho⟩ := h.box
  have hk := Kept.putObj W l (.loop r')
  have := h.at_.lt
  exact ⟨⟨gv, hb.kept hk (by omega), own_kept ho hk (fun g hg e => own_obj_ne ho hl.rec_ (fun _ _ _ h => by cases h) (e ▸ hg))⟩, h.at_.kept hk (by omega), h.err.kept hk (by omega), h.str.kept hk (by omega), h.kept.trans (hk.below (by omega) (fun k hk => by omega))⟩

/-- The results are written and the loop is left. -/
theorem Got.leave {w W : World} {B D : Nat} {s : ByteArray} {c1 c2 : Int} {acc : List Tk} {gv : Value} (h : Got w B D s c1 c2 acc W) (hgv : Blk W B 23 #[gv]) (ho : W.ownsRow D 29 4 gv acc.length (acc.flatMap tkCells)) (d1 d2 : Int) :
    Got w B D s d1 d2 acc ((((W.setCell ⟨B, 0, none⟩ gv).setCell ⟨B + 1, 0, none⟩ (.int .i64 d1)).setCell ⟨B + 1 + 1, 0, none⟩ (.int .i64 d2)).drew) := by
  have hk : Kept (fun b => b = B ∨ b = B + 1 ∨ b = B + 2) W ((((W.setCell ⟨B, 0, none⟩ gv).setCell ⟨B + 1, 0, none⟩ (.int .i64 d1)).setCell ⟨B + 1 + 1, 0, none⟩ (.int .i64 d2)).drew) :=
    ((((Kept.refl _ W).setCell (p := ⟨B, 0, none⟩) (.inl (.inl rfl)) _).setCell (p := ⟨B + 1, 0, none⟩) (.inl (.inr (.inl rfl))) _).setCell (p := ⟨B + 1 + 1, 0, none⟩) (.inl (.inr (.inr rfl))) _).drew
  refine ⟨⟨gv, ?_, own_kept ho hk ?_⟩, ?_, ?_, h.str.kept hk (by omega), h.kept.trans (hk.below (by have := h.at_.lt; omega) (fun k hk => by omega))⟩
  · exact ((hgv.set_ 0 gv).far (p := ⟨B + 1, 0, none⟩) (by simp) _).far (p := ⟨B + 1 + 1, 0, none⟩) (by simp; omega) _
  · intro g hg hc
    rcases hc with hc | hc | hc
    · exact own_blk_ne ho hgv (by decide) (hc ▸ hg)
    · exact own_blk_ne ho h.at_ (by decide) (hc ▸ hg)
    · exact own_blk_ne ho h.err (by decide) (hc ▸ hg)
  · exact ((h.at_.far (p := ⟨B, 0, none⟩) (by simp) _).set_ 0 (.int .i64 d1)).far (p := ⟨B + 1 + 1, 0, none⟩) (by simp) _
  · exact ((h.err.far (p := ⟨B, 0, none⟩) (by simp) _).far (p := ⟨B + 1, 0, none⟩) (by simp) _).set_ 0 (.int .i64 d2)
theorem Got.leave_kept {W : World} {B : Nat} (gv : Value) (d1 d2 : Int) : Kept (fun b => b = B ∨ b = B + 1 ∨ b = B + 2) W ((((W.setCell ⟨B, 0, none⟩ gv).setCell ⟨B + 1, 0, none⟩ (.int .i64 d1)).setCell ⟨B + 1 + 1, 0, none⟩ (.int .i64 d2)).drew) :=
    ((((Kept.refl _ W).setCell (p := ⟨B, 0, none⟩) (.inl (.inl rfl)) _).setCell (p := ⟨B + 1, 0, none⟩) (.inl (.inr (.inl rfl))) _).setCell (p := ⟨B + 1 + 1, 0, none⟩) (.inl (.inr (.inr rfl))) _).drew

theorem Got.undrew {w W : World} {B D : Nat} {s : ByteArray} {c1 c2 : Int} {acc : List Tk} (h : Got w B D s c1 c2 acc W.drew) : Got w B D s c1 c2 acc W :=
  ⟨h.box, h.at_, h.err, h.str, ⟨h.kept.os, h.kept.tape, h.kept.output, h.kept.size, h.kept.block⟩⟩
theorem LoopAt.undrew {W : World} {l D : Nat} {r : Loop} (h : LoopAt W.drew l D r) : LoopAt W l D r := ⟨h.rec_, h.def_, h.ne_⟩
/-- The block of deferred calls is taken. -/
theorem Got.take {w W : World} {B D l : Nat} {s : ByteArray} {c1 c2 : Int} {acc : List Tk} {r : Loop} (h : Got w B D s c1 c2 acc W) (hl : LoopAt W l D r) (hB : B + 3 < D) : Got w B D s c1 c2 acc (W.putObj D (.deferred none)) := by
  obtain ⟨gv, hb, ho⟩ := h.box
  have hk := Kept.putObj W D (.deferred none)
  have := h.at_.lt
  exact ⟨⟨gv, hb.kept hk (by omega), own_kept ho hk (fun g hg e => own_obj_ne ho hl.def_ (fun _ _ _ h => by cases h) (e ▸ hg))⟩, h.at_.kept hk (by omega), h.err.kept hk (by omega), h.str.kept hk (by omega), h.kept.trans (hk.below (by omega) (fun k hk => by omega))⟩

set_option maxHeartbeats 2000000 in
theorem all_ok (s : ByteArray) (w : World) (hs : s.size ≤ 1000000) :
    Calls Try.prog 8 #[.string s] w fun e w' => ∃ ts err v, Lexes (byts s) 0 ts err ∧
      e = .returned (.tuple #[v, .int .i64 (err.getD s.size : Nat), .int .i64 (if err.isSome then 20 else 0)]) ∧ w'.ownsRow w.heap.size 29 4 v ts.length (ts.flatMap tkCells) ∧ Below w.heap.size w w' := by
  refine callsIn_wide.1 (callsIn_of_wp_marks (n := 2) Try.func8 rfl trivial (wpIn_wide.2 ?_) rfl)
  simp only [Try.ntmps8, List.size_toArray, List.length_cons, List.length_nil, Nat.reduceAdd, Nat.reduceSub, Array.replicate_succ, Array.replicate_zero, List.push_toArray, List.append_toArray, List.nil_append, List.cons_append]
  go_wp2_with (go_at_call 14; refine (tokens_ok _).mono ?_; rintro e w1 ⟨rfl, rfl⟩)
  obtain ⟨i0, hi, hz0, hz1, hz2⟩ := info_parts tok_info
  obtain ⟨B, hB⟩ : ∃ B, w.heap.size = B := ⟨_, rfl⟩
  rw [hB]
  have hG0 : Got w B (B + 4) s 0 0 [] ((((w.alloc (.cells #[.slice none 0 0] 23)).alloc (.cells #[.int .i64 0] 3)).alloc (.cells #[.int .i64 0] 24)).alloc (.cells #[.string s] 9)) := by
    subst hB
    refine ⟨⟨.slice none 0 0, ((((Blk.new w _ _).alloc _).alloc _).alloc _), World.ownsRow_nil _ _ _ _⟩, ?_, ?_, ?_, ?_⟩
    · exact ((Blk.new_at (by simp) _ _).alloc _).alloc _
    · exact (Blk.new_at (by simp) _ _).alloc _
    · exact Blk.new_at (by simp) _ _
    · exact ((((Below.refl _ w).alloc (Nat.le_refl _) _).alloc (by simp) _).alloc (by simp; omega) _).alloc (by simp; omega) _
  obtain ⟨W3, hW3⟩ : ∃ W3, (((w.alloc (.cells #[.slice none 0 0] 23)).alloc (.cells #[.int .i64 0] 3)).alloc (.cells #[.int .i64 0] 24)).alloc (.cells #[.string s] 9) = W3 := ⟨_, rfl⟩
  have hs3 : W3.heap.size = B + 4 := by rw [← hW3]; simp [hB]
  rw [hW3] at hG0 ⊢
  clear hW3
  refine wpIn_wide.1 (rangeFunc_wide (n := 2) (gf := 28) rfl (fun _ _ => by simp [invoke, go_sem]) fun fn r hr => ?_)
  rw [hs3]
  refine callsIn_wide.2 ((tokens_iter (B + 4 + 1) (B + 3) s hs
    (fun acc W => LoopAt W (B + 4 + 1) (B + 4) r ∧ Got w B (B + 4) s 0 0 acc W)
    (fun acc n W => LoopAt W (B + 4 + 1) (B + 4) (doneRec r .ret) ∧ Got w B (B + 4) s n 20 acc W)
    (fun acc W W' hx hk => ⟨hx.1.keep hk, hx.2.keep hk (by have := hx.2.at_.lt; omega)⟩)
    (fun acc W hx => hx.2.str) ?_ ?_ _ ?_).mono ?_)
  · intro acc x W0 W g cs hx0 hk0 hg hbg hal
    have e1 := congrArg Loop.tmps hr
    have e2 := congrArg Loop.params hr
    have e3 := congrArg Loop.assign hr
    have e4 := congrArg Loop.body hr
    have e5 := congrArg Loop.state hr
    have e6 := congrArg Loop.pending hr
    simp only [loopRec] at e1 e2 e3 e4 e5 e6
    have hl := hx0.1.keep hk0
    have hsz0 := hx0.1.lt
    refine ⟨_, _, _, _, run_yield hl.rec_ (by rw [e2]; rfl), ?_⟩
    rw [e1, e2, e3, e4]
    clear e1 e2 e3 e4 hr
    refine roundIn_of_wpIn trivial ?_
    simp only [List.zip_toArray, List.zip_cons_cons, List.zip_nil_right, List.foldl_toArray', List.foldl_cons, List.foldl_nil, List.setIfInBounds_toArray, List.set_cons_succ, List.set_cons_zero]
    have hgb0 : g < W.heap.size := hbg.lt
    obtain ⟨gv, bb0, ho0⟩ := hx0.2.box
    have hgo0 : ∀ k, gv.ownBlock = some k → k < W0.heap.size := fun k hk => (ho0.lt k hk).2
    have hG := hx0.2.keep hk0 (by omega)
    have bb := bb0.below hk0 bb0.lt
    have ho := own_kept ho0 (Kept.of_below (S := fun _ => False) hk0) (fun _ _ h => h)
    clear bb0 ho0 hx0 hk0
    obtain ⟨⟨xk, xt, xa, xb⟩, hxe⟩ : ∃ y, x = y := ⟨_, rfl⟩
    subst hxe
    simp only
    have hba : Below W.heap.size W (W.alloc (.cells #[.int .i8 xk, .string ⟨xt.toArray⟩, .int .i64 xa, .int .i64 xb] 29)) := (Below.refl _ W).alloc (Nat.le_refl _) _
    have hbt : Blk (W.alloc (.cells #[.int .i8 xk, .string ⟨xt.toArray⟩, .int .i64 xa, .int .i64 xb] 29)) W.heap.size 29 #[.int .i8 xk, .string ⟨xt.toArray⟩, .int .i64 xa, .int .i64 xb] := Blk.new _ _ _
    have hl1 := hl.keep hba
    have hG1 := hG.keep hba (by omega)
    have bb1 := bb.below hba bb.lt
    have ho1 := own_kept ho (Kept.of_below (S := fun _ => False) hba) (fun _ _ h => h)
    have hbg1 := hbg.below hba hgb0
    clear hl hG bb ho hbg hba
    gi_wp2
    generalize W.alloc (.cells #[.int .i8 xk, .string ⟨xt.toArray⟩, .int .i64 xa, .int .i64 xb] 29) = W1 at *
    obtain ⟨gt, hgt⟩ : ∃ gt, W.heap.size = gt := ⟨_, rfl⟩
    rw [hgt] at hbt hgb0
    try rw [hgt]
    clear hgt
    have hbr := Lib.hid (hl1.begin_ (P := Try.prog) e5)
    have hkp := Kept.putObj W1 (B + 4 + 1) (.loop (busyRec r))
    have hl2 := hl1.put (busyRec r)
    have hG2 := hG1.put hl1 (by omega) (busyRec r)
    have bt := hbt.kept hkp (by omega)
    have bb2 := bb1.kept hkp (by omega)
    have bg2 := hbg1.kept hkp (by omega)
    have ho2 := own_kept ho1 hkp (fun k hk e => by have := hgo0 k hk; exact own_obj_ne ho1 hl1.rec_ (fun _ _ _ h => by cases h) (e ▸ hk))
    clear hl1 hG1 hbt bb1 hbg1 ho1 hkp
    generalize W1.putObj (B + 4 + 1) (.loop (busyRec r)) = W2 at *
    obtain ⟨t0, t1, t2, t3⟩ := cells4' bt
    have b0 := bb2.cell 0
    simp only [List.getElem?_toArray, List.getElem?_cons_zero] at b0
    have hsz2 := hl2.lt
    have hgs := bg2.lt
    have HG := Lib.hid hG2
    have HL := Lib.hid hl2
    have Hbb := Lib.hid bb2
    have Hbg := Lib.hid bg2
    have Ho := Lib.hid ho2
    have Hgo := Lib.hid hgo0
    have h1c : Hid (∀ u ∈ #[Value.int .i8 xk, .string ⟨xt.toArray⟩, .int .i64 xa, .int .i64 xb].toList, u.oneCell' = true) := Lib.hid (by simp [Value.oneCell'])
    clear hG2 hl2 bb2 bg2 ho2 hgo0 bt
    refine ⟨W2, hbr.out, ?_⟩
    gi_wp2_with (gi_at_builtin; refine listIn_push _ rfl (.tmp 17) (.tmp 19) 23 rfl (B + 4) 29 i0 (.agg #[.int .i8 0, .string ⟨#[]⟩, .int .i64 0, .int .i64 0]) 4 40 Try.underlying23 hi hz0 hz1 hz2 rfl (by decide) gv acc.length _ rfl (Ho.out.alloc _) W2.heap.size #[.int .i8 xk, .string ⟨xt.toArray⟩, .int .i64 xa, .int .i64 xb] rfl (Blk.new _ _ _) rfl h1c.out (by omega) (by omega) (by omega) (fun g2 cap2 w1 hown1 hgrow hat hlt1 => ?_); have b1 := (Hbb.out.alloc (.cells #[.int .i8 xk, .string ⟨xt.toArray⟩, .int .i64 xa, .int .i64 xb] 29)).grown hgrow (fun e => own_blk_ne Ho.out Hbb.out (by decide) e.symm); have b1c := b1.cell 0; have b1f := b1.frozen 0; simp only [List.getElem?_toArray, List.getElem?_cons_zero] at b1c)
    have hne4 := own_blk_ne Ho.out Hbb.out (by decide)
    have k5 : Kept (fun b => b = B ∨ gv.ownBlock = some b) W2 (w1.setCell ⟨B, 0, none⟩ (.slice (some ⟨g2, 0, none⟩) (acc.length + 1) cap2)) :=
      (((Kept.refl _ W2).alloc _).grown hgrow (fun k hk => .inl (.inr hk))).setCell (p := ⟨B, 0, none⟩) (.inl (.inl rfl)) _
    have b5 := b1.set_ 0 (.slice (some ⟨g2, 0, none⟩) (acc.length + 1) cap2)
    have o5 := own_kept hown1 (Kept.set1 w1 B 0 (.slice (some ⟨g2, 0, none⟩) (acc.length + 1) cap2)) (fun k hk e => own_blk_ne hown1 b1 (by decide) (e ▸ hk))
    have l5 := HL.out.kept k5 (fun hc => by rcases hc with hc | hc; omega; exact own_obj_ne Ho.out HL.out.rec_ (fun _ _ _ h => by cases h) hc) (fun hc => by rcases hc with hc | hc; omega; exact own_obj_ne Ho.out HL.out.def_ (fun _ _ _ h => by cases h) hc)
    have hgt : B < W2.heap.size := Hbb.out.lt
    have G5 : Got w B (B + 4) s 0 0 (acc ++ [⟨xk, xt, xa, xb⟩]) (w1.setCell ⟨B, 0, none⟩ (.slice (some ⟨g2, 0, none⟩) (acc.length + 1) cap2)) := by
      refine ⟨⟨_, b5, ?_⟩, HG.out.at_.kept k5 ?_, HG.out.err.kept k5 ?_, HG.out.str.kept k5 ?_, HG.out.kept.trans (k5.below (by omega) (fun k hk => ?_))⟩
      · rw [List.length_append, List.length_singleton, List.flatMap_append]
        exact o5
      · rintro (hc | hc)
        · omega
        · exact own_blk_ne Ho.out HG.out.at_ (by decide) hc
      · rintro (hc | hc)
        · omega
        · exact own_blk_ne Ho.out HG.out.err (by decide) hc
      · rintro (hc | hc)
        · omega
        · exact own_blk_ne Ho.out HG.out.str (by decide) hc
      · rcases hk with hk | hk
        · omega
        · have := (Ho.out.lt k hk).1; omega
    refine ⟨_, _, l5.end_ e5 e6, rfl, ⟨l5.put r, G5.put l5 (by omega) r⟩, (Hbg.out.kept k5 ?_).kept (Kept.putObj _ _ _) (by omega)⟩
    rintro (hc | hc)
    · omega
    · have := Hgo.out g hc; omega
  · intro acc n W hx hn
    have e1 := congrArg Loop.tmps hr
    have e2 := congrArg Loop.params hr
    have e3 := congrArg Loop.assign hr
    have e4 := congrArg Loop.body hr
    have e5 := congrArg Loop.state hr
    have e6 := congrArg Loop.pending hr
    simp only [loopRec] at e1 e2 e3 e4 e5 e6
    refine ⟨_, _, _, _, run_yield hx.1.rec_ (by rw [e2]; rfl), ?_⟩
    rw [e1, e2, e3, e4]
    clear e1 e2 e3 e4 hr
    refine roundIn_of_wpIn trivial ?_
    simp only [List.zip_toArray, List.zip_cons_cons, List.zip_nil_right, List.foldl_toArray', List.foldl_cons, List.foldl_nil, List.setIfInBounds_toArray, List.set_cons_succ, List.set_cons_zero]
    have hba : Below W.heap.size W (W.alloc (.cells #[.int .i8 0, .string ⟨#[]⟩, .int .i64 n, .int .i64 0] 29)) := (Below.refl _ W).alloc (Nat.le_refl _) _
    have hbt : Blk (W.alloc (.cells #[.int .i8 0, .string ⟨#[]⟩, .int .i64 n, .int .i64 0] 29)) W.heap.size 29 #[.int .i8 0, .string ⟨#[]⟩, .int .i64 n, .int .i64 0] := Blk.new _ _ _
    have hsz := hx.1.lt
    have hx1 := hx.1.keep hba
    have hx2 := hx.2.keep hba (by omega)
    clear hx hba
    gi_wp2
    generalize W.alloc (.cells #[.int .i8 0, .string ⟨#[]⟩, .int .i64 n, .int .i64 0] 29) = W1 at *
    obtain ⟨gt, hgt⟩ : ∃ gt, W.heap.size = gt := ⟨_, rfl⟩
    rw [hgt] at hbt hsz
    try rw [hgt]
    clear hgt
    have hbr := Lib.hid (hx1.begin_ (P := Try.prog) e5)
    have hl2 := hx1.put (busyRec r)
    have hG2 := hx2.put hx1 (by omega) (busyRec r)
    have bt := hbt.kept (Kept.putObj W1 (B + 4 + 1) (.loop (busyRec r))) (by omega)
    clear hx1 hx2 hbt
    generalize W1.putObj (B + 4 + 1) (.loop (busyRec r)) = W2 at *
    obtain ⟨gv, b2, ho⟩ := hG2.box
    obtain ⟨A, cap, rfl⟩ := own_slice ho
    have b0 := hG2.at_
    have b1 := hG2.err
    have HG5 := Lib.hid (hG2.leave b2 ho n 20)
    have HL5 := Lib.hid (hl2.kept (Got.leave_kept (B := B) (.slice A acc.length cap) n 20) (by omega) (by omega))
    clear ho hG2 hl2
    have c0 := b0.cell 0
    have c1 := b1.cell 0
    have c2 := b2.cell 0
    have f0 := b0.frozen 0
    have f1 := b1.frozen 0
    have f2 := b2.frozen 0
    have ct := bt.cell 2
    simp only [List.getElem?_toArray, List.getElem?_cons_zero, List.getElem?_cons_succ] at c0 c1 c2 ct
    have n1 : gt ≠ B := by omega
    have n2 : gt ≠ B + 1 := by omega
    have n3 : gt ≠ B + 2 := by omega
    have n4 : B ≠ gt := by omega
    have n5 : B + 1 ≠ gt := by omega
    have n6 : B + 2 ≠ gt := by omega
    clear b0 b1 b2 bt
    refine ⟨W2, hbr.out, ?_⟩
    gi_wp2
    gi_region
    all_goals (
      gi_wp2
      exact ⟨_, _, HL5.out.stop_ .ret, rfl, HL5.out.put _, HG5.out.put HL5.out (by omega) _⟩)
  · have h1 := LoopAt.new W3 r
    rw [hs3] at h1
    refine ⟨h1, ?_⟩
    exact (hG0.keep ((Below.refl _ W3).alloc (Nat.le_refl _) _) (by omega)).keep ((Below.refl _ _).alloc (Nat.le_refl _) _) (by simp; omega)
  · have e5 := congrArg Loop.state hr
    have e6 := congrArg Loop.pending hr
    simp only [loopRec] at e5 e6
    clear hr
    rintro e W' ⟨rfl, ts, err, hlex, hm⟩
    have Hlex := Lib.hid hlex
    clear hlex
    cases err with
    | none =>
      obtain ⟨hl, hG⟩ := hm
      refine ⟨none, _, hl.over_ e5 e6, ?_⟩
      have hl7 := hl.put (overRec r)
      have hG7 := hG.put hl (by omega) (overRec r)
      clear hl hG
      generalize W'.putObj (B + 4 + 1) (.loop (overRec r)) = W7 at *
      obtain ⟨gv, b2, ho⟩ := hG7.box
      obtain ⟨A, cap, rfl⟩ := own_slice ho
      have c0 := hG7.at_.cell 0
      have c1 := hG7.err.cell 0
      have c2 := b2.cell 0
      have f0 := hG7.at_.frozen 0
      have f1 := hG7.err.frozen 0
      have f2 := b2.frozen 0
      simp only [List.getElem?_toArray, List.getElem?_cons_zero] at c0 c1 c2
      have HG7 := Lib.hid hG7
      have Hl7 := Lib.hid hl7
      have Hb2 := Lib.hid b2
      have Ho := Lib.hid ho
      clear hG7 hl7 b2 ho
      have HG8 := Lib.hid (HG7.out.leave Hb2.out Ho.out s.size 0).undrew
      have HL8 := Lib.hid (Hl7.out.kept (Got.leave_kept (B := B) (.slice A ts.length cap) s.size 0) (by omega) (by omega)).undrew
      clear HG7 Hl7 Hb2 Ho
      go_wp2
      generalize ((W7.setCell ⟨B, 0, none⟩ (.slice A ts.length cap)).setCell ⟨B + 1, 0, none⟩ (.int .i64 s.size)).setCell ⟨B + 1 + 1, 0, none⟩ (.int .i64 0) = W8 at *
      have hG9 := HG8.out.take HL8.out (by omega)
      obtain ⟨v, b2, ho⟩ := hG9.box
      have y0 := b2.cell 0
      have y1 := hG9.at_.cell 0
      have y2 := hG9.err.cell 0
      simp only [List.getElem?_toArray, List.getElem?_cons_zero] at y0 y1 y2
      refine ⟨by simp, .inl ⟨_, _, rfl, run_takeDeferred HL8.out.def_, ?_⟩⟩
      refine ⟨.tuple #[v, .int .i64 s.size, .int .i64 0], by simp [results, Try.results8, go_sem, y0, y1, y2], ts, none, v, Hlex.out, rfl, ?_, ?_⟩
      · rw [hB]; exact own_base ho (fun g hg => by have := (ho.lt g hg).1; omega)
      · rw [hB]; exact hG9.kept
    | some n =>
      obtain ⟨hl, hG⟩ := hm
      refine ⟨some .ret, _, hl.over_done, ?_⟩
      have HL7 := Lib.hid (hl.put (overRec (doneRec r .ret)))
      have HG7 := Lib.hid (hG.put hl (by omega) (overRec (doneRec r .ret)))
      clear hl hG
      generalize W'.putObj (B + 4 + 1) (.loop (overRec (doneRec r .ret))) = W8 at *
      show Code.wpIn Fence.wide 2 Try.prog Code.ret _ _ _
      gi_wp2
      have hG9 := HG7.out.take HL7.out (by omega)
      obtain ⟨v, b2, ho⟩ := hG9.box
      have y0 := b2.cell 0
      have y1 := hG9.at_.cell 0
      have y2 := hG9.err.cell 0
      simp only [List.getElem?_toArray, List.getElem?_cons_zero] at y0 y1 y2
      refine ⟨by simp, .inl ⟨_, _, rfl, run_takeDeferred HL7.out.def_, ?_⟩⟩
      refine ⟨.tuple #[v, .int .i64 n, .int .i64 20], by simp [results, Try.results8, go_sem, y0, y1, y2], ts, some n, v, Hlex.out, rfl, ?_, ?_⟩
      · rw [hB]; exact own_base ho (fun g hg => by have := (ho.lt g hg).1; omega)
      · rw [hB]; exact hG9.kept
end Go.Proofs.Ytpmdgjihgiieoaa

/- Row. -/
import Derived.Test.YthnakfdiikidaaaRupF
namespace Go.Proofs.Ythnakfdiikidaaa
open Go.RowKit Go.Lib
attribute [local go_sem] Oper.semAt_some

/-- What Row's loop holds behind k steps; the result's cell lies at B, the count's at B + 1, the two boxes at B + 2, B + 3, the loop's blocks at B + 4, B + 5. -/
structure RX (w : World) (B : Nat) (LA SA : Option Addr) (nl cl ns cs : Nat) (r : Loop) (q : Int) (k : Int) (W : World) : Prop where
  loop : LoopAt W (B + 5) (B + 4) r
  res : Blk W B 3 #[.int .i64 q]
  at_ : Blk W (B + 1) 3 #[.int .i64 k]
  x1 : Blk W (B + 2) 22 #[.slice LA nl cl]
  x2 : Blk W (B + 3) 22 #[.slice SA ns cs]
  kept : Below B w W
theorem RX.below {w W W' : World} {B : Nat} {LA SA : Option Addr} {nl cl ns cs : Nat} {r : Loop} {q k : Int} (h : RX w B LA SA nl cl ns cs r q k W) (hb : Below (B + 6) W W') : RX w B LA SA nl cl ns cs r q k W' :=
  ⟨⟨(hb.block _ (by omega)).trans h.loop.rec_, (hb.block _ (by omega)).trans h.loop.def_, h.loop.ne_⟩, h.res.below hb (by omega), h.at_.below hb (by omega), h.x1.below hb (by omega), h.x2.below hb (by omega), h.kept.trans (hb.mono (by omega))⟩

theorem cell_putObj {W : World} {l : Nat} {r : Loop} (h : W.heap[l]? = some (.loop r)) (o : Obj) {p : Addr} {v : Value} (hc : W.cell? p = some v) : (W.putObj l o).cell? p = some v := by
  have hne : p.block ≠ l := by
    rintro e
    subst e
    simp [World.cell?, h] at hc
  rw [World.cell?_of_block (w := W) (World.putObj_heap_other hne)]
  exact hc
theorem Row.putObj {k : IntKind} {W : World} {A : Option Addr} {zs : List Int} (h : Row k W A zs) {l : Nat} {r : Loop} (hl : W.heap[l]? = some (.loop r)) (o : Obj) : Row k (W.putObj l o) A zs :=
  ⟨h.len, h.at_.imp id fun ⟨b, off, h1, h2, h3⟩ => ⟨b, off, h1, Nat.lt_of_lt_of_le h2 (Kept.putObj W l o).size, fun i hi => cell_putObj hl o (h3 i hi)⟩⟩
theorem Grid.putObj {W : World} {A : Option Addr} {rows : List (Option Addr × Nat × List Int)} (h : Grid W A rows) {l : Nat} {r : Loop} (hl : W.heap[l]? = some (.loop r)) (o : Obj) : Grid (W.putObj l o) A rows :=
  ⟨h.len, h.at_.imp id fun ⟨b, off, h1, h2, h3⟩ => ⟨b, off, h1, Nat.lt_of_lt_of_le h2 (Kept.putObj W l o).size, fun i hi => ⟨cell_putObj hl o (h3 i hi).1, (h3 i hi).2.1.putObj hl o, (h3 i hi).2.2⟩⟩⟩
theorem RX.put {w W : World} {B : Nat} {LA SA : Option Addr} {nl cl ns cs : Nat} {r : Loop} {q k : Int} (h : RX w B LA SA nl cl ns cs r q k W) (r' : Loop) : RX w B LA SA nl cl ns cs r' q k (W.putObj (B + 5) (.loop r')) := by
  have hk := Kept.putObj W (B + 5) (.loop r')
  have := h.loop.lt
  exact ⟨h.loop.put r', h.res.kept hk (by omega), h.at_.kept hk (by omega), h.x1.kept hk (by omega), h.x2.kept hk (by omega), h.kept.trans (hk.below (by omega) (fun k hk => by omega))⟩
theorem RX.at_set {w W : World} {B : Nat} {LA SA : Option Addr} {nl cl ns cs : Nat} {r : Loop} {q k : Int} (h : RX w B LA SA nl cl ns cs r q k W) (j : Int) : RX w B LA SA nl cl ns cs r q j (W.setCell ⟨B + 1, 0, none⟩ (.int .i64 j)) := by
  have hk := Kept.set1 W (B + 1) 0 (.int .i64 j)
  have := h.loop.lt
  exact ⟨h.loop.kept hk (by omega) (by omega), h.res.kept hk (by omega), h.at_.set_ 0 _, h.x1.kept hk (by omega), h.x2.kept hk (by omega), h.kept.trans (hk.below (by omega) (fun k hk => by omega))⟩
theorem RX.res_set {w W : World} {B : Nat} {LA SA : Option Addr} {nl cl ns cs : Nat} {r : Loop} {q k : Int} (h : RX w B LA SA nl cl ns cs r q k W) (j : Int) : RX w B LA SA nl cl ns cs r j k (W.setCell ⟨B, 0, none⟩ (.int .i64 j)) := by
  have hk := Kept.set1 W B 0 (.int .i64 j)
  have := h.loop.lt
  exact ⟨h.loop.kept hk (by omega) (by omega), h.res.set_ 0 _, h.at_.kept hk (by omega), h.x1.kept hk (by omega), h.x2.kept hk (by omega), h.kept.trans (hk.below (by omega) (fun k hk => by omega))⟩

set_option maxHeartbeats 2000000 in
theorem row_ok {w : World} {LA SA : Option Addr} {L S : List (Option Addr × Nat × List Int)} (cl cs : Nat) (hg : Grid w LA L) (hs : Grid w SA S) (hL : L.length ≤ 1000) (hS : S.length ≤ 1000) (hm : ∀ r ∈ S, ∀ x ∈ r.2.2, x ≤ 9223372036854775807) :
    Calls Try.prog 10 #[.slice LA L.length cl, .slice SA S.length cs] w fun e w' => e = .returned (.int .i64 (rowM (rowsOf L) (rowsOf S) 0)) ∧ Below w.heap.size w w' := by
  refine callsIn_wide.1 (callsIn_of_wp_marks (n := 2) Try.func10 rfl trivial (wpIn_wide.2 ?_) rfl)
  simp only [Try.ntmps10, List.size_toArray, List.length_cons, List.length_nil, Nat.reduceAdd, Nat.reduceSub, Array.replicate_succ, Array.replicate_zero, List.push_toArray, List.append_toArray, List.nil_append, List.cons_append]
  go_wp2_with (go_at_call 23; refine (behind_ok _ _ _ _ _ _).mono ?_; rintro e w1 ⟨rfl, rfl⟩)
  obtain ⟨B, hB⟩ : ∃ B, w.heap.size = B := ⟨_, rfl⟩
  rw [hB]
  have hG0 : ∀ r, RX w B LA SA L.length cl S.length cs r 0 0 ((((((w.alloc (.cells #[.int .i64 0] 3)).alloc (.cells #[.int .i64 0] 3)).alloc (.cells #[.slice LA L.length cl] 22)).alloc (.cells #[.slice SA S.length cs] 22)).alloc (.deferred (some []))).alloc (.loop r)) := by
    intro r
    have hl := LoopAt.new ((((w.alloc (.cells #[.int .i64 0] 3)).alloc (.cells #[.int .i64 0] 3)).alloc (.cells #[.slice LA L.length cl] 22)).alloc (.cells #[.slice SA S.length cs] 22)) r
    subst hB
    refine ⟨?_, ?_, ?_, ?_, ?_, ?_⟩
    · have e4 : ((((w.alloc (.cells #[.int .i64 0] 3)).alloc (.cells #[.int .i64 0] 3)).alloc (.cells #[.slice LA L.length cl] 22)).alloc (.cells #[.slice SA S.length cs] 22)).heap.size = w.heap.size + 4 := by simp
      rw [e4] at hl
      exact hl
    · exact (((((Blk.new w _ _).alloc _).alloc _).alloc _).alloc _).alloc _
    · exact ((((Blk.new_at (by simp) _ _).alloc _).alloc _).alloc _).alloc _
    · exact (((Blk.new_at (by simp) _ _).alloc _).alloc _).alloc _
    · exact ((Blk.new_at (by simp) _ _).alloc _).alloc _
    · exact ((((((Below.refl _ w).alloc (Nat.le_refl _) _).alloc (by simp) _).alloc (by simp; omega) _).alloc (by simp; omega) _).alloc (by simp; omega) _).alloc (by simp; omega) _
  obtain ⟨W3, hW3⟩ : ∃ W3, (((w.alloc (.cells #[.int .i64 0] 3)).alloc (.cells #[.int .i64 0] 3)).alloc (.cells #[.slice LA L.length cl] 22)).alloc (.cells #[.slice SA S.length cs] 22) = W3 := ⟨_, rfl⟩
  have hs3 : W3.heap.size = B + 4 := by rw [← hW3]; simp [hB]
  rw [hW3] at hG0 ⊢
  clear hW3
  refine wpIn_wide.1 (rangeFunc_wide (n := 2) (gf := 33) rfl (fun _ _ => by simp [invoke, go_sem]) fun fn r hr => ?_)
  rw [hs3]
  have hx0 := hG0 r
  have hs5 : ((W3.alloc (.deferred (some []))).alloc (.loop r)).heap.size = B + 6 := by simp [hs3]
  refine callsIn_wide.2 ((behind_iter (B + 4 + 1) (B + 1 + 1) (B + 1 + 1 + 1) (B + 6) L S LA SA cl cs
    (fun k W => RX w B LA SA L.length cl S.length cs r 0 k W)
    (fun k W => RX w B LA SA L.length cl S.length cs (doneRec r .ret) k k W) hL hS
    (fun k W W' hx hk => hx.below hk)
    (fun k W hx => ⟨hg.below (hB ▸ hx.kept), hs.below (hB ▸ hx.kept), hx.x1, hx.x2, by have := hx.loop.lt; omega⟩) ?_ _ hs5 hx0).mono ?_)
  · intro k W AA cap hk hx hgr
    have e1 := congrArg Loop.tmps hr
    have e2 := congrArg Loop.params hr
    have e3 := congrArg Loop.assign hr
    have e4 := congrArg Loop.body hr
    have e5 := congrArg Loop.state hr
    have e6 := congrArg Loop.pending hr
    simp only [loopRec] at e1 e2 e3 e4 e5 e6
    refine ⟨_, _, _, _, run_yield hx.loop.rec_ (by rw [e2]; rfl), ?_⟩
    rw [e1, e2, e3, e4]
    clear e1 e2 e3 e4 hr
    refine roundIn_of_wpIn trivial ?_
    simp only [List.zip_toArray, List.zip_cons_cons, List.zip_nil_right, List.foldl_toArray', List.foldl_cons, List.foldl_nil, List.setIfInBounds_toArray, List.set_cons_succ, List.set_cons_zero]
    have hsz := hx.loop.lt
    have hbr := Lib.hid (hx.loop.begin_ (P := Try.prog) e5)
    have hrow := ((hs.below (hB ▸ hx.kept)).each S[k] (List.getElem_mem hk)).1.putObj hx.loop.rec_ (.loop (busyRec r))
    have hgr2 := hgr.putObj hx.loop.rec_ (.loop (busyRec r))
    have hk2 := Kept.putObj W (B + 5) (.loop (busyRec r))
    have hx2 := hx.put (busyRec r)
    have K1 := follows_ok cap S[k].2.1 hgr2 hrow (hm S[k] (List.getElem_mem hk))
    have hsz2 := hk2.size
    generalize W.putObj (B + 5) (.loop (busyRec r)) = W2 at *
    unfold encR
    generalize S[k] = sk at *
    generalize L ++ S.take k = G at *
    generalize followsM (rowsOf G) sk.2.2 = q at *
    have HX := Lib.hid hx2
    have HK2 := Lib.hid hk2
    clear hG0 hx0 hx hrow hgr hgr2 hx2 hk2 hg hs hm hs3 hs5
    gi_wp2
    refine ⟨W2, hbr.out, ?_⟩
    have K2 := (callsIn_wide (n := 0)).2 K1
    gi_wp2
    refine ⟨trivial, rfl, CallsIn.mono (F := Fence.wide) K2 ?_⟩
    rintro e w3 ⟨rfl, hb3⟩
    have hx3 := HX.out.below (hb3.mono (by omega))
    have HK3 := Lib.hid (HK2.out.then_below hb3)
    have b0 := hx3.res.cell 0
    have b1 := hx3.at_.cell 0
    have f0 := hx3.res.frozen 0
    have f1 := hx3.at_.frozen 0
    simp only [List.getElem?_toArray, List.getElem?_cons_zero] at b0 b1
    have HX3 := Lib.hid hx3
    clear hb3 hx3 K1 K2
    cases q with
    | true =>
      have H5 := HX3.out.at_set ((k : Int) + 1)
      gi_wp2
      refine ⟨_, _, H5.loop.end_ e5 e6, rfl, H5.put r, ?_⟩
      exact (((HK3.out.mono (S' := fun b => b < B + 6) (fun b _ h => by omega)).trans ((Kept.set1 w3 (B + 1) 0 (.int .i64 ((k : Int) + 1))).mono (fun b _ h => by omega))).trans ((Kept.putObj _ (B + 5) _).mono (fun b _ h => by omega)))
    | false =>
      have H5 := HX3.out.res_set (k : Int)
      gi_wp2
      exact ⟨_, _, H5.loop.stop_ .ret, rfl, H5.put _⟩
  · have e5 := congrArg Loop.state hr
    have e6 := congrArg Loop.pending hr
    simp only [loopRec] at e5 e6
    clear hr
    rintro e W' ⟨rfl, hcase⟩
    rcases hcase with ⟨hrm, hx⟩ | ⟨k, hk, hrm, hx⟩
    · refine ⟨none, _, hx.loop.over_ e5 e6, ?_⟩
      have hx7 := hx.put (overRec r)
      have Hrm := Lib.hid hrm
      clear hx hx0 hG0 hg hs hm hs3 hs5 hrm
      generalize W'.putObj (B + 5) (.loop (overRec r)) = W7 at *
      have b0 := hx7.res.cell 0
      have f0 := hx7.res.frozen 0
      simp only [List.getElem?_toArray, List.getElem?_cons_zero] at b0
      have HX7 := Lib.hid hx7
      have HX8 := Lib.hid (hx7.res_set (-1))
      clear hx7
      go_wp2
      generalize W7.setCell ⟨B, 0, none⟩ (.int .i64 (-1)) = W8 at *
      have k9 := Kept.putObj W8 (B + 4) (.deferred none)
      have y0 := (HX8.out.res.kept k9 (by omega)).cell 0
      simp only [List.getElem?_toArray, List.getElem?_cons_zero] at y0
      refine ⟨by simp, .inl ⟨_, _, rfl, run_takeDeferred HX8.out.loop.def_, ?_⟩⟩
      refine ⟨.int .i64 (-1), by simp [results, Try.results10, go_sem, y0], by rw [Hrm.out], ?_⟩
      rw [hB]
      exact HX8.out.kept.trans (k9.below (by have := HX8.out.loop.lt; omega) (fun k hk => by omega))
    · refine ⟨some .ret, _, hx.loop.over_done, ?_⟩
      have HX7 := Lib.hid (hx.put (overRec (doneRec r .ret)))
      have Hrm := Lib.hid hrm
      clear hx hx0 hG0 hg hs hm hs3 hs5 hrm
      generalize W'.putObj (B + 5) (.loop (overRec (doneRec r .ret))) = W8 at *
      show Code.wpIn Fence.wide 2 Try.prog Code.ret _ _ _
      gi_wp2
      have k9 := Kept.putObj W8 (B + 4) (.deferred none)
      have y0 := (HX7.out.res.kept k9 (by omega)).cell 0
      simp only [List.getElem?_toArray, List.getElem?_cons_zero] at y0
      refine ⟨by simp, .inl ⟨_, _, rfl, run_takeDeferred HX7.out.loop.def_, ?_⟩⟩
      refine ⟨.int .i64 k, by simp [results, Try.results10, go_sem, y0], by rw [Hrm.out], ?_⟩
      rw [hB]
      exact HX7.out.kept.trans (k9.below (by have := HX7.out.loop.lt; omega) (fun k hk => by omega))
end Go.Proofs.Ythnakfdiikidaaa

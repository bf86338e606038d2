/- gantryref12.Of: the core table of some roots is well sorted, and what stands behind its choices is there. -/
import Derived.Test.YtlipnnibagidiaaGreatWaC
import Derived.Test.YtlipnnibagidiaaGreatRdF
namespace Go.Proofs.YtlipnnibagidiaaGreat
open Go.RowKit Go.Lib
theorem two_well : Well twoNd := by
  refine ⟨coreB_iff.1 (by decide +kernel), fun n hn => ?_, fun n hn => ?_⟩
  · simp only [twoNd, List.mem_cons, List.not_mem_nil, or_false] at hn
    rcases hn with rfl | rfl
    · intro _
      rfl
    · intro _
      rfl
  · simp only [twoNd, List.mem_cons, List.not_mem_nil, or_false] at hn
    rcases hn with rfl | rfl
    · intro h
      exact absurd h (by show (0 : Int) ≠ 6; decide)
    · intro h
      exact absurd h (by show (10 : Int) ≠ 6; decide)
theorem two_ite : IteOk twoNd := fun i n hn h7 => by
  have hm := List.mem_of_getElem? hn
  simp only [twoNd, List.mem_cons, List.not_mem_nil, or_false] at hm
  rcases hm with rfl | rfl
  · exact absurd h7 (by show (0 : Int) ≠ 7; decide)
  · exact absurd h7 (by show (10 : Int) ≠ 7; decide)
theorem two_wf : ∀ n ∈ twoNd, NdWf n := by
  intro n hn
  simp only [twoNd, List.mem_cons, List.not_mem_nil, or_false] at hn
  rcases hn with rfl | rfl
  all_goals
    refine ⟨by decide, by decide, fun j => ?_, by decide, by decide, by decide⟩
    unfold Nd.arg
    repeat' split
    all_goals decide
theorem own_tab2 {w : World} {B g c : Nat} (h : w.ownsRow B 51 8 (.slice (some ⟨g, 0, none⟩) 2 c) 2 (twoNd.flatMap nodeCells)) : Tab w (some ⟨g, 0, none⟩) twoNd := by
  refine ⟨by decide, .inr ⟨g, 0, rfl, own_lt h, fun i hi => ⟨own_lt h, fun j hj => ?_, two_wf _ (List.getElem_mem hi)⟩⟩⟩
  have := own_cell nodeCells (fun _ => rfl) h hi hj
  simpa using this
def COf (most : Int) (w : World) (e : Ending) (w' : World) : Prop :=
  ∃ CA C cc oA on oc er, e = .returned (.tuple #[.agg #[.slice CA (List.length C) cc], .slice oA on oc, .int .i64 er]) ∧ (er = 0 → Well C ∧ IteOk C ∧ (C.length : Int) ≤ max 2 most ∧ Tab w' CA C ∧ C.length ≤ cc) ∧ Below w.heap.size w w'
theorem COf.bad {most : Int} {w w' : World} {er : Int} (h : er ≠ 0) (hb : Below w.heap.size w w') : COf most w (.returned (.tuple #[.agg #[.slice none 0 0], .slice none 0 0, .int .i64 er])) w' :=
  ⟨none, [], 0, none, 0, 0, er, rfl, fun e => absurd e h, hb⟩
structure OI (w : World) (wk : Nat) (A : Option Addr) (T : List Nd) (c q : Nat) (j : Nat) (sv : Value) (W : World) : Prop where
  t : Blk W w.heap.size 33 #[.slice A T.length c]
  r : Blk W (w.heap.size + 1) 33 #[.slice none 0 0]
  blk : Blk W wk 88 #[.slice (some ⟨q, 0, none⟩) 2 2, sv]
  own : W.ownsRow (wk + 1) 3 1 sv j ((List.replicate j (-1)).map (Value.int .i64))
  nt : Tab W (some ⟨q, 0, none⟩) twoNd
  bel : Below w.heap.size w W
  low : w.heap.size + 2 ≤ wk ∧ w.heap.size + 2 ≤ q ∧ q < wk
structure OX (w : World) (B wk g ic : Nat) (A : Option Addr) (T : List Nd) (c : Nat) (most : Int) (j : Nat) (sv : Value) (V : List Int) (CA1 : Option Addr) (C1 : List Nd) (cc1 : Nat) (I1 : List Int) (W : World) : Prop where
  ws : WS W wk g ic A T CA1 C1 cc1 I1 most
  t : Blk W w.heap.size 33 #[.slice A T.length c]
  r : Blk W (w.heap.size + 1) 33 #[.slice none 0 0]
  own : W.ownsRow B 3 1 sv j (V.map (Value.int .i64))
  bel : Below w.heap.size w W
  cown : ∀ b, CA1 = some b → 0 < C1.length → some b.block ≠ sv.ownBlock
  cr : ∀ b, CA1 = some b → 0 < C1.length → w.heap.size + 2 ≤ b.block
  size : B ≤ W.heap.size
  low : w.heap.size + 2 ≤ wk ∧ w.heap.size + 2 ≤ g ∧ wk < B ∧ g < B ∧ ∀ b, A = some b → 0 < T.length → b.block < w.heap.size
section
variable {w W W2 : World} {B wk g ic : Nat} {A : Option Addr} {T : List Nd} {c q : Nat} {most : Int} {j : Nat} {sv : Value} {V : List Int} {CA1 : Option Addr} {C1 : List Nd} {cc1 : Nat} {I1 : List Int}
theorem OI.push (h : OI w wk A T c q j sv W) {p cap k : Nat} (ho : W2.ownsRow (wk + 1) 3 1 (.slice (some ⟨p, 0, none⟩) (j + 1) cap) (j + 1) ((List.replicate j (-1)).map (Value.int .i64) ++ #[Value.int .i64 (-1)].toList)) {cs : Obj} (hg : ((W.alloc cs).drewN k).grownBy W2 sv.ownBlock) :
    OI w wk A T c q (j + 1) (.slice (some ⟨p, 0, none⟩) (j + 1) cap) (W2.setCell ⟨wk, 1, none⟩ (.slice (some ⟨p, 0, none⟩) (j + 1) cap)) := by
  have hk0 : Kept (fun b => some b = sv.ownBlock) W ((W.alloc cs).drewN k) := Kept.of_below (S := fun b => some b = sv.ownBlock) (below_drewN ((Below.refl _ W).alloc (Nat.le_refl _) _) k)
  have hk := hk0.grown hg (fun k e => .inl e.symm)
  have hob : ∀ b, some b = sv.ownBlock → wk + 1 ≤ b := fun b e => (h.own.lt b e.symm).1
  have hl := h.low
  have hb2 := h.blk.kept hk (fun e => by have := hob _ e; omega)
  have hs := Kept.set1 W2 wk 1 (.slice (some ⟨p, 0, none⟩) (j + 1) cap)
  have hb3 := hb2.set_ 1 (.slice (some ⟨p, 0, none⟩) (j + 1) cap)
  simp only [zza, zzb, zzc] at hb3
  have hnt : Tab W2 (some ⟨q, 0, none⟩) twoNd := h.nt.keptS hk (fun b e _ e2 => by injection e with e; subst e; have := hob _ e2; have e3 : q < wk := hl.2.2; have e4 : wk + 1 ≤ q := this; omega)
  refine ⟨(h.t.kept hk (fun e => by have := hob _ e; omega)).kept hs (by omega), (h.r.kept hk (fun e => by have := hob _ e; omega)).kept hs (by omega), hb3, ?_, hnt.keptS hs (fun b e _ e2 => by injection e with e; subst e; have e3 : q = wk := e2; omega), (h.bel.trans (hk.below h.bel.size (fun k e => by have := hob k e; omega))).setCell (by show w.heap.size ≤ wk; omega) _, h.low⟩
  refine own_kept ?_ hs (fun b e e2 => by injection e with e; have := (ho.lt p rfl).1; have e4 : p = b := e; omega)
  have : (List.replicate (j + 1) (-1 : Int)) = List.replicate j (-1) ++ [-1] := by rw [List.replicate_succ']
  rw [this, List.map_append]
  exact ho
theorem OI.mid (h : OI w wk A T c q j sv W) {cs : Obj} {k : Nat} (hg : ((W.alloc cs).drewN k).grownBy W2 sv.ownBlock) : Blk W2 wk 88 #[.slice (some ⟨q, 0, none⟩) 2 2, sv] := by
  have hk0 : Kept (fun b => some b = sv.ownBlock) W ((W.alloc cs).drewN k) := Kept.of_below (S := fun b => some b = sv.ownBlock) (below_drewN ((Below.refl _ W).alloc (Nat.le_refl _) _) k)
  have hk := hk0.grown hg (fun k e => .inl e.symm)
  exact h.blk.kept hk (fun e => by have := (h.own.lt _ e.symm).1; omega)
theorem OI.done (h : OI w wk A T c q T.length (.slice (some ⟨g, 0, none⟩) T.length ic) W) (hA : Tab w A T) (most : Int) : OX w W.heap.size wk g ic A T c most 0 (.slice none 0 0) [] (some ⟨q, 0, none⟩) twoNd 2 (List.replicate T.length (-1)) W := by
  have hl := h.low
  have hg := h.own.lt g rfl
  have hal : ∀ b, A = some b → 0 < T.length → b.block < w.heap.size := fun b e h0 => Tab.lt (e ▸ hA) h0
  refine ⟨⟨h.blk, ?_, .new _ _, hA.below h.bel, h.nt, Nat.le_refl _, two_well, two_ite, by show (2 : Int) ≤ _; omega, by omega, fun b e h0 => by have := hal b e h0; omega, fun b e h0 => by injection e with e; subst e; show q ≠ wk ∧ q ≠ g; omega⟩, h.t, h.r, World.ownsRow_nil _ _ _ _, h.bel, fun b e h0 e2 => (by cases e2), fun b e h0 => by injection e with e; subst e; exact hl.2.1, Nat.le_refl _, hl.1, by omega, h.blk.lt, hg.2, hal⟩
  unfold OwnL
  rw [List.length_replicate]
  exact own_base h.own (fun g _ => Nat.zero_le _)
theorem OX.keptW (h : OX w B wk g ic A T c most j sv V CA1 C1 cc1 I1 W) (hk : Kept (WkG wk g) W.drew W2) : Kept (WkG wk g) W W2 ∧ Below w.heap.size w W2 := by
  have h0 : Kept (WkG wk g) W W2 := ⟨hk.os, hk.tape, hk.output, hk.size, hk.block⟩
  have hl := h.low
  exact ⟨h0, h.bel.trans (h0.below h.bel.size fun k e => by rcases e with rfl | rfl <;> omega)⟩
theorem OX.cells (h : OX w B wk g ic A T c most j sv V CA1 C1 cc1 I1 W) (hk : Kept (WkG wk g) W.drew W2) : Blk W2 w.heap.size 33 #[.slice A T.length c] ∧ Blk W2 (w.heap.size + 1) 33 #[.slice none 0 0] := by
  have hl := h.low
  have h0 := (h.keptW hk).1
  exact ⟨h.t.kept h0 (fun e => by rcases e with e | e <;> omega), h.r.kept h0 (fun e => by rcases e with e | e <;> omega)⟩
theorem OX.walked {CA2 : Option Addr} {C2 : List Nd} {cc2 : Nat} {I2 : List Int} {a : Nat} (h : OX w B wk g ic A T c most j sv V CA1 C1 cc1 I1 W) (hk : Kept (WkG wk g) W.drew W2) (ho : WkOut wk g ic A T CA1 C1 I1 most a W.drew W2 CA2 C2 cc2 I2) : OX w B wk g ic A T c most j sv V CA2 C2 cc2 I2 W2 := by
  obtain ⟨h0, hb⟩ := h.keptW hk
  obtain ⟨h1, h2⟩ := h.cells hk
  have hl := h.low
  refine ⟨ho.ws, h1, h2, own_kept h.own h0 (fun b e e2 => by have := (h.own.lt b e).1; rcases e2 with e2 | e2 <;> omega), hb, fun b e h0 e2 => ?_, fun b e h0 => ?_, Nat.le_trans h.size h0.size, h.low⟩
  · rcases ho.fr b e with ⟨e1, h1⟩ | h1
    · exact h.cown b e1 h1 e2
    · have := (h.own.lt b.block e2.symm).2
      have h1' : W.heap.size ≤ b.block := h1
      omega
  · rcases ho.fr b e with ⟨e1, h1⟩ | h1
    · exact h.cr b e1 h1
    · have h1' : W.heap.size ≤ b.block := h1
      have := h.r.lt
      omega
theorem OX.push (h : OX w B wk g ic A T c most j sv V CA1 C1 cc1 I1 W) {x : Int} {p cap k : Nat} (ho : W2.ownsRow B 3 1 (.slice (some ⟨p, 0, none⟩) (j + 1) cap) (j + 1) (V.map (Value.int .i64) ++ #[Value.int .i64 x].toList)) {cs : Obj} (hg : ((W.alloc cs).drewN k).grownBy W2 sv.ownBlock) (hat : sv.ownBlock = some p ∨ p = ((W.alloc cs).drewN k).heap.size) :
    OX w B wk g ic A T c most (j + 1) (.slice (some ⟨p, 0, none⟩) (j + 1) cap) (V ++ [x]) CA1 C1 cc1 I1 W2 := by
  have hk0 : Kept (fun b => some b = sv.ownBlock) W ((W.alloc cs).drewN k) := Kept.of_below (S := fun b => some b = sv.ownBlock) (below_drewN ((Below.refl _ W).alloc (Nat.le_refl _) _) k)
  have hk := hk0.grown hg (fun k e => .inl e.symm)
  have hob : ∀ b, some b = sv.ownBlock → B ≤ b := fun b e => (h.own.lt b e.symm).1
  have hl := h.low
  have hsz : ((W.alloc cs).drewN k).heap.size = W.heap.size + 1 := by
    show (W.alloc cs).heap.size = _
    simp
  refine ⟨h.ws.kept hk (fun e => by have := hob _ e; omega) (fun e => by have := hob _ e; omega) (fun b e h0 e2 => by have := hob _ e2; have := hl.2.2.2.2 b e h0; omega) (fun b e h0 e2 => h.cown b e h0 e2), h.t.kept hk (fun e => by have := hob _ e; omega), h.r.kept hk (fun e => by have := hob _ e; omega), ?_, h.bel.trans (hk.below h.bel.size (fun k e => by have := hob k e; omega)), fun b e h0 e2 => ?_, h.cr, Nat.le_trans h.size hk.size, h.low⟩
  · rw [List.map_append]
    exact ho
  · injection e2 with e2
    rcases hat with ha | ha
    · exact h.cown b e h0 (by rw [ha]; exact congrArg some e2)
    · have h3 : b.block < W.heap.size := Tab.lt (e ▸ h.ws.ctab) h0
      have e3 : b.block = p := e2
      omega
end
set_option maxRecDepth 100000 in
set_option maxHeartbeats 8000000 in
theorem cof_ok {T : List Nd} {w : World} {A RA : Option Addr} {R : List Int} (c rc : Nat) (most : Int) (hm : most < 50000) (h : Tab w A T) (hR : Row w RA R) :
    Calls Tryz.prog 14 #[.agg #[.slice A T.length c], .slice RA R.length rc, .int .i64 most] w (COf most w) := by
  have hlen := h.len
  have hrl := hR.len
  obtain ⟨i0, hi0, hz0, hz1, hz2⟩ := info_parts int_info
  obtain ⟨w0, hw0⟩ : ∃ w0, (w.alloc (.cells #[.slice A T.length c] 33)).alloc (.cells #[.slice none 0 0] 33) = w0 := ⟨_, rfl⟩
  have HB0 : Hid (Below w.heap.size w w0) := zzh (by rw [← hw0]; exact ((Below.refl _ w).alloc (Nat.le_refl _) _).alloc (by simp) _)
  have HT0 : Hid (Blk w0 w.heap.size 33 #[.slice A T.length c]) := zzh (by rw [← hw0]; exact (Blk.new w _ _).alloc _)
  have HR0 : Hid (Blk w0 (w.heap.size + 1) 33 #[.slice none 0 0]) := zzh (by rw [← hw0]; exact Blk.new_at (by simp) _ _)
  have H := zzh h
  have HRw := zzh hR
  have HM := zzh hm
  have HAL : Hid (∀ b, A = some b → 0 < T.length → b.block < w.heap.size) := zzh (fun b e h0 => Tab.lt (e ▸ h) h0)
  have a0 := HT0.out.cell 0
  simp only [zzg, zzi] at a0
  clear h hR hm
  go_enter Tryz.func14, Tryz.ntmps14
  go_wp2_with fail
  refine (rcheck_ok c (H.out.below HB0.out)).mono ?_
  rintro e w1 ⟨r, rfl, hr, hb⟩
  have HB1 := zzh (HB0.out.trans (hb.mono HB0.out.size))
  have HT1 := zzh (HT0.out.below hb HT0.out.lt)
  have HR1 := zzh (HR0.out.below hb HR0.out.lt)
  have HR := zzh hr
  have a1 := HT1.out.cell 0
  have b1 := HR1.out.cell 0
  have f1 := HR1.out.frozen 0
  simp only [zzg, zzi] at a1 b1
  clear hb hr a0 hw0
  cases r with
  | false =>
    go_wp2
    refine bodyPost_ret (v := .tuple #[.agg #[.slice none 0 0], .slice none 0 0, .int .i64 2]) ?_ rfl ?_
    · have c1 := (HR1.out.set_ 0 (.slice none 0 0)).cell 0
      simp only [zzg, zzi, zza, zzb] at c1
      simp [results, Tryz.results14, go_sem, c1]
    · exact COf.bad (by decide) (HB1.out.setCell (by simp) _)
  | true =>
    have HTO := zzh (HR.out.1 rfl)
    clear HR
    go_wp2
    go_loopg [9] R.length (fun g v W => ∃ i : Nat, i + g = R.length ∧ v = .int .i64 i ∧ (∀ k (hk : k < R.length), k < i → 0 ≤ R[k] ∧ R[k] < T.length) ∧ Blk W w.heap.size 33 #[.slice A T.length c] ∧ Blk W (w.heap.size + 1) 33 #[.slice none 0 0] ∧ Below w.heap.size w W)
    case atStart => exact ⟨0, by omega, rfl, fun k hk h => absurd h (Nat.not_lt_zero _), HT1.out, HR1.out, HB1.out⟩
    case round =>
      obtain ⟨i, hig, rfl, hin, hbt, hbr, hb⟩ := hrel
      have HIn := zzh hin
      have HT2 := zzh hbt
      have HR2 := zzh hbr
      have HB2 := zzh hb
      have a2 := hbt.cell 0
      have b2 := hbr.cell 0
      have f2 := hbr.frozen 0
      simp only [zzg, zzi] at a2 b2
      clear hin hbt hbr hb a1 b1 f1
      cases gk with
      | zero =>
        obtain rfl : i = R.length := by omega
        have d1 : decide ((R.length : Int) < R.length) = false := by simp
        go_wp2_with fail
        refine (fit_ok c HTO.out (H.out.below HB2.out)).mono ?_
        rintro e w3 ⟨r, rfl, hfit, hb⟩
        have HB3 := zzh (HB2.out.trans (hb.mono HB2.out.size))
        have HT3 := zzh (HT2.out.below hb HT2.out.lt)
        have HR3 := zzh (HR2.out.below hb HR2.out.lt)
        have b3 := HR3.out.cell 0
        have f3 := HR3.out.frozen 0
        simp only [zzg, zzi] at b3
        clear hb a2 b2 f2
        cases r with
        | false =>
          clear hfit
          go_wp2
          refine bodyPost_ret (v := .tuple #[.agg #[.slice none 0 0], .slice none 0 0, .int .i64 33]) ?_ rfl ?_
          · have c1 := (HR3.out.set_ 0 (.slice none 0 0)).cell 0
            simp only [zzg, zzi, zza, zzb] at c1
            simp [results, Tryz.results14, go_sem, c1]
          · exact COf.bad (by decide) (HB3.out.setCell (by simp) _)
        | true =>
          have HFt := zzh (hfit rfl)
          have HSZ3 : Hid (w.heap.size + 2 ≤ w3.heap.size) := zzh (by have := HR3.out.lt; omega)
          clear hfit
          go_wp2_with fail
          refine (rnew_own w3).mono ?_
          rintro e w4 ⟨q, rfl, hown, hb⟩
          have hqlt := hown.lt q rfl
          obtain ⟨wk, hwk⟩ : ∃ wk, w4.heap.size = wk := ⟨_, rfl⟩
          obtain ⟨w5, hw5⟩ : ∃ w5, w4.alloc (.cells #[.slice (some ⟨q, 0, none⟩) 2 2, .slice none 0 0] 88) = w5 := ⟨_, rfl⟩
          have HOI : Hid (OI w wk A T c q 0 (.slice none 0 0) w5) := zzh (by
            rw [← hw5, ← hwk]
            have hB4 := HB3.out.trans (hb.mono HB3.out.size)
            refine ⟨(HT3.out.below hb HT3.out.lt).alloc _, (HR3.out.below hb HR3.out.lt).alloc _, Blk.new w4 _ _, World.ownsRow_nil _ _ _ _, (own_tab2 hown).alloc _, hB4.alloc hB4.size _, ?_⟩
            have := HSZ3.out
            have := hb.size
            omega)
          have HW5 := zzh hw5
          have HWK := zzh hwk
          clear hown hqlt hb hw5 hwk b3 f3
          go_wp2
          rw [HW5.out, HWK.out]
          clear HW5 HWK
          go_loopg [11] T.length (fun g v W => ∃ (j : Nat) (sv : Value), j + g = T.length ∧ v = .int .i64 j ∧ OI w wk A T c q j sv W)
          case atStart => exact ⟨0, _, by omega, rfl, HOI.out⟩
          case round =>
            obtain ⟨j, sv, hjg, rfl, hx⟩ := hrel
            have HX := zzh hx
            have s0 := hx.t.cell 0
            have s1 : wr.cell? ⟨wk, 1, none⟩ = some sv := hx.blk.cell 1
            simp only [zzg, zzi] at s0
            clear hx
            cases gk with
            | zero =>
              obtain rfl : j = T.length := by omega
              have d2 : decide ((T.length : Int) < T.length) = false := by simp
              obtain ⟨g, ic, hsv, _, _, _⟩ := own_form HX.out.own (by have := HTO.out.len; omega)
              subst hsv
              have HO := zzh (HX.out.done H.out most)
              obtain ⟨B, hB⟩ : ∃ B, wr.heap.size = B := ⟨_, rfl⟩
              rw [hB] at HO
              clear hB s1 HX HOI
              go_wp2
              go_loopg [13, 12] R.length (fun gg v vs W => ∃ (j : Nat) (sv : Value) (V : List Int) (CA1 : Option Addr) (C1 : List Nd) (cc1 : Nat) (I1 : List Int), j + gg = R.length ∧ v = .int .i64 j ∧ sv = vs ∧ OX w B wk g ic A T c most j sv V CA1 C1 cc1 I1 W)
              case atStart => exact ⟨0, _, _, _, _, _, _, by omega, rfl, rfl, HO.out⟩
              case round =>
                clear HO s0
                obtain ⟨j, sv, V, CA1, C1, cc1, I1, hjg, rfl, rfl, hx⟩ := hrel
                have HX := zzh hx
                have s0 : wr.cell? ⟨w.heap.size, 0, none⟩ = some (.slice A T.length c) := hx.t.cell 0
                clear hx
                cases gk with
                | zero =>
                  obtain rfl : j = R.length := by omega
                  have d3 : decide ((R.length : Int) < R.length) = false := by simp
                  obtain ⟨oA, oc, hsv⟩ := own_slice HX.out.own
                  subst hsv
                  have k0 : wr.cell? ⟨wk, 0, none⟩ = some (.slice CA1 C1.length cc1) := HX.out.ws.blk.cell 0
                  have r0 : wr.cell? ⟨w.heap.size + 1, 0, none⟩ = some (.slice none 0 0) := HX.out.r.cell 0
                  have r1 := HX.out.r.frozen 0
                  go_wp2
                  refine bodyPost_ret (v := .tuple #[.agg #[.slice CA1 C1.length cc1], .slice oA R.length oc, .int .i64 0]) ?_ rfl ?_
                  · have c1 := (HX.out.r.set_ 0 (.slice CA1 C1.length cc1)).cell 0
                    simp only [zzg, zzi, zza, zzb] at c1
                    simp [results, Tryz.results14, go_sem, c1]
                  · exact ⟨CA1, C1, cc1, oA, R.length, oc, 0, rfl, fun _ => ⟨HX.out.ws.well, HX.out.ws.ite, HX.out.ws.most_, HX.out.ws.ctab.kept0 (Kept.set1 wr (w.heap.size + 1) 0 _) (fun b e h0 => by have := HX.out.cr b e h0; omega), HX.out.ws.cap⟩, HX.out.bel.setCell (by simp) _⟩
                | succ g2 =>
                  have hjl : j < R.length := by omega
                  have d3 : decide ((j : Int) < R.length) = true := by simp; omega
                  have t1 : (0 : Int) ≤ (j : Int) := by omega
                  have t2 : (j : Int) < (R.length : Int) := by omega
                  obtain ⟨rb, roff, hRA, hrb, hrc⟩ := HRw.out.at_.resolve_left (by omega)
                  have HRb := zzh hrb
                  have y0 := hrc j hjl
                  have hin := HIn.out j hjl (by omega)
                  obtain ⟨k, hk⟩ : ∃ k : Nat, R[j] = k := ⟨R[j].toNat, by omega⟩
                  rw [hk] at y0 hin
                  have hkT : k < T.length := by omega
                  have HYall : Hid (∀ W, Below w.heap.size w W → W.cell? ⟨rb, roff + j, none⟩ = some (.int .i64 (k : Int))) := zzh (fun W hW => by rw [hW.cell (p := ⟨rb, roff + j, none⟩) HRb.out]; exact y0)
                  have HRq : Hid (RA = some ⟨rb, roff, none⟩) := zzh hRA
                  subst hRA
                  have y1 := HYall.out wr HX.out.bel
                  clear hrc hrb y0 hk
                  have KW := zzh (walk_ok HTO.out HFt.out hlen (A := A) c most HM.out k hkT wr.drew wk g ic CA1 C1 cc1 I1 (HX.out.ws.below (below_drewN (Below.refl _ wr) 1)))
                  go_upto_region 19 with (fail)
                  go_region_held3 (fun w' => w'.cell? ⟨w.heap.size, 0, none⟩ = some (.slice A T.length c) ∧ w'.cell? ⟨rb, roff + j, none⟩ = some (.int .i64 (k : Int))) (go_keep) ((go_at_call 43; refine KW.out.mono ?_; rintro e w2 ⟨er, rfl, ho, hk⟩; have HO := zzh ho; have HK2 := zzh hk; have HBx := zzh (HX.out.keptW hk).2; obtain ⟨hb0, hb1⟩ := HX.out.cells hk; have HRx := zzh hb1; have b0 := hb0.cell 0; simp only [zzg, zzi] at b0; have b2 := HYall.out w2 HBx.out; clear ho hk hb0 hb1))
                  by_cases he : er = 0
                  rotate_left
                  · have e1 : (er != 0) = true := by simpa using he
                    have HE := zzh he
                    have r0 := HRx.out.cell 0
                    have r1 := HRx.out.frozen 0
                    simp only [zzg, zzi] at r0
                    clear he
                    go_wp2
                    refine bodyPost_ret (v := .tuple #[.agg #[.slice none 0 0], .slice none 0 0, .int .i64 er]) ?_ rfl ?_
                    · have c1 := (HRx.out.set_ 0 (.slice none 0 0)).cell 0
                      simp only [zzg, zzi, zza, zzb] at c1
                      simp [results, Tryz.results14, go_sem, c1]
                    · exact COf.bad HE.out (HBx.out.setCell (by simp) _)
                  subst he
                  obtain ⟨CA2, C2, cc2, I2, hwo⟩ := HO.out rfl
                  obtain ⟨x, hxa, hx0⟩ := hwo.img
                  have HX2 := zzh (HX.out.walked HK2.out hwo)
                  have q1 : w2.cell? ⟨wk, 1, none⟩ = some (.slice (some ⟨g, 0, none⟩) T.length ic) := hwo.ws.blk.cell 1
                  have q3 : w2.cell? ⟨g, k, none⟩ = some (.int .i64 x) := by
                    obtain ⟨hl2, e2⟩ := List.getElem?_eq_some_iff.1 hxa
                    have := hwo.ws.cell hl2
                    rw [e2] at this
                    exact this
                  have u1 : (0 : Int) ≤ (k : Int) := by omega
                  have u2 : (k : Int) < (T.length : Int) := by omega
                  have HSZ : Hid (B ≤ w2.heap.size) := zzh HX2.out.size
                  clear hwo hxa hx0 HO s0 y1 KW b0 hin hkT
                  have h1c : Hid (∀ u ∈ #[Value.int .i64 x].toList, u.oneCell' = true) := zzh (by simp [Value.oneCell'])
                  go_wp2
                  go_region_law (refine step_push _ rfl (.tmp 82) (.tmp 93) 27 rfl B 3 i0 (.int .i64 0) 1 8 Tryz.underlying27 hi0 hz0 hz1 hz2 rfl (by decide) sv j _ rfl (own_drewN (HX2.out.own.alloc _) _) w2.heap.size #[.int .i64 x] rfl (Blk.new _ _ _) rfl h1c.out (by omega) (by omega) HSZ.out (fun q cap3 w3 hown1 hgrow hat hlt1 => ?_))
                  all_goals
                    have hp := HX2.out.push hown1 hgrow hat
                    have HP := zzh hp
                    clear hp hown1 hgrow hat hlt1
                  all_goals go_wp2
                  all_goals
                    go_roundg g2
                    case measure => omega
                    case rel => exact ⟨j + 1, _, _, _, _, _, _, by omega, by go_num, rfl, HP.out⟩
            | succ g2 =>
              have hjl : j < T.length := by omega
              have d2 : decide ((j : Int) < T.length) = true := by simp; omega
              have hown : (wr.alloc (.cells #[.int .i64 (-1)] 3)).ownsRow (wk + 1) 3 1 sv j ((List.replicate j (-1)).map (Value.int .i64)) := HX.out.own.alloc _
              have HOw := zzh hown
              have HLW := zzh HX.out.blk.lt
              have h1c : Hid (∀ u ∈ #[Value.int .i64 (-1)].toList, u.oneCell' = true) := zzh (by simp [Value.oneCell'])
              clear hown
              go_wp2_with (at_builtin; refine list_push _ rfl (.tmp 59) (.tmp 60) 27 rfl (wk + 1) 3 i0 (.int .i64 0) 1 8 Tryz.underlying27 hi0 hz0 hz1 hz2 rfl (by decide) sv j _ rfl HOw.out wr.heap.size #[.int .i64 (-1)] rfl (Blk.new _ _ _) rfl h1c.out (by omega) (by omega) (by have := HLW.out; omega) (fun p cap3 w6 hown1 hgrow hat hlt1 => ?_); have hm6 := HX.out.mid (k := 0) hgrow; have m1 := hm6.cell 1; have m2 := hm6.frozen 1; simp only [zzg, zzi, zzj] at m1; have HP := zzh (HX.out.push (k := 0) hown1 hgrow); clear hm6 hown1 hgrow hat hlt1)
              go_roundg g2
              case measure => omega
              case rel => exact ⟨j + 1, _, by omega, by go_num, HP.out⟩
      | succ gk =>
        have hlt : i < R.length := by omega
        have d1 : decide ((i : Int) < R.length) = true := by simp; omega
        have t1 : (0 : Int) ≤ (i : Int) := by omega
        have t2 : (i : Int) < (R.length : Int) := by omega
        obtain ⟨rb, roff, hRA, hrb, hrc⟩ := (HRw.out.below HB2.out).at_.resolve_left (by omega)
        have y0 := hrc i hlt
        have HNext : Hid (0 ≤ R[i] ∧ R[i] < T.length → ∀ k (hk : k < R.length), k < i + 1 → 0 ≤ R[k] ∧ R[k] < T.length) := zzh (fun e k hk h => by
          by_cases hki : k = i
          · subst hki; exact e
          · exact HIn.out k hk (by omega))
        subst hRA
        clear hrc
        generalize R[i] = x at *
        by_cases h1 : x < 0
        · have e1 : decide (x < 0) = true := by simp; omega
          clear h1
          go_wp2
          go_quiet (fail)
          go_wp2
          refine bodyPost_ret (v := .tuple #[.agg #[.slice none 0 0], .slice none 0 0, .int .i64 2]) ?_ rfl ?_
          · have c1 := ((HR2.out.drewN nq).set_ 0 (.slice none 0 0)).cell 0
            simp only [zzg, zzi, zza, zzb] at c1
            simp [results, Tryz.results14, go_sem, c1]
          · exact COf.bad (by decide) ((below_drewN HB2.out nq).setCell (by simp) _)
        · have e1 : decide (x < 0) = false := by simp; omega
          by_cases h2 : x < (T.length : Int)
          · have e2 : decide (x ≥ (T.length : Int)) = false := by simp; omega
            have HX := zzh (HNext.out ⟨by omega, h2⟩)
            clear h1 h2
            go_wp2
            go_quiet (fail)
            go_wp2
            go_roundg gk
            case measure => omega
            case rel => exact ⟨i + 1, by omega, by go_num, HX.out, HT2.out.drewN nq, HR2.out.drewN nq, below_drewN HB2.out nq⟩
          · have e2 : decide (x ≥ (T.length : Int)) = true := by simp; omega
            clear h1 h2
            go_wp2
            go_quiet (fail)
            go_wp2
            refine bodyPost_ret (v := .tuple #[.agg #[.slice none 0 0], .slice none 0 0, .int .i64 2]) ?_ rfl ?_
            · have c1 := ((HR2.out.drewN nq).set_ 0 (.slice none 0 0)).cell 0
              simp only [zzg, zzi, zza, zzb] at c1
              simp [results, Tryz.results14, go_sem, c1]
            · exact COf.bad (by decide) ((below_drewN HB2.out nq).setCell (by simp) _)
end Go.Proofs.YtlipnnibagidiaaGreat

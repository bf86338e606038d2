/- gantryref12.put: a node of some kind, put. -/
import Derived.Test.YtlipnnibagidiaaGreatOpA
import Derived.Test.YtlipnnibagidiaaGreatRfE
import Derived.Test.YtlipnnibagidiaaGreatSwH
namespace Go.Proofs.YtlipnnibagidiaaGreat
open Go.RowKit Go.Lib
def pcells (op : Int) (V : List Int) (i : Nat) (s : Int) : Array Value :=
  #[.int .i8 op, .int .i8 V.length, .int .i64 (if 0 < i then V[0]?.getD 0 else 0), .int .i64 (if 1 < i then V[1]?.getD 0 else 0), .int .i64 (if 2 < i then V[2]?.getD 0 else 0), .int .i64 s, .int .i64 0, .int .i64 0]
structure PX (w : World) (op : Int) (A : Option Addr) (C : List Nd) (c : Nat) (VA : Option Addr) (V : List Int) (i j : Nat) (sv : Value) (W : World) : Prop where
  t4 : Blk W w.heap.size 33 #[.slice A C.length c]
  t8 : Blk W (w.heap.size + 1) 33 #[.slice none 0 0]
  nd : Blk W (w.heap.size + 1 + 1) 51 (pcells op V i 0)
  tab0 : Tab w A C
  row0 : Row w VA V
  own : W.ownsRow (w.heap.size + 3) 3 1 sv j ((V.take j).map fun x => Value.int .i64 (ndAt C x).sort)
  bel : Below w.heap.size w W
section
variable {w W W2 : World} {op : Int} {A VA : Option Addr} {C : List Nd} {c : Nat} {V : List Int} {i j : Nat} {sv : Value}
theorem PX.tab (h : PX w op A C c VA V i j sv W) : Tab W A C := h.tab0.below h.bel
theorem PX.row (h : PX w op A C c VA V i j sv W) : Row W VA V := h.row0.below h.bel
theorem PX.node (h : PX w op A C c VA V i i sv W) (hi : i < V.length) (h3 : V.length ≤ 3) : PX w op A C c VA V (i + 1) i sv (W.setCell ⟨w.heap.size + 1 + 1, 2 + i, none⟩ (.int .i64 V[i])) := by
  have hk := Kept.set1 W (w.heap.size + 1 + 1) (2 + i) (.int .i64 V[i])
  have hn := h.nd.set_ (2 + i) (.int .i64 V[i])
  have hn' : Blk (W.setCell ⟨w.heap.size + 1 + 1, 2 + i, none⟩ (.int .i64 V[i])) (w.heap.size + 1 + 1) 51 (pcells op V (i + 1) 0) := by
    have e : (pcells op V i 0).setIfInBounds (2 + i) (.int .i64 V[i]) = pcells op V (i + 1) 0 := by
      have hv : V[i]? = some V[i] := List.getElem?_eq_getElem hi
      rcases (show i = 0 ∨ i = 1 ∨ i = 2 by omega) with rfl | rfl | rfl <;> simp [pcells, hv]
    rwa [e] at hn
  exact ⟨h.t4.kept hk (by omega), h.t8.kept hk (by omega), hn', h.tab0, h.row0, own_kept h.own hk (fun g hg => by have := (h.own.lt g hg).1; omega), h.bel.setCell (by simp; omega) _⟩
theorem PX.push (h : PX w op A C c VA V (i + 1) i sv W) (hi : i < V.length) {x : Int} (hx : (ndAt C V[i]).sort = x) {g cap n : Nat} (ho : W2.ownsRow (w.heap.size + 3) 3 1 (.slice (some ⟨g, 0, none⟩) (i + 1) cap) (i + 1) ((V.take i).map (fun x => Value.int .i64 (ndAt C x).sort) ++ #[Value.int .i64 x].toList)) {cs : Obj} (hg : ((W.alloc cs).drewN n).grownBy W2 sv.ownBlock) : PX w op A C c VA V (i + 1) (i + 1) (.slice (some ⟨g, 0, none⟩) (i + 1) cap) W2 := by
  have hk0 : Kept (fun b => some b = sv.ownBlock) W ((W.alloc cs).drewN n) := Kept.of_below (S := fun b => some b = sv.ownBlock) (below_drewN ((Below.refl _ W).alloc (Nat.le_refl _) _) n)
  have hk := hk0.grown hg (fun k e => .inl e.symm)
  have hob : ∀ b, some b = sv.ownBlock → w.heap.size + 3 ≤ b := fun b e => (h.own.lt b e.symm).1
  have hbel : Below w.heap.size w W2 := h.bel.trans (hk.below h.bel.size (fun k e => by have := hob k e; omega))
  refine ⟨h.t4.kept hk (fun e => by have := hob _ e; omega), h.t8.kept hk (fun e => by have := hob _ e; omega), h.nd.kept hk (fun e => by have := hob _ e; omega), h.tab0, h.row0, ?_, hbel⟩
  · rw [List.take_add_one, List.getElem?_eq_getElem hi, List.map_append]
    simpa [hx] using ho
end
theorem pcells_all (op : Int) (V : List Int) (s : Int) : pcells op V V.length s = (nodeCells (opNdL op V s)).toArray := by
  have e : ∀ j : Nat, (if j < V.length then V[j]?.getD 0 else 0) = V[j]?.getD 0 := fun j => by
    split
    · rfl
    · rw [List.getElem?_eq_none (by omega)]
      rfl
  simp [pcells, nodeCells, opNdL, opNd, e]
theorem opNdL_wf {C : List Nd} {op : Int} {V : List Int} {s : Int} (hop : Op12 op) (hl : C.length < 100000) (h3 : V.length ≤ 3) (hin : ∀ x ∈ V, 0 ≤ x ∧ x < C.length) (hw : ∀ n ∈ C, NdWf n) (ho : opL op (V.map fun x => (ndAt C x).sort) = some s) : NdWf (opNdL op V s) := by
  have e : ∀ j : Nat, 0 ≤ V[j]?.getD 0 ∧ V[j]?.getD 0 ≤ 100000 := fun j => by
    by_cases hj : j < V.length
    · rw [List.getElem?_eq_getElem hj]
      have := hin _ (List.getElem_mem hj)
      show 0 ≤ V[j] ∧ V[j] ≤ 100000
      omega
    · rw [List.getElem?_eq_none (by omega)]
      exact ⟨by decide, by decide⟩
  have hs : -9223372036854775808 ≤ s ∧ s ≤ 9223372036854775807 := by
    unfold opL at ho
    split at ho
    · rename_i hl
      unfold opSort at ho
      repeat' split at ho
      all_goals first
        | (cases ho; done)
        | (injection ho with ho; subst ho; exact ⟨by decide, by decide⟩)
        | skip
      injection ho with ho
      subst ho
      match V, hin with
      | [a, b, d], hin =>
        have hb := hin b (by simp)
        exact (hw _ (ndAt_mem hb.1 hb.2)).sort
      | [a, b], hin =>
        have hb := hin b (by simp)
        exact (hw _ (ndAt_mem hb.1 hb.2)).sort
      | [a], _ => exact ⟨by simp, by simp⟩
      | [], _ => exact ⟨by simp, by simp⟩
      | a :: b :: d :: f :: r, hin =>
        have hb := hin b (by simp)
        exact (hw _ (ndAt_mem hb.1 hb.2)).sort
    · cases ho
  refine ⟨?_, ?_, fun j => ?_, hs, ⟨by show (-9223372036854775808 : Int) ≤ 0; decide, by show (0 : Int) ≤ _; decide⟩, ⟨by show (-9223372036854775808 : Int) ≤ 0; decide, by show (0 : Int) ≤ _; decide⟩⟩
  · show -128 ≤ op ∧ op ≤ 127
    rcases hop with rfl | rfl | rfl | rfl | rfl | rfl | rfl | rfl | rfl | rfl | rfl | rfl | rfl <;> decide
  · show -128 ≤ (V.length : Int) ∧ (V.length : Int) ≤ 127
    omega
  · have e0 := e 0
    have e1 := e 1
    have e2 := e 2
    unfold Nd.arg
    repeat' split
    · show -9223372036854775808 ≤ V[0]?.getD 0 ∧ V[0]?.getD 0 ≤ 9223372036854775807
      omega
    · show -9223372036854775808 ≤ V[1]?.getD 0 ∧ V[1]?.getD 0 ≤ 9223372036854775807
      omega
    · show -9223372036854775808 ≤ V[2]?.getD 0 ∧ V[2]?.getD 0 ≤ 9223372036854775807
      omega
set_option maxRecDepth 100000 in
set_option maxHeartbeats 8000000 in
theorem cput_ok {C : List Nd} {w : World} {A : Option Addr} (c : Nat) {op : Int} (hop : Op12 op) (most : Int) {V : List Int} {VA : Option Addr} (vc : Nat) (hc : C.length ≤ c) (h : Tab w A C) (hs : ∀ n ∈ C, 0 ≤ n.sort) (hl : C.length < 100000)
    (hV : Row w VA V) (h3 : V.length ≤ 3) (hin : ∀ x ∈ V, 0 ≤ x ∧ x < C.length) :
    Calls Tryz.prog 118 #[.agg #[.slice A C.length c], .int .i8 op, .slice VA V.length vc, .int .i64 most] w (PutIs A C (putL C op V most) w) := by
  obtain ⟨i0, hi0, hz0, hz1, hz2⟩ := info_parts int_info
  obtain ⟨w0, hw0⟩ : ∃ w0, ((w.alloc (.cells #[.slice A C.length c] 33)).alloc (.cells #[.slice none 0 0] 33)).alloc (.cells #[.int .i8 op, .int .i8 V.length, .int .i64 0, .int .i64 0, .int .i64 0, .int .i64 0, .int .i64 0, .int .i64 0] 51) = w0 := ⟨_, rfl⟩
  have hB0 : Below w.heap.size w w0 := by rw [← hw0]; exact (((Below.refl _ w).alloc (Nat.le_refl _) _).alloc (by simp) _).alloc (by simp; omega) _
  have HX0 : Hid (PX w op A C c VA V 0 0 (.slice none 0 0) w0) := zzh (by
    refine ⟨?_, ?_, ?_, h, hV, World.ownsRow_nil _ _ _ _, hB0⟩
    · rw [← hw0]
      exact ((Blk.new w _ _).alloc _).alloc _
    · rw [← hw0]
      exact (Blk.new_at (by simp) _ _).alloc _
    · rw [← hw0]
      exact Blk.new_at (by simp) _ _)
  have HC := zzh hc
  have HS := zzh hs
  have HL := zzh hl
  have HIn := zzh hin
  have HOp := zzh hop
  have hwl : IntKind.i8.wrap (V.length : Int) = V.length := by
    rcases (show V.length = 0 ∨ V.length = 1 ∨ V.length = 2 ∨ V.length = 3 by omega) with e | e | e | e <;> rw [e] <;> rfl
  have HW0 := zzh hw0
  clear hc h hs hl hV hin hop hB0 hw0
  go_enter Tryz.func118, Tryz.ntmps118
  go_wp2
  rw [HW0.out]
  clear HW0 hwl
  go_loopg [13, 12] V.length (fun g v vs wr => ∃ (i : Nat) (sv : Value), i + g = V.length ∧ v = .int .i64 i ∧ sv = vs ∧ PX w op A C c VA V i i sv wr)
  case atStart => exact ⟨0, _, by omega, rfl, rfl, HX0.out⟩
  case round =>
    obtain ⟨i, sv, hig, rfl, rfl, hx⟩ := hrel
    have HX := zzh hx
    clear hx
    cases gk with
    | zero =>
      obtain rfl : i = V.length := by omega
      have d1 : decide ((V.length : Int) < V.length) = false := by simp
      obtain ⟨SA, sc, hsv⟩ := own_slice HX.out.own
      subst hsv
      have hO : OwnL wr (w.heap.size + 3) (.slice SA V.length sc) (V.map fun x => (ndAt C x).sort) := by
        have := HX.out.own
        rw [List.take_length] at this
        unfold OwnL
        rw [List.length_map, List.map_map]
        exact this
      have KO := op_ok sc HOp.out (hO.row (by rw [List.length_map]; omega)).1 (fun x hx => by
        obtain ⟨y, hy, rfl⟩ := List.mem_map.1 hx
        have hyi := HIn.out y hy
        exact HS.out _ (ndAt_mem hyi.1 (by omega)))
      rw [List.length_map] at KO
      have KO := zzh KO
      clear hO
      go_wp2_with fail
      refine KO.out.mono ?_
      rintro e w2 ⟨s, er, rfl, hso, hno, hb2⟩
      have HB2 := zzh (HX.out.bel.trans (hb2.mono HX.out.bel.size))
      have HT2 := zzh (HX.out.t4.below hb2 HX.out.t4.lt)
      have HR2 := zzh (HX.out.t8.below hb2 HX.out.t8.lt)
      have HN2 := zzh (HX.out.nd.below hb2 HX.out.nd.lt)
      have b2 := HR2.out.cell 0
      have f2 := HR2.out.frozen 0
      have a2 := HT2.out.cell 0
      simp only [zzg, zzi] at b2 a2
      have HG : Hid (putL C op V most = match opL op (V.map fun x => (ndAt C x).sort) with | none => ⟨[], 0, 33⟩ | some s => putT C (opNdL op V s) most) := zzh rfl
      cases ho : opL op (V.map fun x => (ndAt C x).sort) with
      | none =>
        have her := hno ho
        have d2 : (er != 0) = true := by simpa using her
        have HP : Hid (putL C op V most = ⟨[], 0, 33⟩) := zzh (by rw [HG.out, ho])
        clear her hso hno ho hb2 HG
        go_wp2
        refine bodyPost_ret (v := .tuple #[.agg #[.slice none 0 0], .int .i64 0, .int .i64 33]) ?_ rfl ?_
        · have c1 := (HR2.out.set_ 0 (.slice none 0 0)).cell 0
          simp only [zzg, zzi, zza, zzb] at c1
          simp [results, Tryz.results118, go_sem, c1]
        · rw [HP.out]
          exact ⟨none, 0, rfl, ⟨by simp, .inl rfl⟩, Nat.le_refl _, Fr.none, HB2.out.setCell (by simp) _⟩
      | some s0 =>
        obtain ⟨rfl, rfl⟩ := hso s0 ho
        have HP : Hid (putL C op V most = putT C (opNdL op V s) most) := zzh (by rw [HG.out, ho])
        have hwf := opNdL_wf HOp.out HL.out h3 HIn.out HX.out.tab.wfs ho
        have hb3 : Below w.heap.size w (w2.setCell ⟨w.heap.size + 1 + 1, 5, none⟩ (.int .i64 s)) := HB2.out.setCell (by simp; omega) _
        have KP := rput_ok c (opNdL op V s) hwf most HC.out (HX.out.tab0.below hb3) HL.out
        have hn3 := HN2.out.set_ 5 (.int .i64 s)
        have e3 : (pcells op V V.length 0).setIfInBounds 5 (.int .i64 s) = pcells op V V.length s := by simp [pcells]
        rw [e3, pcells_all] at hn3
        have HT3 := zzh (HT2.out.far (p := ⟨w.heap.size + 1 + 1, 5, none⟩) (by simp <;> omega) (.int .i64 s))
        have HR3 := zzh (HR2.out.far (p := ⟨w.heap.size + 1 + 1, 5, none⟩) (by simp <;> omega) (.int .i64 s))
        have HB3 := zzh hb3
        have n5 := HN2.out.cell 5
        have g5 := HN2.out.frozen 5
        have q0 := hn3.cell 0
        have q1 := hn3.cell 1
        have q2 := hn3.cell 2
        have q3 := hn3.cell 3
        have q4 := hn3.cell 4
        have q5 := hn3.cell 5
        have q6 := hn3.cell 6
        have q7 := hn3.cell 7
        have a3 := HT3.out.cell 0
        simp only [pcells, nodeVal, nodeCells, zzg, zzi, zzj] at n5 q0 q1 q2 q3 q4 q5 q6 q7 a3 KP
        have KP := zzh KP
        clear hso hno ho hb2 HG hwf hb3 hn3 e3
        go_wp2_with fail
        refine KP.out.mono ?_
        rintro e w4 ⟨A', c', rfl, ht, hc', hfr, hb4⟩
        have HB4 := zzh (HB3.out.trans (hb4.mono HB3.out.size))
        have HR4 := zzh (HR3.out.below hb4 HR3.out.lt)
        have HT4 := zzh ht
        have HC4 := zzh hc'
        have HF4 := zzh hfr
        have b4 := HR4.out.cell 0
        have f4 := HR4.out.frozen 0
        have HSZ := zzh HB3.out.size
        simp only [zzg, zzi] at b4
        clear hb4 ht hc' hfr q0 q1 q2 q3 q4 q5 q6 q7 n5 g5 a3 a2 b2 f2
        generalize putT C (opNdL op V s) most = r at *
        obtain ⟨T', id', e'⟩ := r
        dsimp only at HT4 HC4
        go_wp2
        refine bodyPost_ret (v := .tuple #[.agg #[.slice A' T'.length c'], .int .i64 id', .int .i64 e']) ?_ rfl ?_
        · have c1 := (HR4.out.set_ 0 (.slice A' T'.length c')).cell 0
          simp only [zzg, zzi, zza, zzb] at c1
          simp [results, Tryz.results118, go_sem, c1]
        · have hbf := HB4.out.setCell (p := ⟨w.heap.size + 1, 0, none⟩) (by simp) (.slice A' T'.length c')
          rw [HP.out]
          refine ⟨A', c', rfl, HT4.out.kept1 (Kept.set1 w4 (w.heap.size + 1) 0 _) (fun b e => ?_), HC4.out, fun b hb => (HF4.out b hb).imp id fun h => Nat.le_trans HSZ.out h, hbf⟩
          rcases HF4.out b e with ⟨e1, h0⟩ | h1
          · have := Tab.lt (e1 ▸ HX.out.tab0) h0
            omega
          · have := HSZ.out
            have h5 := HB2.out.size
            have h6 := HN2.out.lt
            simp [World.setCell] at h1
            omega
    | succ gk =>
      have hlt : i < V.length := by omega
      have d1 : decide ((i : Int) < V.length) = true := by simp; omega
      have t1 : (0 : Int) ≤ (i : Int) := by omega
      have t2 : (i : Int) < (V.length : Int) := by omega
      obtain ⟨b, off, hVA, hbb, hcell⟩ := HX.out.row.at_.resolve_left (by omega)
      have y0 := hcell i hlt
      obtain ⟨k, hk⟩ : ∃ k : Nat, V[i] = k := ⟨V[i].toNat, by have := HIn.out V[i] (List.getElem_mem hlt); omega⟩
      have hkl : k < C.length := by have := HIn.out V[i] (List.getElem_mem hlt); omega
      obtain ⟨g, goff, hA, hgb, hgc⟩ := HX.out.tab.at_.resolve_left (by omega)
      obtain ⟨_, _, _, _, _, z5, _, _⟩ := (hgc k hkl).all
      rw [hk] at y0
      have HK := zzh hk
      have HKL := zzh hkl
      subst hVA hA
      have s1 := HX.out.t4.cell 0
      simp only [zzg, zzi] at s1
      have k1 : (0 : Int) ≤ (k : Int) := by omega
      have k2 : (k : Int) < (C.length : Int) := by omega
      have hnd : ndAt C (k : Int) = C[k] := ndAt_nat hkl
      have HND := zzh hnd
      clear hcell hgc hk hnd
      generalize C[k] = m at *
      have n0 := HX.out.nd.cell 2
      have n1 := HX.out.nd.cell 3
      have n2 := HX.out.nd.cell 4
      have f0 := HX.out.nd.frozen 2
      have f1 := HX.out.nd.frozen 3
      have f2 := HX.out.nd.frozen 4
      simp only [pcells, zzg, zzi, zzj] at n0 n1 n2
      have hi3 : i = 0 ∨ i = 1 ∨ i = 2 := by omega
      rcases hi3 with rfl | rfl | rfl
      all_goals first | rw [Nat.add_zero] at y0 | skip
      all_goals
        have hnx := HX.out.node hlt (by omega)
        rw [HK.out] at hnx
        go_wp2
      · change PX w op (some ⟨g, goff, none⟩) C c (some ⟨b, off, none⟩) V (0 + 1) 0 sv (wr.setCell ⟨w.heap.size + 1 + 1, 2, none⟩ (.int .i64 (k : Int))) at hnx
        have z5' : (wr.setCell ⟨w.heap.size + 1 + 1, 2, none⟩ (.int .i64 (k : Int))).cell? ⟨g, goff + k * 8 + 5, none⟩ = some (.int .i64 m.sort) := by
          obtain ⟨b2, o2, e, _, hc⟩ := hnx.tab.at_.resolve_left (by omega)
          cases e
          have := (hc k HKL.out).all.2.2.2.2.2.1
          rw [this, ← HND.out, ndAt_nat HKL.out]
        have y0' : (wr.setCell ⟨w.heap.size + 1 + 1, 2, none⟩ (.int .i64 (k : Int))).cell? ⟨b, off, none⟩ = some (.int .i64 (k : Int)) := by
          obtain ⟨b2, o2, e, _, hc⟩ := hnx.row.at_.resolve_left (by omega)
          cases e
          have := hc 0 hlt
          rw [HK.out] at this
          exact this
        have s1' := hnx.t4.cell 0
        simp only [zzg, zzi] at s1'
        have HNX := zzh hnx
        have HSZ := zzh hnx.nd.lt
        clear z5 y0 s1 n0 n1 n2 f0 f1 f2 hnx HX
        generalize wr.setCell ⟨w.heap.size + 1 + 1, 2, none⟩ (.int .i64 (k : Int)) = W1 at *
        have h1c : Hid (∀ u ∈ #[Value.int .i64 m.sort].toList, u.oneCell' = true) := zzh (by simp [Value.oneCell'])
        go_region_law (refine step_push _ rfl (.tmp 34) (.tmp 44) 27 rfl (w.heap.size + 3) 3 i0 (.int .i64 0) 1 8 Tryz.underlying27 hi0 hz0 hz1 hz2 rfl (by decide) sv 0 _ rfl (own_drewN (HNX.out.own.alloc _) _) W1.heap.size #[.int .i64 m.sort] rfl (Blk.new _ _ _) rfl h1c.out (by omega) (by omega) (by have := HSZ.out; omega) (fun g2 cap3 w2 hown1 hgrow hat hlt1 => ?_))
        all_goals
          have hp := HNX.out.push hlt (x := m.sort) (by rw [HK.out, HND.out]) hown1 hgrow
          have HP := zzh hp
          clear hp hown1 hgrow hat hlt1
        all_goals go_wp2
        all_goals
          go_roundg gk
          case measure => omega
          case rel => exact ⟨1, _, by omega, by go_num, rfl, HP.out⟩
      · change PX w op (some ⟨g, goff, none⟩) C c (some ⟨b, off, none⟩) V (1 + 1) 1 sv (wr.setCell ⟨w.heap.size + 1 + 1, 3, none⟩ (.int .i64 (k : Int))) at hnx
        have z5' : (wr.setCell ⟨w.heap.size + 1 + 1, 3, none⟩ (.int .i64 (k : Int))).cell? ⟨g, goff + k * 8 + 5, none⟩ = some (.int .i64 m.sort) := by
          obtain ⟨b2, o2, e, _, hc⟩ := hnx.tab.at_.resolve_left (by omega)
          cases e
          have := (hc k HKL.out).all.2.2.2.2.2.1
          rw [this, ← HND.out, ndAt_nat HKL.out]
        have y0' : (wr.setCell ⟨w.heap.size + 1 + 1, 3, none⟩ (.int .i64 (k : Int))).cell? ⟨b, off + 1, none⟩ = some (.int .i64 (k : Int)) := by
          obtain ⟨b2, o2, e, _, hc⟩ := hnx.row.at_.resolve_left (by omega)
          cases e
          have := hc 1 hlt
          rw [HK.out] at this
          exact this
        have s1' := hnx.t4.cell 0
        simp only [zzg, zzi] at s1'
        have HNX := zzh hnx
        have HSZ := zzh hnx.nd.lt
        clear z5 y0 s1 n0 n1 n2 f0 f1 f2 hnx HX
        generalize wr.setCell ⟨w.heap.size + 1 + 1, 3, none⟩ (.int .i64 (k : Int)) = W1 at *
        have h1c : Hid (∀ u ∈ #[Value.int .i64 m.sort].toList, u.oneCell' = true) := zzh (by simp [Value.oneCell'])
        go_region_law (refine step_push _ rfl (.tmp 34) (.tmp 44) 27 rfl (w.heap.size + 3) 3 i0 (.int .i64 0) 1 8 Tryz.underlying27 hi0 hz0 hz1 hz2 rfl (by decide) sv 1 _ rfl (own_drewN (HNX.out.own.alloc _) _) W1.heap.size #[.int .i64 m.sort] rfl (Blk.new _ _ _) rfl h1c.out (by omega) (by omega) (by have := HSZ.out; omega) (fun g2 cap3 w2 hown1 hgrow hat hlt1 => ?_))
        all_goals
          have hp := HNX.out.push hlt (x := m.sort) (by rw [HK.out, HND.out]) hown1 hgrow
          have HP := zzh hp
          clear hp hown1 hgrow hat hlt1
        all_goals go_wp2
        all_goals
          go_roundg gk
          case measure => omega
          case rel => exact ⟨2, _, by omega, by go_num, rfl, HP.out⟩
      · change PX w op (some ⟨g, goff, none⟩) C c (some ⟨b, off, none⟩) V (2 + 1) 2 sv (wr.setCell ⟨w.heap.size + 1 + 1, 4, none⟩ (.int .i64 (k : Int))) at hnx
        have z5' : (wr.setCell ⟨w.heap.size + 1 + 1, 4, none⟩ (.int .i64 (k : Int))).cell? ⟨g, goff + k * 8 + 5, none⟩ = some (.int .i64 m.sort) := by
          obtain ⟨b2, o2, e, _, hc⟩ := hnx.tab.at_.resolve_left (by omega)
          cases e
          have := (hc k HKL.out).all.2.2.2.2.2.1
          rw [this, ← HND.out, ndAt_nat HKL.out]
        have y0' : (wr.setCell ⟨w.heap.size + 1 + 1, 4, none⟩ (.int .i64 (k : Int))).cell? ⟨b, off + 2, none⟩ = some (.int .i64 (k : Int)) := by
          obtain ⟨b2, o2, e, _, hc⟩ := hnx.row.at_.resolve_left (by omega)
          cases e
          have := hc 2 hlt
          rw [HK.out] at this
          exact this
        have s1' := hnx.t4.cell 0
        simp only [zzg, zzi] at s1'
        have HNX := zzh hnx
        have HSZ := zzh hnx.nd.lt
        clear z5 y0 s1 n0 n1 n2 f0 f1 f2 hnx HX
        generalize wr.setCell ⟨w.heap.size + 1 + 1, 4, none⟩ (.int .i64 (k : Int)) = W1 at *
        have h1c : Hid (∀ u ∈ #[Value.int .i64 m.sort].toList, u.oneCell' = true) := zzh (by simp [Value.oneCell'])
        go_region_law (refine step_push _ rfl (.tmp 34) (.tmp 44) 27 rfl (w.heap.size + 3) 3 i0 (.int .i64 0) 1 8 Tryz.underlying27 hi0 hz0 hz1 hz2 rfl (by decide) sv 2 _ rfl (own_drewN (HNX.out.own.alloc _) _) W1.heap.size #[.int .i64 m.sort] rfl (Blk.new _ _ _) rfl h1c.out (by omega) (by omega) (by have := HSZ.out; omega) (fun g2 cap3 w2 hown1 hgrow hat hlt1 => ?_))
        all_goals
          have hp := HNX.out.push hlt (x := m.sort) (by rw [HK.out, HND.out]) hown1 hgrow
          have HP := zzh hp
          clear hp hown1 hgrow hat hlt1
        all_goals go_wp2
        all_goals
          go_roundg gk
          case measure => omega
          case rel => exact ⟨3, _, by omega, by go_num, rfl, HP.out⟩
end Go.Proofs.YtlipnnibagidiaaGreat

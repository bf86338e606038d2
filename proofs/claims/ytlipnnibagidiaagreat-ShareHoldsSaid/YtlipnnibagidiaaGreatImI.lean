/- gantryref12.image. -/
import Derived.Test.YtlipnnibagidiaaGreatImH
namespace Go.Proofs.YtlipnnibagidiaaGreat
open Go.RowKit Go.Lib
theorem OutT.low {w : World} {A : Option Addr} {C : List Nd} {Q : List Nd → Int → Int → Prop} {o : Obj} {e : Ending} {W : World} (h : OutT A C Q (w.alloc o) e W) : OutT A C Q w e W := by
  obtain ⟨A', c', T', id, er, h1, h2, h3, h4, h5, h6⟩ := h
  have hb : Below w.heap.size w (w.alloc o) := (Below.refl _ w).alloc (Nat.le_refl _) _
  exact ⟨A', c', T', id, er, h1, h2, h3, fun b e => (h4 b e).imp (fun h => h) fun h => Nat.le_trans hb.size h, h5, hb.trans (h6.mono hb.size)⟩
theorem MX.start2 {w : World} {A : Option Addr} {C : List Nd} {c : Nat} (h : Tab w A C) (hc : C.length ≤ c) (cs : Array Value) (t : TypeId) : MX (w.alloc (.cells #[.slice A C.length c] 33)) A C w.heap.size A C c (((w.alloc (.cells #[.slice A C.length c] 33)).alloc (.cells cs t)).alloc (.cells #[.slice none 0 0] 33)) :=
  ⟨((Blk.new w _ _).alloc _).alloc _, Blk.new_at (by simp) _ _, by simp; omega, ((h.alloc _).alloc _).alloc _, fun b e h0 => by have := Tab.lt (e ▸ h) h0; exact ⟨by omega, .inl ⟨e, h0, by simp; omega⟩⟩, hc, ((Below.refl _ _).alloc (Nat.le_refl _) _).alloc (by simp) _⟩
structure ArgsOk (C : List Nd) (n : Nd) (V : List Int) : Prop where
  wf : NdWf n
  ops : Op12 n.op ∨ n.op = 13
  len : (V.length : Int) = n.len
  srt : n.op ≠ 13 → opL n.op (V.map fun x => (ndAt C x).sort) = some n.sort
  inn : ∀ x ∈ V, 0 ≤ x ∧ x < C.length
  three : V.length ≤ 3
set_option maxRecDepth 100000 in
set_option maxHeartbeats 8000000 in
theorem image_1 {C : List Nd} {w : World} {A : Option Addr} (c : Nat) {n : Nd} {V : List Int} {VA : Option Addr} (vc : Nat) (most : Int) (hw : Well C) (hi : IteOk C) (hV : Row w VA V) (ho : ArgsOk C n V) (hop : n.op = 1) (hc : C.length ≤ c) (h : Tab w A C) (hl : C.length < 50000) (hm : most < 50000) :
    Calls Tryz.prog 74 #[.agg #[.slice A C.length c], nodeVal n, .slice VA V.length vc, .int .i64 most] w (OutT A C (ImgQ C most n.sort) w) := by
  have hl0 : C.length < 100000 := by omega
  obtain ⟨w', hw'⟩ : ∃ w', w.alloc (.cells #[.slice A C.length c] 33) = w' := ⟨_, rfl⟩
  have HSZ : Hid (w'.heap.size = w.heap.size + 1) := zzh (by rw [← hw']; simp)
  obtain ⟨w0, hw0⟩ : ∃ w0, (w'.alloc (.cells (nodeCells n).toArray 51)).alloc (.cells #[.slice none 0 0] 33) = w0 := ⟨_, rfl⟩
  have HX0 : Hid (MX w' A C w.heap.size A C c w0) := zzh (by rw [← hw0, ← hw']; exact MX.start2 h hc _ _)
  have HN0 : Hid (Blk w0 w'.heap.size 51 (nodeCells n).toArray) := zzh (by rw [← hw0]; exact (Blk.new w' _ _).alloc _)
  have HB0 : Hid (Below w.heap.size w w0) := zzh (by rw [← hw0, ← hw']; exact (((Below.refl _ w).alloc (Nat.le_refl _) _).alloc (by simp) _).alloc (by simp; omega) _)
  have HV := zzh (hV.below HB0.out)
  have HW := zzh hw
  have HI := zzh hi
  have HL := zzh hl
  have HM := zzh hm
  have HL0 := zzh hl0
  have HO := zzh ho
  have hlow : ∀ e W, OutT A C (ImgQ C most n.sort) w' e W → OutT A C (ImgQ C most n.sort) w e W := fun e W h => by rw [← hw'] at h; exact h.low
  have HLow := zzh hlow
  obtain ⟨n0, n1, n2, n3, n4, n5, n6, n7⟩ : w0.cell? ⟨w'.heap.size, 0, none⟩ = some (.int .i8 n.op) ∧ w0.cell? ⟨w'.heap.size, 1, none⟩ = some (.int .i8 n.len) ∧ w0.cell? ⟨w'.heap.size, 2, none⟩ = some (.int .i64 n.a0) ∧ w0.cell? ⟨w'.heap.size, 3, none⟩ = some (.int .i64 n.a1) ∧ w0.cell? ⟨w'.heap.size, 4, none⟩ = some (.int .i64 n.a2) ∧ w0.cell? ⟨w'.heap.size, 5, none⟩ = some (.int .i64 n.sort) ∧ w0.cell? ⟨w'.heap.size, 6, none⟩ = some (.int .i64 n.fn) ∧ w0.cell? ⟨w'.heap.size, 7, none⟩ = some (.int .i64 n.num) := ⟨HN0.out.cell 0, HN0.out.cell 1, HN0.out.cell 2, HN0.out.cell 3, HN0.out.cell 4, HN0.out.cell 5, HN0.out.cell 6, HN0.out.cell 7⟩
  obtain ⟨s0, s1, s2, s3⟩ := HX0.out.cells
  have hlen : V.length = 1 := by
    have := ho.srt (by omega)
    unfold opL at this
    split at this
    · rename_i h1
      rw [List.length_map, hop] at h1
      simp [manyM] at h1
      omega
    · cases this
  obtain ⟨x, hx⟩ := len_one (L := V) (by omega)
  have hxi0 := ho.inn x (by rw [hx]; simp)
  obtain ⟨a, rfl⟩ : ∃ q : Nat, x = q := ⟨x.toNat, by omega⟩
  obtain ⟨vb, voff, hVA, hvb, hvc⟩ := HV.out.at_.resolve_left (by omega)
  have y0 := hvc 0 (by omega)
  have hv0 : V[0]'(by omega) = (a : Int) := by simp [hx]
  rw [hv0, Nat.add_zero] at y0
  obtain ⟨vvb, _, hVA2, hvb2, _⟩ := hV.at_.resolve_left (by omega)
  have hvlt : vb < w.heap.size := by rw [hVA] at hVA2; injection hVA2 with h; injection h with h; omega
  have HS : Hid (opL 1 [(ndAt C (a : Int)).sort] = some n.sort) := zzh (by have := ho.srt (by omega); rw [hx, hop] at this; exact this)
  have HVL := zzh hvlt
  have HAx := zzh (show a < C.length by omega)
  have HIa : Hid (In64 (a : Int)) := zzh (by unfold In64; omega)
  have HSort : Hid (n.sort = 0) := zzh (by
    have := HS.out
    unfold opL at this
    simp [manyM, opSort] at this
    exact this.2.symm)
  subst hVA
  have v0 : (0 : Int) < (V.length : Int) := by omega
  have u0 : 0 < V.length := by omega
  simp only [nodeVal, nodeCells] at hw0 ⊢
  have KN : Hid (∀ W, Below w0.heap.size w0 W → Calls Tryz.prog 117 #[.agg #[.slice A C.length c], .int .i64 (a : Int), .int .i64 most] W (OutT A C (ImgQ C most 0) W)) := zzh (fun W hW => cnot_ok c a most HW.out HI.out HAx.out HX0.out.hc (HX0.out.below hW).tab HL0.out)
  have d0 : (n.op == 0) = false := by simp [hop]
  have d1 : (n.op == 1) = true := by simp [hop]
  have d2 : (n.op == 2) = false := by simp [hop]
  have d3 : (n.op == 3) = false := by simp [hop]
  have d4 : (n.op == 4) = false := by simp [hop]
  have d5 : (n.op == 5) = false := by simp [hop]
  have d6 : (n.op == 6) = false := by simp [hop]
  have d7 : (n.op == 7) = false := by simp [hop]
  have d8 : (n.op == 8) = false := by simp [hop]
  have d9 : (n.op == 9) = false := by simp [hop]
  have d10 : (n.op == 10) = false := by simp [hop]
  have d11 : (n.op == 11) = false := by simp [hop]
  have d12 : (n.op == 12) = false := by simp [hop]
  have d13 : (n.op == 13) = false := by simp [hop]
  have hbD : Below w0.heap.size w0 w0.drew := below_drewN (Below.refl _ _) 1
  have KD := zzh (KN.out _ hbD)
  have HXD := zzh (HX0.out.below hbD)
  have HBD := zzh hbD
  have HK := zzh (fun (W : World) (hW : Below w0.heap.size w0 W) (v : Value) => show (W.cell? ⟨w.heap.size, 0, none⟩ = some (.slice A C.length c) ∧ W.cell? ⟨vb, voff, none⟩ = some (.int .i64 (a : Int)) ∧ W.cell? ⟨w'.heap.size, 0, none⟩ = some (.int .i8 n.op) ∧ W.cell? ⟨w'.heap.size, 7, none⟩ = some (.int .i64 n.num)) ∧ ((W.setCell ⟨w'.heap.size + 1, 0, none⟩ v).cell? ⟨w.heap.size, 0, none⟩ = some (.slice A C.length c) ∧ (W.setCell ⟨w'.heap.size + 1, 0, none⟩ v).cell? ⟨vb, voff, none⟩ = some (.int .i64 (a : Int)) ∧ (W.setCell ⟨w'.heap.size + 1, 0, none⟩ v).cell? ⟨w'.heap.size, 0, none⟩ = some (.int .i8 n.op) ∧ (W.setCell ⟨w'.heap.size + 1, 0, none⟩ v).cell? ⟨w'.heap.size, 7, none⟩ = some (.int .i64 n.num)) from by
    have hfar : ∀ b i, b ≠ w'.heap.size + 1 → (W.setCell ⟨w'.heap.size + 1, 0, none⟩ v).cell? ⟨b, i, none⟩ = W.cell? ⟨b, i, none⟩ := fun b i hb => by
      unfold World.cell?
      rw [Below.heap_setCell W _ _ b hb]
    have hz := HSZ.out
    have hv := HVL.out
    have hs := HB0.out.size
    have hn := HN0.out.lt
    rw [hfar _ 0 (by omega), hfar w'.heap.size 0 (by omega), hfar w'.heap.size 7 (by omega), hfar vb (voff) (by omega)]
    have e : W.cell? ⟨w.heap.size, 0, none⟩ = some (.slice A C.length c) ∧ W.cell? ⟨vb, voff, none⟩ = some (.int .i64 (a : Int)) ∧ W.cell? ⟨w'.heap.size, 0, none⟩ = some (.int .i8 n.op) ∧ W.cell? ⟨w'.heap.size, 7, none⟩ = some (.int .i64 n.num) := ⟨(HX0.out.below hW).t.cell 0, (hW.cell (p := ⟨vb, voff, none⟩) (by show vb < _; omega)).trans y0, (HN0.out.below hW hn).cell 0, (HN0.out.below hW hn).cell 7⟩
    exact ⟨e, e⟩)
  clear hw hi hV ho hc h hl hm hl0 hlow hx hvb hvc hVA2 hvb2 hvlt hlen hbD hop hxi0 hv0
  go_enter Tryz.func74, Tryz.ntmps74
  go_wp2_with fail
  go_region_held3 (fun W => W.cell? ⟨w.heap.size, 0, none⟩ = some (.slice A C.length c) ∧ W.cell? ⟨vb, voff, none⟩ = some (.int .i64 (a : Int)) ∧ W.cell? ⟨w'.heap.size, 0, none⟩ = some (.int .i8 n.op) ∧ W.cell? ⟨w'.heap.size, 7, none⟩ = some (.int .i64 n.num)) (go_keep) (first
    | (go_at_call 117; refine KD.out.mono ?_; rintro e w3 ⟨A', c', T', id', e', rfl, ht, hc', hf, hq, hb3⟩; have HTC := zzh (And.intro hb3 (And.intro ht (And.intro hc' (And.intro hf hq)))); have HY := zzh (HXD.out.below hb3); obtain ⟨q0, q1, q2, q3⟩ := HY.out.cells; obtain ⟨kA, kB⟩ := HK.out w3 (HBD.out.trans (hb3.mono HBD.out.size)) (.slice A' T'.length c'); obtain ⟨ka0, ka1, ka2, ka3⟩ := kA; obtain ⟨kb0, kb1, kb2, kb3⟩ := kB; clear ht hc' hf hq hb3))
  go_wp2
  have hres := HY.out.res (.slice A' T'.length c')
  refine bodyPost_ret (v := .tuple #[.agg #[.slice A' T'.length c'], .int .i64 id', .int .i64 e']) (by simp [results, Tryz.results74, go_sem, hres]) rfl ?_
  have hout := HXD.out.ret_call HTC.out.1 HTC.out.2.1 HTC.out.2.2.1 HTC.out.2.2.2.1 (Q := ImgQ C most n.sort) (id := id') (er := e') (by rw [HSort.out]; exact HTC.out.2.2.2.2)
  first | exact HLow.out _ _ hout | exact (HLow.out _ _ hout).drew
set_option maxRecDepth 100000 in
set_option maxHeartbeats 8000000 in
theorem image_11 {C : List Nd} {w : World} {A : Option Addr} (c : Nat) {n : Nd} {V : List Int} {VA : Option Addr} (vc : Nat) (most : Int) (hw : Well C) (hi : IteOk C) (hV : Row w VA V) (ho : ArgsOk C n V) (hop : n.op = 11) (hc : C.length ≤ c) (h : Tab w A C) (hl : C.length < 50000) (hm : most < 50000) :
    Calls Tryz.prog 74 #[.agg #[.slice A C.length c], nodeVal n, .slice VA V.length vc, .int .i64 most] w (OutT A C (ImgQ C most n.sort) w) := by
  have hl0 : C.length < 100000 := by omega
  obtain ⟨w', hw'⟩ : ∃ w', w.alloc (.cells #[.slice A C.length c] 33) = w' := ⟨_, rfl⟩
  have HSZ : Hid (w'.heap.size = w.heap.size + 1) := zzh (by rw [← hw']; simp)
  obtain ⟨w0, hw0⟩ : ∃ w0, (w'.alloc (.cells (nodeCells n).toArray 51)).alloc (.cells #[.slice none 0 0] 33) = w0 := ⟨_, rfl⟩
  have HX0 : Hid (MX w' A C w.heap.size A C c w0) := zzh (by rw [← hw0, ← hw']; exact MX.start2 h hc _ _)
  have HN0 : Hid (Blk w0 w'.heap.size 51 (nodeCells n).toArray) := zzh (by rw [← hw0]; exact (Blk.new w' _ _).alloc _)
  have HB0 : Hid (Below w.heap.size w w0) := zzh (by rw [← hw0, ← hw']; exact (((Below.refl _ w).alloc (Nat.le_refl _) _).alloc (by simp) _).alloc (by simp; omega) _)
  have HV := zzh (hV.below HB0.out)
  have HW := zzh hw
  have HI := zzh hi
  have HL := zzh hl
  have HM := zzh hm
  have HL0 := zzh hl0
  have HO := zzh ho
  have hlow : ∀ e W, OutT A C (ImgQ C most n.sort) w' e W → OutT A C (ImgQ C most n.sort) w e W := fun e W h => by rw [← hw'] at h; exact h.low
  have HLow := zzh hlow
  obtain ⟨n0, n1, n2, n3, n4, n5, n6, n7⟩ : w0.cell? ⟨w'.heap.size, 0, none⟩ = some (.int .i8 n.op) ∧ w0.cell? ⟨w'.heap.size, 1, none⟩ = some (.int .i8 n.len) ∧ w0.cell? ⟨w'.heap.size, 2, none⟩ = some (.int .i64 n.a0) ∧ w0.cell? ⟨w'.heap.size, 3, none⟩ = some (.int .i64 n.a1) ∧ w0.cell? ⟨w'.heap.size, 4, none⟩ = some (.int .i64 n.a2) ∧ w0.cell? ⟨w'.heap.size, 5, none⟩ = some (.int .i64 n.sort) ∧ w0.cell? ⟨w'.heap.size, 6, none⟩ = some (.int .i64 n.fn) ∧ w0.cell? ⟨w'.heap.size, 7, none⟩ = some (.int .i64 n.num) := ⟨HN0.out.cell 0, HN0.out.cell 1, HN0.out.cell 2, HN0.out.cell 3, HN0.out.cell 4, HN0.out.cell 5, HN0.out.cell 6, HN0.out.cell 7⟩
  obtain ⟨s0, s1, s2, s3⟩ := HX0.out.cells
  have hlen : V.length = 1 := by
    have := ho.srt (by omega)
    unfold opL at this
    split at this
    · rename_i h1
      rw [List.length_map, hop] at h1
      simp [manyM] at h1
      omega
    · cases this
  obtain ⟨x, hx⟩ := len_one (L := V) (by omega)
  have hxi0 := ho.inn x (by rw [hx]; simp)
  obtain ⟨a, rfl⟩ : ∃ q : Nat, x = q := ⟨x.toNat, by omega⟩
  obtain ⟨vb, voff, hVA, hvb, hvc⟩ := HV.out.at_.resolve_left (by omega)
  have y0 := hvc 0 (by omega)
  have hv0 : V[0]'(by omega) = (a : Int) := by simp [hx]
  rw [hv0, Nat.add_zero] at y0
  obtain ⟨vvb, _, hVA2, hvb2, _⟩ := hV.at_.resolve_left (by omega)
  have hvlt : vb < w.heap.size := by rw [hVA] at hVA2; injection hVA2 with h; injection h with h; omega
  have HS : Hid (opL 11 [(ndAt C (a : Int)).sort] = some n.sort) := zzh (by have := ho.srt (by omega); rw [hx, hop] at this; exact this)
  have HVL := zzh hvlt
  have HAx := zzh (show a < C.length by omega)
  have HIa : Hid (In64 (a : Int)) := zzh (by unfold In64; omega)
  have HSort : Hid (n.sort = 1) := zzh (by
    have := HS.out
    unfold opL at this
    simp [manyM, opSort] at this
    exact this.2.symm)
  subst hVA
  have v0 : (0 : Int) < (V.length : Int) := by omega
  have u0 : 0 < V.length := by omega
  simp only [nodeVal, nodeCells] at hw0 ⊢
  have KN : Hid (∀ W, Below w0.heap.size w0 W → Calls Tryz.prog 116 #[.agg #[.slice A C.length c], .int .i64 (a : Int), .int .i64 n.num, .int .i64 most] W (OutT A C (ImgQ C most 1) W)) := zzh (fun W hW => raddn_ok c a n.num most HW.out HI.out HIa.out HX0.out.hc (HX0.out.below hW).tab HL0.out)
  have d0 : (n.op == 0) = false := by simp [hop]
  have d1 : (n.op == 1) = false := by simp [hop]
  have d2 : (n.op == 2) = false := by simp [hop]
  have d3 : (n.op == 3) = false := by simp [hop]
  have d4 : (n.op == 4) = false := by simp [hop]
  have d5 : (n.op == 5) = false := by simp [hop]
  have d6 : (n.op == 6) = false := by simp [hop]
  have d7 : (n.op == 7) = false := by simp [hop]
  have d8 : (n.op == 8) = false := by simp [hop]
  have d9 : (n.op == 9) = false := by simp [hop]
  have d10 : (n.op == 10) = false := by simp [hop]
  have d11 : (n.op == 11) = true := by simp [hop]
  have d12 : (n.op == 12) = false := by simp [hop]
  have d13 : (n.op == 13) = false := by simp [hop]
  have hbD : Below w0.heap.size w0 w0.drew := below_drewN (Below.refl _ _) 1
  have KD := zzh (KN.out _ hbD)
  have HXD := zzh (HX0.out.below hbD)
  have HBD := zzh hbD
  have HK := zzh (fun (W : World) (hW : Below w0.heap.size w0 W) (v : Value) => show (W.cell? ⟨w.heap.size, 0, none⟩ = some (.slice A C.length c) ∧ W.cell? ⟨vb, voff, none⟩ = some (.int .i64 (a : Int)) ∧ W.cell? ⟨w'.heap.size, 0, none⟩ = some (.int .i8 n.op) ∧ W.cell? ⟨w'.heap.size, 7, none⟩ = some (.int .i64 n.num)) ∧ ((W.setCell ⟨w'.heap.size + 1, 0, none⟩ v).cell? ⟨w.heap.size, 0, none⟩ = some (.slice A C.length c) ∧ (W.setCell ⟨w'.heap.size + 1, 0, none⟩ v).cell? ⟨vb, voff, none⟩ = some (.int .i64 (a : Int)) ∧ (W.setCell ⟨w'.heap.size + 1, 0, none⟩ v).cell? ⟨w'.heap.size, 0, none⟩ = some (.int .i8 n.op) ∧ (W.setCell ⟨w'.heap.size + 1, 0, none⟩ v).cell? ⟨w'.heap.size, 7, none⟩ = some (.int .i64 n.num)) from by
    have hfar : ∀ b i, b ≠ w'.heap.size + 1 → (W.setCell ⟨w'.heap.size + 1, 0, none⟩ v).cell? ⟨b, i, none⟩ = W.cell? ⟨b, i, none⟩ := fun b i hb => by
      unfold World.cell?
      rw [Below.heap_setCell W _ _ b hb]
    have hz := HSZ.out
    have hv := HVL.out
    have hs := HB0.out.size
    have hn := HN0.out.lt
    rw [hfar _ 0 (by omega), hfar w'.heap.size 0 (by omega), hfar w'.heap.size 7 (by omega), hfar vb (voff) (by omega)]
    have e : W.cell? ⟨w.heap.size, 0, none⟩ = some (.slice A C.length c) ∧ W.cell? ⟨vb, voff, none⟩ = some (.int .i64 (a : Int)) ∧ W.cell? ⟨w'.heap.size, 0, none⟩ = some (.int .i8 n.op) ∧ W.cell? ⟨w'.heap.size, 7, none⟩ = some (.int .i64 n.num) := ⟨(HX0.out.below hW).t.cell 0, (hW.cell (p := ⟨vb, voff, none⟩) (by show vb < _; omega)).trans y0, (HN0.out.below hW hn).cell 0, (HN0.out.below hW hn).cell 7⟩
    exact ⟨e, e⟩)
  clear hw hi hV ho hc h hl hm hl0 hlow hx hvb hvc hVA2 hvb2 hvlt hlen hbD hop hxi0 hv0
  go_enter Tryz.func74, Tryz.ntmps74
  go_wp2_with fail
  go_region_held3 (fun W => W.cell? ⟨w.heap.size, 0, none⟩ = some (.slice A C.length c) ∧ W.cell? ⟨vb, voff, none⟩ = some (.int .i64 (a : Int)) ∧ W.cell? ⟨w'.heap.size, 0, none⟩ = some (.int .i8 n.op) ∧ W.cell? ⟨w'.heap.size, 7, none⟩ = some (.int .i64 n.num)) (go_keep) (first
    | (go_at_call 116; refine KD.out.mono ?_; rintro e w3 ⟨A', c', T', id', e', rfl, ht, hc', hf, hq, hb3⟩; have HTC := zzh (And.intro hb3 (And.intro ht (And.intro hc' (And.intro hf hq)))); have HY := zzh (HXD.out.below hb3); obtain ⟨q0, q1, q2, q3⟩ := HY.out.cells; obtain ⟨kA, kB⟩ := HK.out w3 (HBD.out.trans (hb3.mono HBD.out.size)) (.slice A' T'.length c'); obtain ⟨ka0, ka1, ka2, ka3⟩ := kA; obtain ⟨kb0, kb1, kb2, kb3⟩ := kB; clear ht hc' hf hq hb3))
  go_wp2
  have hres := HY.out.res (.slice A' T'.length c')
  refine bodyPost_ret (v := .tuple #[.agg #[.slice A' T'.length c'], .int .i64 id', .int .i64 e']) (by simp [results, Tryz.results74, go_sem, hres]) rfl ?_
  have hout := HXD.out.ret_call HTC.out.1 HTC.out.2.1 HTC.out.2.2.1 HTC.out.2.2.2.1 (Q := ImgQ C most n.sort) (id := id') (er := e') (by rw [HSort.out]; exact HTC.out.2.2.2.2)
  first | exact HLow.out _ _ hout | exact (HLow.out _ _ hout).drew
set_option maxRecDepth 100000 in
set_option maxHeartbeats 8000000 in
theorem image_4 {C : List Nd} {w : World} {A : Option Addr} (c : Nat) {n : Nd} {V : List Int} {VA : Option Addr} (vc : Nat) (most : Int) (hw : Well C) (hi : IteOk C) (hV : Row w VA V) (ho : ArgsOk C n V) (hop : n.op = 4) (hc : C.length ≤ c) (h : Tab w A C) (hl : C.length < 50000) (hm : most < 50000) :
    Calls Tryz.prog 74 #[.agg #[.slice A C.length c], nodeVal n, .slice VA V.length vc, .int .i64 most] w (OutT A C (ImgQ C most n.sort) w) := by
  have hl0 : C.length < 100000 := by omega
  obtain ⟨w', hw'⟩ : ∃ w', w.alloc (.cells #[.slice A C.length c] 33) = w' := ⟨_, rfl⟩
  have HSZ : Hid (w'.heap.size = w.heap.size + 1) := zzh (by rw [← hw']; simp)
  obtain ⟨w0, hw0⟩ : ∃ w0, (w'.alloc (.cells (nodeCells n).toArray 51)).alloc (.cells #[.slice none 0 0] 33) = w0 := ⟨_, rfl⟩
  have HX0 : Hid (MX w' A C w.heap.size A C c w0) := zzh (by rw [← hw0, ← hw']; exact MX.start2 h hc _ _)
  have HN0 : Hid (Blk w0 w'.heap.size 51 (nodeCells n).toArray) := zzh (by rw [← hw0]; exact (Blk.new w' _ _).alloc _)
  have HB0 : Hid (Below w.heap.size w w0) := zzh (by rw [← hw0, ← hw']; exact (((Below.refl _ w).alloc (Nat.le_refl _) _).alloc (by simp) _).alloc (by simp; omega) _)
  have HV := zzh (hV.below HB0.out)
  have HW := zzh hw
  have HI := zzh hi
  have HL := zzh hl
  have HM := zzh hm
  have HL0 := zzh hl0
  have HO := zzh ho
  have hlow : ∀ e W, OutT A C (ImgQ C most n.sort) w' e W → OutT A C (ImgQ C most n.sort) w e W := fun e W h => by rw [← hw'] at h; exact h.low
  have HLow := zzh hlow
  obtain ⟨n0, n1, n2, n3, n4, n5, n6, n7⟩ : w0.cell? ⟨w'.heap.size, 0, none⟩ = some (.int .i8 n.op) ∧ w0.cell? ⟨w'.heap.size, 1, none⟩ = some (.int .i8 n.len) ∧ w0.cell? ⟨w'.heap.size, 2, none⟩ = some (.int .i64 n.a0) ∧ w0.cell? ⟨w'.heap.size, 3, none⟩ = some (.int .i64 n.a1) ∧ w0.cell? ⟨w'.heap.size, 4, none⟩ = some (.int .i64 n.a2) ∧ w0.cell? ⟨w'.heap.size, 5, none⟩ = some (.int .i64 n.sort) ∧ w0.cell? ⟨w'.heap.size, 6, none⟩ = some (.int .i64 n.fn) ∧ w0.cell? ⟨w'.heap.size, 7, none⟩ = some (.int .i64 n.num) := ⟨HN0.out.cell 0, HN0.out.cell 1, HN0.out.cell 2, HN0.out.cell 3, HN0.out.cell 4, HN0.out.cell 5, HN0.out.cell 6, HN0.out.cell 7⟩
  obtain ⟨s0, s1, s2, s3⟩ := HX0.out.cells
  have hlen : V.length = 2 := by
    have := ho.srt (by omega)
    unfold opL at this
    split at this
    · rename_i h1
      rw [List.length_map, hop] at h1
      simp [manyM] at h1
      omega
    · cases this
  obtain ⟨x, y, hx⟩ := len_two (L := V) (by omega)
  have hxi0 := ho.inn x (by rw [hx]; simp)
  obtain ⟨a, rfl⟩ : ∃ q : Nat, x = q := ⟨x.toNat, by omega⟩
  have hxi1 := ho.inn y (by rw [hx]; simp)
  obtain ⟨b, rfl⟩ : ∃ q : Nat, y = q := ⟨y.toNat, by omega⟩
  obtain ⟨vb, voff, hVA, hvb, hvc⟩ := HV.out.at_.resolve_left (by omega)
  have y0 := hvc 0 (by omega)
  have hv0 : V[0]'(by omega) = (a : Int) := by simp [hx]
  rw [hv0, Nat.add_zero] at y0
  have y1 := hvc 1 (by omega)
  have hv1 : V[1]'(by omega) = (b : Int) := by simp [hx]
  rw [hv1] at y1
  obtain ⟨vvb, _, hVA2, hvb2, _⟩ := hV.at_.resolve_left (by omega)
  have hvlt : vb < w.heap.size := by rw [hVA] at hVA2; injection hVA2 with h; injection h with h; omega
  have HS : Hid (opL 4 [(ndAt C (a : Int)).sort, (ndAt C (b : Int)).sort] = some n.sort) := zzh (by have := ho.srt (by omega); rw [hx, hop] at this; exact this)
  have HVL := zzh hvlt
  have HAx := zzh (show a < C.length by omega)
  have HBx := zzh (show b < C.length by omega)
  have HIa : Hid (In64 (a : Int)) := zzh (by unfold In64; omega)
  have HIb : Hid (In64 (b : Int)) := zzh (by unfold In64; omega)
  have HSort : Hid (n.sort = 0) := zzh (by
    have := HS.out
    unfold opL at this
    simp [manyM, opSort] at this
    exact this.2.symm)
  have HZ : Hid ((ndAt C (a : Int)).sort = 0) := zzh (by
    have := HS.out
    unfold opL at this
    simp [manyM, opSort] at this
    exact this.1.1)
  subst hVA
  have v0 : (0 : Int) < (V.length : Int) := by omega
  have u0 : 0 < V.length := by omega
  have v1 : (1 : Int) < (V.length : Int) := by omega
  have u1 : 1 < V.length := by omega
  simp only [nodeVal, nodeCells] at hw0 ⊢
  have KN : Hid (∀ W, Below w0.heap.size w0 W → Calls Tryz.prog 119 #[.agg #[.slice A C.length c], .int .i8 n.op, .int .i64 (a : Int), .int .i64 (b : Int), .int .i64 most] W (OutT A C (ImgQ C most 0) W)) := zzh (fun W hW => cbools_ok c (.inl hop) a b most HW.out HI.out HAx.out HBx.out HZ.out HX0.out.hc (HX0.out.below hW).tab HL.out HM.out)
  have d0 : (n.op == 0) = false := by simp [hop]
  have d1 : (n.op == 1) = false := by simp [hop]
  have d2 : (n.op == 2) = false := by simp [hop]
  have d3 : (n.op == 3) = false := by simp [hop]
  have d4 : (n.op == 4) = true := by simp [hop]
  have d5 : (n.op == 5) = false := by simp [hop]
  have d6 : (n.op == 6) = false := by simp [hop]
  have d7 : (n.op == 7) = false := by simp [hop]
  have d8 : (n.op == 8) = false := by simp [hop]
  have d9 : (n.op == 9) = false := by simp [hop]
  have d10 : (n.op == 10) = false := by simp [hop]
  have d11 : (n.op == 11) = false := by simp [hop]
  have d12 : (n.op == 12) = false := by simp [hop]
  have d13 : (n.op == 13) = false := by simp [hop]
  have hbD : Below w0.heap.size w0 w0.drew := below_drewN (Below.refl _ _) 1
  have KD := zzh (KN.out _ hbD)
  have HXD := zzh (HX0.out.below hbD)
  have HBD := zzh hbD
  have HK := zzh (fun (W : World) (hW : Below w0.heap.size w0 W) (v : Value) => show (W.cell? ⟨w.heap.size, 0, none⟩ = some (.slice A C.length c) ∧ W.cell? ⟨vb, voff, none⟩ = some (.int .i64 (a : Int)) ∧ W.cell? ⟨vb, voff + 1, none⟩ = some (.int .i64 (b : Int)) ∧ W.cell? ⟨w'.heap.size, 0, none⟩ = some (.int .i8 n.op) ∧ W.cell? ⟨w'.heap.size, 7, none⟩ = some (.int .i64 n.num)) ∧ ((W.setCell ⟨w'.heap.size + 1, 0, none⟩ v).cell? ⟨w.heap.size, 0, none⟩ = some (.slice A C.length c) ∧ (W.setCell ⟨w'.heap.size + 1, 0, none⟩ v).cell? ⟨vb, voff, none⟩ = some (.int .i64 (a : Int)) ∧ (W.setCell ⟨w'.heap.size + 1, 0, none⟩ v).cell? ⟨vb, voff + 1, none⟩ = some (.int .i64 (b : Int)) ∧ (W.setCell ⟨w'.heap.size + 1, 0, none⟩ v).cell? ⟨w'.heap.size, 0, none⟩ = some (.int .i8 n.op) ∧ (W.setCell ⟨w'.heap.size + 1, 0, none⟩ v).cell? ⟨w'.heap.size, 7, none⟩ = some (.int .i64 n.num)) from by
    have hfar : ∀ b i, b ≠ w'.heap.size + 1 → (W.setCell ⟨w'.heap.size + 1, 0, none⟩ v).cell? ⟨b, i, none⟩ = W.cell? ⟨b, i, none⟩ := fun b i hb => by
      unfold World.cell?
      rw [Below.heap_setCell W _ _ b hb]
    have hz := HSZ.out
    have hv := HVL.out
    have hs := HB0.out.size
    have hn := HN0.out.lt
    rw [hfar _ 0 (by omega), hfar w'.heap.size 0 (by omega), hfar w'.heap.size 7 (by omega), hfar vb (voff) (by omega), hfar vb (voff + 1) (by omega)]
    have e : W.cell? ⟨w.heap.size, 0, none⟩ = some (.slice A C.length c) ∧ W.cell? ⟨vb, voff, none⟩ = some (.int .i64 (a : Int)) ∧ W.cell? ⟨vb, voff + 1, none⟩ = some (.int .i64 (b : Int)) ∧ W.cell? ⟨w'.heap.size, 0, none⟩ = some (.int .i8 n.op) ∧ W.cell? ⟨w'.heap.size, 7, none⟩ = some (.int .i64 n.num) := ⟨(HX0.out.below hW).t.cell 0, (hW.cell (p := ⟨vb, voff, none⟩) (by show vb < _; omega)).trans y0, (hW.cell (p := ⟨vb, voff + 1, none⟩) (by show vb < _; omega)).trans y1, (HN0.out.below hW hn).cell 0, (HN0.out.below hW hn).cell 7⟩
    exact ⟨e, e⟩)
  clear hw hi hV ho hc h hl hm hl0 hlow hx hvb hvc hVA2 hvb2 hvlt hlen hbD hop hxi0 hv0 hxi1 hv1
  go_enter Tryz.func74, Tryz.ntmps74
  go_wp2_with fail
  go_region_held3 (fun W => W.cell? ⟨w.heap.size, 0, none⟩ = some (.slice A C.length c) ∧ W.cell? ⟨vb, voff, none⟩ = some (.int .i64 (a : Int)) ∧ W.cell? ⟨vb, voff + 1, none⟩ = some (.int .i64 (b : Int)) ∧ W.cell? ⟨w'.heap.size, 0, none⟩ = some (.int .i8 n.op) ∧ W.cell? ⟨w'.heap.size, 7, none⟩ = some (.int .i64 n.num)) (go_keep) (first
    | (go_at_call 119; refine KD.out.mono ?_; rintro e w3 ⟨A', c', T', id', e', rfl, ht, hc', hf, hq, hb3⟩; have HTC := zzh (And.intro hb3 (And.intro ht (And.intro hc' (And.intro hf hq)))); have HY := zzh (HXD.out.below hb3); obtain ⟨q0, q1, q2, q3⟩ := HY.out.cells; obtain ⟨kA, kB⟩ := HK.out w3 (HBD.out.trans (hb3.mono HBD.out.size)) (.slice A' T'.length c'); obtain ⟨ka0, ka1, ka2, ka3, ka4⟩ := kA; obtain ⟨kb0, kb1, kb2, kb3, kb4⟩ := kB; clear ht hc' hf hq hb3))
  go_wp2
  have hres := HY.out.res (.slice A' T'.length c')
  refine bodyPost_ret (v := .tuple #[.agg #[.slice A' T'.length c'], .int .i64 id', .int .i64 e']) (by simp [results, Tryz.results74, go_sem, hres]) rfl ?_
  have hout := HXD.out.ret_call HTC.out.1 HTC.out.2.1 HTC.out.2.2.1 HTC.out.2.2.2.1 (Q := ImgQ C most n.sort) (id := id') (er := e') (by rw [HSort.out]; exact HTC.out.2.2.2.2)
  first | exact HLow.out _ _ hout | exact (HLow.out _ _ hout).drew
set_option maxRecDepth 100000 in
set_option maxHeartbeats 8000000 in
theorem image_5 {C : List Nd} {w : World} {A : Option Addr} (c : Nat) {n : Nd} {V : List Int} {VA : Option Addr} (vc : Nat) (most : Int) (hw : Well C) (hi : IteOk C) (hV : Row w VA V) (ho : ArgsOk C n V) (hop : n.op = 5) (hc : C.length ≤ c) (h : Tab w A C) (hl : C.length < 50000) (hm : most < 50000) :
    Calls Tryz.prog 74 #[.agg #[.slice A C.length c], nodeVal n, .slice VA V.length vc, .int .i64 most] w (OutT A C (ImgQ C most n.sort) w) := by
  have hl0 : C.length < 100000 := by omega
  obtain ⟨w', hw'⟩ : ∃ w', w.alloc (.cells #[.slice A C.length c] 33) = w' := ⟨_, rfl⟩
  have HSZ : Hid (w'.heap.size = w.heap.size + 1) := zzh (by rw [← hw']; simp)
  obtain ⟨w0, hw0⟩ : ∃ w0, (w'.alloc (.cells (nodeCells n).toArray 51)).alloc (.cells #[.slice none 0 0] 33) = w0 := ⟨_, rfl⟩
  have HX0 : Hid (MX w' A C w.heap.size A C c w0) := zzh (by rw [← hw0, ← hw']; exact MX.start2 h hc _ _)
  have HN0 : Hid (Blk w0 w'.heap.size 51 (nodeCells n).toArray) := zzh (by rw [← hw0]; exact (Blk.new w' _ _).alloc _)
  have HB0 : Hid (Below w.heap.size w w0) := zzh (by rw [← hw0, ← hw']; exact (((Below.refl _ w).alloc (Nat.le_refl _) _).alloc (by simp) _).alloc (by simp; omega) _)
  have HV := zzh (hV.below HB0.out)
  have HW := zzh hw
  have HI := zzh hi
  have HL := zzh hl
  have HM := zzh hm
  have HL0 := zzh hl0
  have HO := zzh ho
  have hlow : ∀ e W, OutT A C (ImgQ C most n.sort) w' e W → OutT A C (ImgQ C most n.sort) w e W := fun e W h => by rw [← hw'] at h; exact h.low
  have HLow := zzh hlow
  obtain ⟨n0, n1, n2, n3, n4, n5, n6, n7⟩ : w0.cell? ⟨w'.heap.size, 0, none⟩ = some (.int .i8 n.op) ∧ w0.cell? ⟨w'.heap.size, 1, none⟩ = some (.int .i8 n.len) ∧ w0.cell? ⟨w'.heap.size, 2, none⟩ = some (.int .i64 n.a0) ∧ w0.cell? ⟨w'.heap.size, 3, none⟩ = some (.int .i64 n.a1) ∧ w0.cell? ⟨w'.heap.size, 4, none⟩ = some (.int .i64 n.a2) ∧ w0.cell? ⟨w'.heap.size, 5, none⟩ = some (.int .i64 n.sort) ∧ w0.cell? ⟨w'.heap.size, 6, none⟩ = some (.int .i64 n.fn) ∧ w0.cell? ⟨w'.heap.size, 7, none⟩ = some (.int .i64 n.num) := ⟨HN0.out.cell 0, HN0.out.cell 1, HN0.out.cell 2, HN0.out.cell 3, HN0.out.cell 4, HN0.out.cell 5, HN0.out.cell 6, HN0.out.cell 7⟩
  obtain ⟨s0, s1, s2, s3⟩ := HX0.out.cells
  have hlen : V.length = 2 := by
    have := ho.srt (by omega)
    unfold opL at this
    split at this
    · rename_i h1
      rw [List.length_map, hop] at h1
      simp [manyM] at h1
      omega
    · cases this
  obtain ⟨x, y, hx⟩ := len_two (L := V) (by omega)
  have hxi0 := ho.inn x (by rw [hx]; simp)
  obtain ⟨a, rfl⟩ : ∃ q : Nat, x = q := ⟨x.toNat, by omega⟩
  have hxi1 := ho.inn y (by rw [hx]; simp)
  obtain ⟨b, rfl⟩ : ∃ q : Nat, y = q := ⟨y.toNat, by omega⟩
  obtain ⟨vb, voff, hVA, hvb, hvc⟩ := HV.out.at_.resolve_left (by omega)
  have y0 := hvc 0 (by omega)
  have hv0 : V[0]'(by omega) = (a : Int) := by simp [hx]
  rw [hv0, Nat.add_zero] at y0
  have y1 := hvc 1 (by omega)
  have hv1 : V[1]'(by omega) = (b : Int) := by simp [hx]
  rw [hv1] at y1
  obtain ⟨vvb, _, hVA2, hvb2, _⟩ := hV.at_.resolve_left (by omega)
  have hvlt : vb < w.heap.size := by rw [hVA] at hVA2; injection hVA2 with h; injection h with h; omega
  have HS : Hid (opL 5 [(ndAt C (a : Int)).sort, (ndAt C (b : Int)).sort] = some n.sort) := zzh (by have := ho.srt (by omega); rw [hx, hop] at this; exact this)
  have HVL := zzh hvlt
  have HAx := zzh (show a < C.length by omega)
  have HBx := zzh (show b < C.length by omega)
  have HIa : Hid (In64 (a : Int)) := zzh (by unfold In64; omega)
  have HIb : Hid (In64 (b : Int)) := zzh (by unfold In64; omega)
  have HSort : Hid (n.sort = 0) := zzh (by
    have := HS.out
    unfold opL at this
    simp [manyM, opSort] at this
    exact this.2.symm)
  have HZ : Hid ((ndAt C (a : Int)).sort = 0) := zzh (by
    have := HS.out
    unfold opL at this
    simp [manyM, opSort] at this
    exact this.1.1)
  subst hVA
  have v0 : (0 : Int) < (V.length : Int) := by omega
  have u0 : 0 < V.length := by omega
  have v1 : (1 : Int) < (V.length : Int) := by omega
  have u1 : 1 < V.length := by omega
  simp only [nodeVal, nodeCells] at hw0 ⊢
  have KN : Hid (∀ W, Below w0.heap.size w0 W → Calls Tryz.prog 119 #[.agg #[.slice A C.length c], .int .i8 n.op, .int .i64 (a : Int), .int .i64 (b : Int), .int .i64 most] W (OutT A C (ImgQ C most 0) W)) := zzh (fun W hW => cbools_ok c (.inr hop) a b most HW.out HI.out HAx.out HBx.out HZ.out HX0.out.hc (HX0.out.below hW).tab HL.out HM.out)
  have d0 : (n.op == 0) = false := by simp [hop]
  have d1 : (n.op == 1) = false := by simp [hop]
  have d2 : (n.op == 2) = false := by simp [hop]
  have d3 : (n.op == 3) = false := by simp [hop]
  have d4 : (n.op == 4) = false := by simp [hop]
  have d5 : (n.op == 5) = true := by simp [hop]
  have d6 : (n.op == 6) = false := by simp [hop]
  have d7 : (n.op == 7) = false := by simp [hop]
  have d8 : (n.op == 8) = false := by simp [hop]
  have d9 : (n.op == 9) = false := by simp [hop]
  have d10 : (n.op == 10) = false := by simp [hop]
  have d11 : (n.op == 11) = false := by simp [hop]
  have d12 : (n.op == 12) = false := by simp [hop]
  have d13 : (n.op == 13) = false := by simp [hop]
  have hbD : Below w0.heap.size w0 w0.drew := below_drewN (Below.refl _ _) 1
  have KD := zzh (KN.out _ hbD)
  have HXD := zzh (HX0.out.below hbD)
  have HBD := zzh hbD
  have HK := zzh (fun (W : World) (hW : Below w0.heap.size w0 W) (v : Value) => show (W.cell? ⟨w.heap.size, 0, none⟩ = some (.slice A C.length c) ∧ W.cell? ⟨vb, voff, none⟩ = some (.int .i64 (a : Int)) ∧ W.cell? ⟨vb, voff + 1, none⟩ = some (.int .i64 (b : Int)) ∧ W.cell? ⟨w'.heap.size, 0, none⟩ = some (.int .i8 n.op) ∧ W.cell? ⟨w'.heap.size, 7, none⟩ = some (.int .i64 n.num)) ∧ ((W.setCell ⟨w'.heap.size + 1, 0, none⟩ v).cell? ⟨w.heap.size, 0, none⟩ = some (.slice A C.length c) ∧ (W.setCell ⟨w'.heap.size + 1, 0, none⟩ v).cell? ⟨vb, voff, none⟩ = some (.int .i64 (a : Int)) ∧ (W.setCell ⟨w'.heap.size + 1, 0, none⟩ v).cell? ⟨vb, voff + 1, none⟩ = some (.int .i64 (b : Int)) ∧ (W.setCell ⟨w'.heap.size + 1, 0, none⟩ v).cell? ⟨w'.heap.size, 0, none⟩ = some (.int .i8 n.op) ∧ (W.setCell ⟨w'.heap.size + 1, 0, none⟩ v).cell? ⟨w'.heap.size, 7, none⟩ = some (.int .i64 n.num)) from by
    have hfar : ∀ b i, b ≠ w'.heap.size + 1 → (W.setCell ⟨w'.heap.size + 1, 0, none⟩ v).cell? ⟨b, i, none⟩ = W.cell? ⟨b, i, none⟩ := fun b i hb => by
      unfold World.cell?
      rw [Below.heap_setCell W _ _ b hb]
    have hz := HSZ.out
    have hv := HVL.out
    have hs := HB0.out.size
    have hn := HN0.out.lt
    rw [hfar _ 0 (by omega), hfar w'.heap.size 0 (by omega), hfar w'.heap.size 7 (by omega), hfar vb (voff) (by omega), hfar vb (voff + 1) (by omega)]
    have e : W.cell? ⟨w.heap.size, 0, none⟩ = some (.slice A C.length c) ∧ W.cell? ⟨vb, voff, none⟩ = some (.int .i64 (a : Int)) ∧ W.cell? ⟨vb, voff + 1, none⟩ = some (.int .i64 (b : Int)) ∧ W.cell? ⟨w'.heap.size, 0, none⟩ = some (.int .i8 n.op) ∧ W.cell? ⟨w'.heap.size, 7, none⟩ = some (.int .i64 n.num) := ⟨(HX0.out.below hW).t.cell 0, (hW.cell (p := ⟨vb, voff, none⟩) (by show vb < _; omega)).trans y0, (hW.cell (p := ⟨vb, voff + 1, none⟩) (by show vb < _; omega)).trans y1, (HN0.out.below hW hn).cell 0, (HN0.out.below hW hn).cell 7⟩
    exact ⟨e, e⟩)
  clear hw hi hV ho hc h hl hm hl0 hlow hx hvb hvc hVA2 hvb2 hvlt hlen hbD hop hxi0 hv0 hxi1 hv1
  go_enter Tryz.func74, Tryz.ntmps74
  go_wp2_with fail
  go_region_held3 (fun W => W.cell? ⟨w.heap.size, 0, none⟩ = some (.slice A C.length c) ∧ W.cell? ⟨vb, voff, none⟩ = some (.int .i64 (a : Int)) ∧ W.cell? ⟨vb, voff + 1, none⟩ = some (.int .i64 (b : Int)) ∧ W.cell? ⟨w'.heap.size, 0, none⟩ = some (.int .i8 n.op) ∧ W.cell? ⟨w'.heap.size, 7, none⟩ = some (.int .i64 n.num)) (go_keep) (first
    | (go_at_call 119; refine KD.out.mono ?_; rintro e w3 ⟨A', c', T', id', e', rfl, ht, hc', hf, hq, hb3⟩; have HTC := zzh (And.intro hb3 (And.intro ht (And.intro hc' (And.intro hf hq)))); have HY := zzh (HXD.out.below hb3); obtain ⟨q0, q1, q2, q3⟩ := HY.out.cells; obtain ⟨kA, kB⟩ := HK.out w3 (HBD.out.trans (hb3.mono HBD.out.size)) (.slice A' T'.length c'); obtain ⟨ka0, ka1, ka2, ka3, ka4⟩ := kA; obtain ⟨kb0, kb1, kb2, kb3, kb4⟩ := kB; clear ht hc' hf hq hb3))
  go_wp2
  have hres := HY.out.res (.slice A' T'.length c')
  refine bodyPost_ret (v := .tuple #[.agg #[.slice A' T'.length c'], .int .i64 id', .int .i64 e']) (by simp [results, Tryz.results74, go_sem, hres]) rfl ?_
  have hout := HXD.out.ret_call HTC.out.1 HTC.out.2.1 HTC.out.2.2.1 HTC.out.2.2.2.1 (Q := ImgQ C most n.sort) (id := id') (er := e') (by rw [HSort.out]; exact HTC.out.2.2.2.2)
  first | exact HLow.out _ _ hout | exact (HLow.out _ _ hout).drew
set_option maxRecDepth 100000 in
set_option maxHeartbeats 8000000 in
theorem image_6 {C : List Nd} {w : World} {A : Option Addr} (c : Nat) {n : Nd} {V : List Int} {VA : Option Addr} (vc : Nat) (most : Int) (hw : Well C) (hi : IteOk C) (hV : Row w VA V) (ho : ArgsOk C n V) (hop : n.op = 6) (hc : C.length ≤ c) (h : Tab w A C) (hl : C.length < 50000) (hm : most < 50000) :
    Calls Tryz.prog 74 #[.agg #[.slice A C.length c], nodeVal n, .slice VA V.length vc, .int .i64 most] w (OutT A C (ImgQ C most n.sort) w) := by
  have hl0 : C.length < 100000 := by omega
  obtain ⟨w', hw'⟩ : ∃ w', w.alloc (.cells #[.slice A C.length c] 33) = w' := ⟨_, rfl⟩
  have HSZ : Hid (w'.heap.size = w.heap.size + 1) := zzh (by rw [← hw']; simp)
  obtain ⟨w0, hw0⟩ : ∃ w0, (w'.alloc (.cells (nodeCells n).toArray 51)).alloc (.cells #[.slice none 0 0] 33) = w0 := ⟨_, rfl⟩
  have HX0 : Hid (MX w' A C w.heap.size A C c w0) := zzh (by rw [← hw0, ← hw']; exact MX.start2 h hc _ _)
  have HN0 : Hid (Blk w0 w'.heap.size 51 (nodeCells n).toArray) := zzh (by rw [← hw0]; exact (Blk.new w' _ _).alloc _)
  have HB0 : Hid (Below w.heap.size w w0) := zzh (by rw [← hw0, ← hw']; exact (((Below.refl _ w).alloc (Nat.le_refl _) _).alloc (by simp) _).alloc (by simp; omega) _)
  have HV := zzh (hV.below HB0.out)
  have HW := zzh hw
  have HI := zzh hi
  have HL := zzh hl
  have HM := zzh hm
  have HL0 := zzh hl0
  have HO := zzh ho
  have hlow : ∀ e W, OutT A C (ImgQ C most n.sort) w' e W → OutT A C (ImgQ C most n.sort) w e W := fun e W h => by rw [← hw'] at h; exact h.low
  have HLow := zzh hlow
  obtain ⟨n0, n1, n2, n3, n4, n5, n6, n7⟩ : w0.cell? ⟨w'.heap.size, 0, none⟩ = some (.int .i8 n.op) ∧ w0.cell? ⟨w'.heap.size, 1, none⟩ = some (.int .i8 n.len) ∧ w0.cell? ⟨w'.heap.size, 2, none⟩ = some (.int .i64 n.a0) ∧ w0.cell? ⟨w'.heap.size, 3, none⟩ = some (.int .i64 n.a1) ∧ w0.cell? ⟨w'.heap.size, 4, none⟩ = some (.int .i64 n.a2) ∧ w0.cell? ⟨w'.heap.size, 5, none⟩ = some (.int .i64 n.sort) ∧ w0.cell? ⟨w'.heap.size, 6, none⟩ = some (.int .i64 n.fn) ∧ w0.cell? ⟨w'.heap.size, 7, none⟩ = some (.int .i64 n.num) := ⟨HN0.out.cell 0, HN0.out.cell 1, HN0.out.cell 2, HN0.out.cell 3, HN0.out.cell 4, HN0.out.cell 5, HN0.out.cell 6, HN0.out.cell 7⟩
  obtain ⟨s0, s1, s2, s3⟩ := HX0.out.cells
  have hlen : V.length = 2 := by
    have := ho.srt (by omega)
    unfold opL at this
    split at this
    · rename_i h1
      rw [List.length_map, hop] at h1
      simp [manyM] at h1
      omega
    · cases this
  obtain ⟨x, y, hx⟩ := len_two (L := V) (by omega)
  have hxi0 := ho.inn x (by rw [hx]; simp)
  obtain ⟨a, rfl⟩ : ∃ q : Nat, x = q := ⟨x.toNat, by omega⟩
  have hxi1 := ho.inn y (by rw [hx]; simp)
  obtain ⟨b, rfl⟩ : ∃ q : Nat, y = q := ⟨y.toNat, by omega⟩
  obtain ⟨vb, voff, hVA, hvb, hvc⟩ := HV.out.at_.resolve_left (by omega)
  have y0 := hvc 0 (by omega)
  have hv0 : V[0]'(by omega) = (a : Int) := by simp [hx]
  rw [hv0, Nat.add_zero] at y0
  have y1 := hvc 1 (by omega)
  have hv1 : V[1]'(by omega) = (b : Int) := by simp [hx]
  rw [hv1] at y1
  obtain ⟨vvb, _, hVA2, hvb2, _⟩ := hV.at_.resolve_left (by omega)
  have hvlt : vb < w.heap.size := by rw [hVA] at hVA2; injection hVA2 with h; injection h with h; omega
  have HS : Hid (opL 6 [(ndAt C (a : Int)).sort, (ndAt C (b : Int)).sort] = some n.sort) := zzh (by have := ho.srt (by omega); rw [hx, hop] at this; exact this)
  have HVL := zzh hvlt
  have HAx := zzh (show a < C.length by omega)
  have HBx := zzh (show b < C.length by omega)
  have HIa : Hid (In64 (a : Int)) := zzh (by unfold In64; omega)
  have HIb : Hid (In64 (b : Int)) := zzh (by unfold In64; omega)
  have HSort : Hid (n.sort = 0) := zzh (by
    have := HS.out
    unfold opL at this
    simp [manyM, opSort] at this
    exact this.2.symm)
  subst hVA
  have v0 : (0 : Int) < (V.length : Int) := by omega
  have u0 : 0 < V.length := by omega
  have v1 : (1 : Int) < (V.length : Int) := by omega
  have u1 : 1 < V.length := by omega
  simp only [nodeVal, nodeCells] at hw0 ⊢
  have KN : Hid (∀ W, Below w0.heap.size w0 W → Calls Tryz.prog 120 #[.agg #[.slice A C.length c], .int .i64 (a : Int), .int .i64 (b : Int), .int .i64 most] W (OutT A C (ImgQ C most 0) W)) := zzh (fun W hW => cequal_ok c a b most HW.out HI.out HAx.out HBx.out HX0.out.hc (HX0.out.below hW).tab HL.out HM.out)
  have d0 : (n.op == 0) = false := by simp [hop]
  have d1 : (n.op == 1) = false := by simp [hop]
  have d2 : (n.op == 2) = false := by simp [hop]
  have d3 : (n.op == 3) = false := by simp [hop]
  have d4 : (n.op == 4) = false := by simp [hop]
  have d5 : (n.op == 5) = false := by simp [hop]
  have d6 : (n.op == 6) = true := by simp [hop]
  have d7 : (n.op == 7) = false := by simp [hop]
  have d8 : (n.op == 8) = false := by simp [hop]
  have d9 : (n.op == 9) = false := by simp [hop]
  have d10 : (n.op == 10) = false := by simp [hop]
  have d11 : (n.op == 11) = false := by simp [hop]
  have d12 : (n.op == 12) = false := by simp [hop]
  have d13 : (n.op == 13) = false := by simp [hop]
  have hbD : Below w0.heap.size w0 w0.drew := below_drewN (Below.refl _ _) 1
  have KD := zzh (KN.out _ hbD)
  have HXD := zzh (HX0.out.below hbD)
  have HBD := zzh hbD
  have HK := zzh (fun (W : World) (hW : Below w0.heap.size w0 W) (v : Value) => show (W.cell? ⟨w.heap.size, 0, none⟩ = some (.slice A C.length c) ∧ W.cell? ⟨vb, voff, none⟩ = some (.int .i64 (a : Int)) ∧ W.cell? ⟨vb, voff + 1, none⟩ = some (.int .i64 (b : Int)) ∧ W.cell? ⟨w'.heap.size, 0, none⟩ = some (.int .i8 n.op) ∧ W.cell? ⟨w'.heap.size, 7, none⟩ = some (.int .i64 n.num)) ∧ ((W.setCell ⟨w'.heap.size + 1, 0, none⟩ v).cell? ⟨w.heap.size, 0, none⟩ = some (.slice A C.length c) ∧ (W.setCell ⟨w'.heap.size + 1, 0, none⟩ v).cell? ⟨vb, voff, none⟩ = some (.int .i64 (a : Int)) ∧ (W.setCell ⟨w'.heap.size + 1, 0, none⟩ v).cell? ⟨vb, voff + 1, none⟩ = some (.int .i64 (b : Int)) ∧ (W.setCell ⟨w'.heap.size + 1, 0, none⟩ v).cell? ⟨w'.heap.size, 0, none⟩ = some (.int .i8 n.op) ∧ (W.setCell ⟨w'.heap.size + 1, 0, none⟩ v).cell? ⟨w'.heap.size, 7, none⟩ = some (.int .i64 n.num)) from by
    have hfar : ∀ b i, b ≠ w'.heap.size + 1 → (W.setCell ⟨w'.heap.size + 1, 0, none⟩ v).cell? ⟨b, i, none⟩ = W.cell? ⟨b, i, none⟩ := fun b i hb => by
      unfold World.cell?
      rw [Below.heap_setCell W _ _ b hb]
    have hz := HSZ.out
    have hv := HVL.out
    have hs := HB0.out.size
    have hn := HN0.out.lt
    rw [hfar _ 0 (by omega), hfar w'.heap.size 0 (by omega), hfar w'.heap.size 7 (by omega), hfar vb (voff) (by omega), hfar vb (voff + 1) (by omega)]
    have e : W.cell? ⟨w.heap.size, 0, none⟩ = some (.slice A C.length c) ∧ W.cell? ⟨vb, voff, none⟩ = some (.int .i64 (a : Int)) ∧ W.cell? ⟨vb, voff + 1, none⟩ = some (.int .i64 (b : Int)) ∧ W.cell? ⟨w'.heap.size, 0, none⟩ = some (.int .i8 n.op) ∧ W.cell? ⟨w'.heap.size, 7, none⟩ = some (.int .i64 n.num) := ⟨(HX0.out.below hW).t.cell 0, (hW.cell (p := ⟨vb, voff, none⟩) (by show vb < _; omega)).trans y0, (hW.cell (p := ⟨vb, voff + 1, none⟩) (by show vb < _; omega)).trans y1, (HN0.out.below hW hn).cell 0, (HN0.out.below hW hn).cell 7⟩
    exact ⟨e, e⟩)
  clear hw hi hV ho hc h hl hm hl0 hlow hx hvb hvc hVA2 hvb2 hvlt hlen hbD hop hxi0 hv0 hxi1 hv1
  go_enter Tryz.func74, Tryz.ntmps74
  go_wp2_with fail
  go_region_held3 (fun W => W.cell? ⟨w.heap.size, 0, none⟩ = some (.slice A C.length c) ∧ W.cell? ⟨vb, voff, none⟩ = some (.int .i64 (a : Int)) ∧ W.cell? ⟨vb, voff + 1, none⟩ = some (.int .i64 (b : Int)) ∧ W.cell? ⟨w'.heap.size, 0, none⟩ = some (.int .i8 n.op) ∧ W.cell? ⟨w'.heap.size, 7, none⟩ = some (.int .i64 n.num)) (go_keep) (first
    | (go_at_call 120; refine KD.out.mono ?_; rintro e w3 ⟨A', c', T', id', e', rfl, ht, hc', hf, hq, hb3⟩; have HTC := zzh (And.intro hb3 (And.intro ht (And.intro hc' (And.intro hf hq)))); have HY := zzh (HXD.out.below hb3); obtain ⟨q0, q1, q2, q3⟩ := HY.out.cells; obtain ⟨kA, kB⟩ := HK.out w3 (HBD.out.trans (hb3.mono HBD.out.size)) (.slice A' T'.length c'); obtain ⟨ka0, ka1, ka2, ka3, ka4⟩ := kA; obtain ⟨kb0, kb1, kb2, kb3, kb4⟩ := kB; clear ht hc' hf hq hb3))
  go_wp2
  have hres := HY.out.res (.slice A' T'.length c')
  refine bodyPost_ret (v := .tuple #[.agg #[.slice A' T'.length c'], .int .i64 id', .int .i64 e']) (by simp [results, Tryz.results74, go_sem, hres]) rfl ?_
  have hout := HXD.out.ret_call HTC.out.1 HTC.out.2.1 HTC.out.2.2.1 HTC.out.2.2.2.1 (Q := ImgQ C most n.sort) (id := id') (er := e') (by rw [HSort.out]; exact HTC.out.2.2.2.2)
  first | exact HLow.out _ _ hout | exact (HLow.out _ _ hout).drew
set_option maxRecDepth 100000 in
set_option maxHeartbeats 8000000 in
theorem image_7 {C : List Nd} {w : World} {A : Option Addr} (c : Nat) {n : Nd} {V : List Int} {VA : Option Addr} (vc : Nat) (most : Int) (hw : Well C) (hi : IteOk C) (hV : Row w VA V) (ho : ArgsOk C n V) (hop : n.op = 7) (hc : C.length ≤ c) (h : Tab w A C) (hl : C.length < 50000) (hm : most < 50000) :
    Calls Tryz.prog 74 #[.agg #[.slice A C.length c], nodeVal n, .slice VA V.length vc, .int .i64 most] w (OutT A C (ImgQ C most n.sort) w) := by
  have hl0 : C.length < 100000 := by omega
  obtain ⟨w', hw'⟩ : ∃ w', w.alloc (.cells #[.slice A C.length c] 33) = w' := ⟨_, rfl⟩
  have HSZ : Hid (w'.heap.size = w.heap.size + 1) := zzh (by rw [← hw']; simp)
  obtain ⟨w0, hw0⟩ : ∃ w0, (w'.alloc (.cells (nodeCells n).toArray 51)).alloc (.cells #[.slice none 0 0] 33) = w0 := ⟨_, rfl⟩
  have HX0 : Hid (MX w' A C w.heap.size A C c w0) := zzh (by rw [← hw0, ← hw']; exact MX.start2 h hc _ _)
  have HN0 : Hid (Blk w0 w'.heap.size 51 (nodeCells n).toArray) := zzh (by rw [← hw0]; exact (Blk.new w' _ _).alloc _)
  have HB0 : Hid (Below w.heap.size w w0) := zzh (by rw [← hw0, ← hw']; exact (((Below.refl _ w).alloc (Nat.le_refl _) _).alloc (by simp) _).alloc (by simp; omega) _)
  have HV := zzh (hV.below HB0.out)
  have HW := zzh hw
  have HI := zzh hi
  have HL := zzh hl
  have HM := zzh hm
  have HL0 := zzh hl0
  have HO := zzh ho
  have hlow : ∀ e W, OutT A C (ImgQ C most n.sort) w' e W → OutT A C (ImgQ C most n.sort) w e W := fun e W h => by rw [← hw'] at h; exact h.low
  have HLow := zzh hlow
  obtain ⟨n0, n1, n2, n3, n4, n5, n6, n7⟩ : w0.cell? ⟨w'.heap.size, 0, none⟩ = some (.int .i8 n.op) ∧ w0.cell? ⟨w'.heap.size, 1, none⟩ = some (.int .i8 n.len) ∧ w0.cell? ⟨w'.heap.size, 2, none⟩ = some (.int .i64 n.a0) ∧ w0.cell? ⟨w'.heap.size, 3, none⟩ = some (.int .i64 n.a1) ∧ w0.cell? ⟨w'.heap.size, 4, none⟩ = some (.int .i64 n.a2) ∧ w0.cell? ⟨w'.heap.size, 5, none⟩ = some (.int .i64 n.sort) ∧ w0.cell? ⟨w'.heap.size, 6, none⟩ = some (.int .i64 n.fn) ∧ w0.cell? ⟨w'.heap.size, 7, none⟩ = some (.int .i64 n.num) := ⟨HN0.out.cell 0, HN0.out.cell 1, HN0.out.cell 2, HN0.out.cell 3, HN0.out.cell 4, HN0.out.cell 5, HN0.out.cell 6, HN0.out.cell 7⟩
  obtain ⟨s0, s1, s2, s3⟩ := HX0.out.cells
  have hlen : V.length = 3 := by
    have := ho.srt (by omega)
    unfold opL at this
    split at this
    · rename_i h1
      rw [List.length_map, hop] at h1
      simp [manyM] at h1
      omega
    · cases this
  obtain ⟨x, y, z, hx⟩ := len_three (L := V) (by omega)
  have hxi0 := ho.inn x (by rw [hx]; simp)
  obtain ⟨a, rfl⟩ : ∃ q : Nat, x = q := ⟨x.toNat, by omega⟩
  have hxi1 := ho.inn y (by rw [hx]; simp)
  obtain ⟨b, rfl⟩ : ∃ q : Nat, y = q := ⟨y.toNat, by omega⟩
  have hxi2 := ho.inn z (by rw [hx]; simp)
  obtain ⟨d, rfl⟩ : ∃ q : Nat, z = q := ⟨z.toNat, by omega⟩
  obtain ⟨vb, voff, hVA, hvb, hvc⟩ := HV.out.at_.resolve_left (by omega)
  have y0 := hvc 0 (by omega)
  have hv0 : V[0]'(by omega) = (a : Int) := by simp [hx]
  rw [hv0, Nat.add_zero] at y0
  have y1 := hvc 1 (by omega)
  have hv1 : V[1]'(by omega) = (b : Int) := by simp [hx]
  rw [hv1] at y1
  have y2 := hvc 2 (by omega)
  have hv2 : V[2]'(by omega) = (d : Int) := by simp [hx]
  rw [hv2] at y2
  obtain ⟨vvb, _, hVA2, hvb2, _⟩ := hV.at_.resolve_left (by omega)
  have hvlt : vb < w.heap.size := by rw [hVA] at hVA2; injection hVA2 with h; injection h with h; omega
  have HS : Hid (opL 7 [(ndAt C (a : Int)).sort, (ndAt C (b : Int)).sort, (ndAt C (d : Int)).sort] = some n.sort) := zzh (by have := ho.srt (by omega); rw [hx, hop] at this; exact this)
  have HVL := zzh hvlt
  have HAx := zzh (show a < C.length by omega)
  have HBx := zzh (show b < C.length by omega)
  have HDx := zzh (show d < C.length by omega)
  have HIa : Hid (In64 (a : Int)) := zzh (by unfold In64; omega)
  have HIb : Hid (In64 (b : Int)) := zzh (by unfold In64; omega)
  have HId : Hid (In64 (d : Int)) := zzh (by unfold In64; omega)
  have HSort : Hid (n.sort = (ndAt C (b : Int)).sort) := zzh (by
    have := HS.out
    exact (opL7.1 this).2.2.symm)
  subst hVA
  have v0 : (0 : Int) < (V.length : Int) := by omega
  have u0 : 0 < V.length := by omega
  have v1 : (1 : Int) < (V.length : Int) := by omega
  have u1 : 1 < V.length := by omega
  have v2 : (2 : Int) < (V.length : Int) := by omega
  have u2 : 2 < V.length := by omega
  simp only [nodeVal, nodeCells] at hw0 ⊢
  have KN : Hid (∀ W, Below w0.heap.size w0 W → Calls Tryz.prog 121 #[.agg #[.slice A C.length c], .int .i64 (a : Int), .int .i64 (b : Int), .int .i64 (d : Int), .int .i64 most] W (OutT A C (ImgQ C most (ndAt C (b : Int)).sort) W)) := zzh (fun W hW => cite_ok c a b d most HW.out HI.out HAx.out HBx.out HDx.out HX0.out.hc (HX0.out.below hW).tab HL.out HM.out)
  have d0 : (n.op == 0) = false := by simp [hop]
  have d1 : (n.op == 1) = false := by simp [hop]
  have d2 : (n.op == 2) = false := by simp [hop]
  have d3 : (n.op == 3) = false := by simp [hop]
  have d4 : (n.op == 4) = false := by simp [hop]
  have d5 : (n.op == 5) = false := by simp [hop]
  have d6 : (n.op == 6) = false := by simp [hop]
  have d7 : (n.op == 7) = true := by simp [hop]
  have d8 : (n.op == 8) = false := by simp [hop]
  have d9 : (n.op == 9) = false := by simp [hop]
  have d10 : (n.op == 10) = false := by simp [hop]
  have d11 : (n.op == 11) = false := by simp [hop]
  have d12 : (n.op == 12) = false := by simp [hop]
  have d13 : (n.op == 13) = false := by simp [hop]
  have hbD : Below w0.heap.size w0 w0.drew := below_drewN (Below.refl _ _) 1
  have KD := zzh (KN.out _ hbD)
  have HXD := zzh (HX0.out.below hbD)
  have HBD := zzh hbD
  have HK := zzh (fun (W : World) (hW : Below w0.heap.size w0 W) (v : Value) => show (W.cell? ⟨w.heap.size, 0, none⟩ = some (.slice A C.length c) ∧ W.cell? ⟨vb, voff, none⟩ = some (.int .i64 (a : Int)) ∧ W.cell? ⟨vb, voff + 1, none⟩ = some (.int .i64 (b : Int)) ∧ W.cell? ⟨vb, voff + 2, none⟩ = some (.int .i64 (d : Int)) ∧ W.cell? ⟨w'.heap.size, 0, none⟩ = some (.int .i8 n.op) ∧ W.cell? ⟨w'.heap.size, 7, none⟩ = some (.int .i64 n.num)) ∧ ((W.setCell ⟨w'.heap.size + 1, 0, none⟩ v).cell? ⟨w.heap.size, 0, none⟩ = some (.slice A C.length c) ∧ (W.setCell ⟨w'.heap.size + 1, 0, none⟩ v).cell? ⟨vb, voff, none⟩ = some (.int .i64 (a : Int)) ∧ (W.setCell ⟨w'.heap.size + 1, 0, none⟩ v).cell? ⟨vb, voff + 1, none⟩ = some (.int .i64 (b : Int)) ∧ (W.setCell ⟨w'.heap.size + 1, 0, none⟩ v).cell? ⟨vb, voff + 2, none⟩ = some (.int .i64 (d : Int)) ∧ (W.setCell ⟨w'.heap.size + 1, 0, none⟩ v).cell? ⟨w'.heap.size, 0, none⟩ = some (.int .i8 n.op) ∧ (W.setCell ⟨w'.heap.size + 1, 0, none⟩ v).cell? ⟨w'.heap.size, 7, none⟩ = some (.int .i64 n.num)) from by
    have hfar : ∀ b i, b ≠ w'.heap.size + 1 → (W.setCell ⟨w'.heap.size + 1, 0, none⟩ v).cell? ⟨b, i, none⟩ = W.cell? ⟨b, i, none⟩ := fun b i hb => by
      unfold World.cell?
      rw [Below.heap_setCell W _ _ b hb]
    have hz := HSZ.out
    have hv := HVL.out
    have hs := HB0.out.size
    have hn := HN0.out.lt
    rw [hfar _ 0 (by omega), hfar w'.heap.size 0 (by omega), hfar w'.heap.size 7 (by omega), hfar vb (voff) (by omega), hfar vb (voff + 1) (by omega), hfar vb (voff + 2) (by omega)]
    have e : W.cell? ⟨w.heap.size, 0, none⟩ = some (.slice A C.length c) ∧ W.cell? ⟨vb, voff, none⟩ = some (.int .i64 (a : Int)) ∧ W.cell? ⟨vb, voff + 1, none⟩ = some (.int .i64 (b : Int)) ∧ W.cell? ⟨vb, voff + 2, none⟩ = some (.int .i64 (d : Int)) ∧ W.cell? ⟨w'.heap.size, 0, none⟩ = some (.int .i8 n.op) ∧ W.cell? ⟨w'.heap.size, 7, none⟩ = some (.int .i64 n.num) := ⟨(HX0.out.below hW).t.cell 0, (hW.cell (p := ⟨vb, voff, none⟩) (by show vb < _; omega)).trans y0, (hW.cell (p := ⟨vb, voff + 1, none⟩) (by show vb < _; omega)).trans y1, (hW.cell (p := ⟨vb, voff + 2, none⟩) (by show vb < _; omega)).trans y2, (HN0.out.below hW hn).cell 0, (HN0.out.below hW hn).cell 7⟩
    exact ⟨e, e⟩)
  clear hw hi hV ho hc h hl hm hl0 hlow hx hvb hvc hVA2 hvb2 hvlt hlen hbD hop hxi0 hv0 hxi1 hv1 hxi2 hv2
  go_enter Tryz.func74, Tryz.ntmps74
  go_wp2_with fail
  go_region_held3 (fun W => W.cell? ⟨w.heap.size, 0, none⟩ = some (.slice A C.length c) ∧ W.cell? ⟨vb, voff, none⟩ = some (.int .i64 (a : Int)) ∧ W.cell? ⟨vb, voff + 1, none⟩ = some (.int .i64 (b : Int)) ∧ W.cell? ⟨vb, voff + 2, none⟩ = some (.int .i64 (d : Int)) ∧ W.cell? ⟨w'.heap.size, 0, none⟩ = some (.int .i8 n.op) ∧ W.cell? ⟨w'.heap.size, 7, none⟩ = some (.int .i64 n.num)) (go_keep) (first
    | (go_at_call 121; refine KD.out.mono ?_; rintro e w3 ⟨A', c', T', id', e', rfl, ht, hc', hf, hq, hb3⟩; have HTC := zzh (And.intro hb3 (And.intro ht (And.intro hc' (And.intro hf hq)))); have HY := zzh (HXD.out.below hb3); obtain ⟨q0, q1, q2, q3⟩ := HY.out.cells; obtain ⟨kA, kB⟩ := HK.out w3 (HBD.out.trans (hb3.mono HBD.out.size)) (.slice A' T'.length c'); obtain ⟨ka0, ka1, ka2, ka3, ka4, ka5⟩ := kA; obtain ⟨kb0, kb1, kb2, kb3, kb4, kb5⟩ := kB; clear ht hc' hf hq hb3))
  go_wp2
  have hres := HY.out.res (.slice A' T'.length c')
  refine bodyPost_ret (v := .tuple #[.agg #[.slice A' T'.length c'], .int .i64 id', .int .i64 e']) (by simp [results, Tryz.results74, go_sem, hres]) rfl ?_
  have hout := HXD.out.ret_call HTC.out.1 HTC.out.2.1 HTC.out.2.2.1 HTC.out.2.2.2.1 (Q := ImgQ C most n.sort) (id := id') (er := e') (by rw [HSort.out]; exact HTC.out.2.2.2.2)
  first | exact HLow.out _ _ hout | exact (HLow.out _ _ hout).drew
set_option maxRecDepth 100000 in
set_option maxHeartbeats 8000000 in
theorem image_8 {C : List Nd} {w : World} {A : Option Addr} (c : Nat) {n : Nd} {V : List Int} {VA : Option Addr} (vc : Nat) (most : Int) (hw : Well C) (hi : IteOk C) (hV : Row w VA V) (ho : ArgsOk C n V) (hop : n.op = 8) (hc : C.length ≤ c) (h : Tab w A C) (hl : C.length < 50000) (hm : most < 50000) :
    Calls Tryz.prog 74 #[.agg #[.slice A C.length c], nodeVal n, .slice VA V.length vc, .int .i64 most] w (OutT A C (ImgQ C most n.sort) w) := by
  have hl0 : C.length < 100000 := by omega
  obtain ⟨w', hw'⟩ : ∃ w', w.alloc (.cells #[.slice A C.length c] 33) = w' := ⟨_, rfl⟩
  have HSZ : Hid (w'.heap.size = w.heap.size + 1) := zzh (by rw [← hw']; simp)
  obtain ⟨w0, hw0⟩ : ∃ w0, (w'.alloc (.cells (nodeCells n).toArray 51)).alloc (.cells #[.slice none 0 0] 33) = w0 := ⟨_, rfl⟩
  have HX0 : Hid (MX w' A C w.heap.size A C c w0) := zzh (by rw [← hw0, ← hw']; exact MX.start2 h hc _ _)
  have HN0 : Hid (Blk w0 w'.heap.size 51 (nodeCells n).toArray) := zzh (by rw [← hw0]; exact (Blk.new w' _ _).alloc _)
  have HB0 : Hid (Below w.heap.size w w0) := zzh (by rw [← hw0, ← hw']; exact (((Below.refl _ w).alloc (Nat.le_refl _) _).alloc (by simp) _).alloc (by simp; omega) _)
  have HV := zzh (hV.below HB0.out)
  have HW := zzh hw
  have HI := zzh hi
  have HL := zzh hl
  have HM := zzh hm
  have HL0 := zzh hl0
  have HO := zzh ho
  have hlow : ∀ e W, OutT A C (ImgQ C most n.sort) w' e W → OutT A C (ImgQ C most n.sort) w e W := fun e W h => by rw [← hw'] at h; exact h.low
  have HLow := zzh hlow
  obtain ⟨n0, n1, n2, n3, n4, n5, n6, n7⟩ : w0.cell? ⟨w'.heap.size, 0, none⟩ = some (.int .i8 n.op) ∧ w0.cell? ⟨w'.heap.size, 1, none⟩ = some (.int .i8 n.len) ∧ w0.cell? ⟨w'.heap.size, 2, none⟩ = some (.int .i64 n.a0) ∧ w0.cell? ⟨w'.heap.size, 3, none⟩ = some (.int .i64 n.a1) ∧ w0.cell? ⟨w'.heap.size, 4, none⟩ = some (.int .i64 n.a2) ∧ w0.cell? ⟨w'.heap.size, 5, none⟩ = some (.int .i64 n.sort) ∧ w0.cell? ⟨w'.heap.size, 6, none⟩ = some (.int .i64 n.fn) ∧ w0.cell? ⟨w'.heap.size, 7, none⟩ = some (.int .i64 n.num) := ⟨HN0.out.cell 0, HN0.out.cell 1, HN0.out.cell 2, HN0.out.cell 3, HN0.out.cell 4, HN0.out.cell 5, HN0.out.cell 6, HN0.out.cell 7⟩
  obtain ⟨s0, s1, s2, s3⟩ := HX0.out.cells
  have hlen : V.length = 2 := by
    have := ho.srt (by omega)
    unfold opL at this
    split at this
    · rename_i h1
      rw [List.length_map, hop] at h1
      simp [manyM] at h1
      omega
    · cases this
  obtain ⟨x, y, hx⟩ := len_two (L := V) (by omega)
  have hxi0 := ho.inn x (by rw [hx]; simp)
  obtain ⟨a, rfl⟩ : ∃ q : Nat, x = q := ⟨x.toNat, by omega⟩
  have hxi1 := ho.inn y (by rw [hx]; simp)
  obtain ⟨b, rfl⟩ : ∃ q : Nat, y = q := ⟨y.toNat, by omega⟩
  obtain ⟨vb, voff, hVA, hvb, hvc⟩ := HV.out.at_.resolve_left (by omega)
  have y0 := hvc 0 (by omega)
  have hv0 : V[0]'(by omega) = (a : Int) := by simp [hx]
  rw [hv0, Nat.add_zero] at y0
  have y1 := hvc 1 (by omega)
  have hv1 : V[1]'(by omega) = (b : Int) := by simp [hx]
  rw [hv1] at y1
  obtain ⟨vvb, _, hVA2, hvb2, _⟩ := hV.at_.resolve_left (by omega)
  have hvlt : vb < w.heap.size := by rw [hVA] at hVA2; injection hVA2 with h; injection h with h; omega
  have HS : Hid (opL 8 [(ndAt C (a : Int)).sort, (ndAt C (b : Int)).sort] = some n.sort) := zzh (by have := ho.srt (by omega); rw [hx, hop] at this; exact this)
  have HVL := zzh hvlt
  have HAx := zzh (show a < C.length by omega)
  have HBx := zzh (show b < C.length by omega)
  have HIa : Hid (In64 (a : Int)) := zzh (by unfold In64; omega)
  have HIb : Hid (In64 (b : Int)) := zzh (by unfold In64; omega)
  have HSort : Hid (n.sort = 0) := zzh (by
    have := HS.out
    unfold opL at this
    simp [manyM, opSort] at this
    exact this.2.symm)
  subst hVA
  have v0 : (0 : Int) < (V.length : Int) := by omega
  have u0 : 0 < V.length := by omega
  have v1 : (1 : Int) < (V.length : Int) := by omega
  have u1 : 1 < V.length := by omega
  simp only [nodeVal, nodeCells] at hw0 ⊢
  have KN : Hid (∀ W, Below w0.heap.size w0 W → Calls Tryz.prog 122 #[.agg #[.slice A C.length c], .int .i64 (a : Int), .int .i64 (b : Int), .int .i64 0, .int .i64 most] W (OutT A C (ImgQ C most 0) W)) := zzh (fun W hW => cle_ok c a b 0 most HW.out HI.out HIa.out HIb.out HX0.out.hc (HX0.out.below hW).tab HL0.out)
  have d0 : (n.op == 0) = false := by simp [hop]
  have d1 : (n.op == 1) = false := by simp [hop]
  have d2 : (n.op == 2) = false := by simp [hop]
  have d3 : (n.op == 3) = false := by simp [hop]
  have d4 : (n.op == 4) = false := by simp [hop]
  have d5 : (n.op == 5) = false := by simp [hop]
  have d6 : (n.op == 6) = false := by simp [hop]
  have d7 : (n.op == 7) = false := by simp [hop]
  have d8 : (n.op == 8) = true := by simp [hop]
  have d9 : (n.op == 9) = false := by simp [hop]
  have d10 : (n.op == 10) = false := by simp [hop]
  have d11 : (n.op == 11) = false := by simp [hop]
  have d12 : (n.op == 12) = false := by simp [hop]
  have d13 : (n.op == 13) = false := by simp [hop]
  have hbD : Below w0.heap.size w0 w0.drew := below_drewN (Below.refl _ _) 1
  have KD := zzh (KN.out _ hbD)
  have HXD := zzh (HX0.out.below hbD)
  have HBD := zzh hbD
  have HK := zzh (fun (W : World) (hW : Below w0.heap.size w0 W) (v : Value) => show (W.cell? ⟨w.heap.size, 0, none⟩ = some (.slice A C.length c) ∧ W.cell? ⟨vb, voff, none⟩ = some (.int .i64 (a : Int)) ∧ W.cell? ⟨vb, voff + 1, none⟩ = some (.int .i64 (b : Int)) ∧ W.cell? ⟨w'.heap.size, 0, none⟩ = some (.int .i8 n.op) ∧ W.cell? ⟨w'.heap.size, 7, none⟩ = some (.int .i64 n.num)) ∧ ((W.setCell ⟨w'.heap.size + 1, 0, none⟩ v).cell? ⟨w.heap.size, 0, none⟩ = some (.slice A C.length c) ∧ (W.setCell ⟨w'.heap.size + 1, 0, none⟩ v).cell? ⟨vb, voff, none⟩ = some (.int .i64 (a : Int)) ∧ (W.setCell ⟨w'.heap.size + 1, 0, none⟩ v).cell? ⟨vb, voff + 1, none⟩ = some (.int .i64 (b : Int)) ∧ (W.setCell ⟨w'.heap.size + 1, 0, none⟩ v).cell? ⟨w'.heap.size, 0, none⟩ = some (.int .i8 n.op) ∧ (W.setCell ⟨w'.heap.size + 1, 0, none⟩ v).cell? ⟨w'.heap.size, 7, none⟩ = some (.int .i64 n.num)) from by
    have hfar : ∀ b i, b ≠ w'.heap.size + 1 → (W.setCell ⟨w'.heap.size + 1, 0, none⟩ v).cell? ⟨b, i, none⟩ = W.cell? ⟨b, i, none⟩ := fun b i hb => by
      unfold World.cell?
      rw [Below.heap_setCell W _ _ b hb]
    have hz := HSZ.out
    have hv := HVL.out
    have hs := HB0.out.size
    have hn := HN0.out.lt
    rw [hfar _ 0 (by omega), hfar w'.heap.size 0 (by omega), hfar w'.heap.size 7 (by omega), hfar vb (voff) (by omega), hfar vb (voff + 1) (by omega)]
    have e : W.cell? ⟨w.heap.size, 0, none⟩ = some (.slice A C.length c) ∧ W.cell? ⟨vb, voff, none⟩ = some (.int .i64 (a : Int)) ∧ W.cell? ⟨vb, voff + 1, none⟩ = some (.int .i64 (b : Int)) ∧ W.cell? ⟨w'.heap.size, 0, none⟩ = some (.int .i8 n.op) ∧ W.cell? ⟨w'.heap.size, 7, none⟩ = some (.int .i64 n.num) := ⟨(HX0.out.below hW).t.cell 0, (hW.cell (p := ⟨vb, voff, none⟩) (by show vb < _; omega)).trans y0, (hW.cell (p := ⟨vb, voff + 1, none⟩) (by show vb < _; omega)).trans y1, (HN0.out.below hW hn).cell 0, (HN0.out.below hW hn).cell 7⟩
    exact ⟨e, e⟩)
  clear hw hi hV ho hc h hl hm hl0 hlow hx hvb hvc hVA2 hvb2 hvlt hlen hbD hop hxi0 hv0 hxi1 hv1
  go_enter Tryz.func74, Tryz.ntmps74
  go_wp2_with fail
  go_region_held3 (fun W => W.cell? ⟨w.heap.size, 0, none⟩ = some (.slice A C.length c) ∧ W.cell? ⟨vb, voff, none⟩ = some (.int .i64 (a : Int)) ∧ W.cell? ⟨vb, voff + 1, none⟩ = some (.int .i64 (b : Int)) ∧ W.cell? ⟨w'.heap.size, 0, none⟩ = some (.int .i8 n.op) ∧ W.cell? ⟨w'.heap.size, 7, none⟩ = some (.int .i64 n.num)) (go_keep) (first
    | (go_at_call 122; refine KD.out.mono ?_; rintro e w3 ⟨A', c', T', id', e', rfl, ht, hc', hf, hq, hb3⟩; have HTC := zzh (And.intro hb3 (And.intro ht (And.intro hc' (And.intro hf hq)))); have HY := zzh (HXD.out.below hb3); obtain ⟨q0, q1, q2, q3⟩ := HY.out.cells; obtain ⟨kA, kB⟩ := HK.out w3 (HBD.out.trans (hb3.mono HBD.out.size)) (.slice A' T'.length c'); obtain ⟨ka0, ka1, ka2, ka3, ka4⟩ := kA; obtain ⟨kb0, kb1, kb2, kb3, kb4⟩ := kB; clear ht hc' hf hq hb3))
  go_wp2
  have hres := HY.out.res (.slice A' T'.length c')
  refine bodyPost_ret (v := .tuple #[.agg #[.slice A' T'.length c'], .int .i64 id', .int .i64 e']) (by simp [results, Tryz.results74, go_sem, hres]) rfl ?_
  have hout := HXD.out.ret_call HTC.out.1 HTC.out.2.1 HTC.out.2.2.1 HTC.out.2.2.2.1 (Q := ImgQ C most n.sort) (id := id') (er := e') (by rw [HSort.out]; exact HTC.out.2.2.2.2)
  first | exact HLow.out _ _ hout | exact (HLow.out _ _ hout).drew
set_option maxRecDepth 100000 in
set_option maxHeartbeats 8000000 in
theorem image_9 {C : List Nd} {w : World} {A : Option Addr} (c : Nat) {n : Nd} {V : List Int} {VA : Option Addr} (vc : Nat) (most : Int) (hw : Well C) (hi : IteOk C) (hV : Row w VA V) (ho : ArgsOk C n V) (hop : n.op = 9) (hc : C.length ≤ c) (h : Tab w A C) (hl : C.length < 50000) (hm : most < 50000) :
    Calls Tryz.prog 74 #[.agg #[.slice A C.length c], nodeVal n, .slice VA V.length vc, .int .i64 most] w (OutT A C (ImgQ C most n.sort) w) := by
  have hl0 : C.length < 100000 := by omega
  obtain ⟨w', hw'⟩ : ∃ w', w.alloc (.cells #[.slice A C.length c] 33) = w' := ⟨_, rfl⟩
  have HSZ : Hid (w'.heap.size = w.heap.size + 1) := zzh (by rw [← hw']; simp)
  obtain ⟨w0, hw0⟩ : ∃ w0, (w'.alloc (.cells (nodeCells n).toArray 51)).alloc (.cells #[.slice none 0 0] 33) = w0 := ⟨_, rfl⟩
  have HX0 : Hid (MX w' A C w.heap.size A C c w0) := zzh (by rw [← hw0, ← hw']; exact MX.start2 h hc _ _)
  have HN0 : Hid (Blk w0 w'.heap.size 51 (nodeCells n).toArray) := zzh (by rw [← hw0]; exact (Blk.new w' _ _).alloc _)
  have HB0 : Hid (Below w.heap.size w w0) := zzh (by rw [← hw0, ← hw']; exact (((Below.refl _ w).alloc (Nat.le_refl _) _).alloc (by simp) _).alloc (by simp; omega) _)
  have HV := zzh (hV.below HB0.out)
  have HW := zzh hw
  have HI := zzh hi
  have HL := zzh hl
  have HM := zzh hm
  have HL0 := zzh hl0
  have HO := zzh ho
  have hlow : ∀ e W, OutT A C (ImgQ C most n.sort) w' e W → OutT A C (ImgQ C most n.sort) w e W := fun e W h => by rw [← hw'] at h; exact h.low
  have HLow := zzh hlow
  obtain ⟨n0, n1, n2, n3, n4, n5, n6, n7⟩ : w0.cell? ⟨w'.heap.size, 0, none⟩ = some (.int .i8 n.op) ∧ w0.cell? ⟨w'.heap.size, 1, none⟩ = some (.int .i8 n.len) ∧ w0.cell? ⟨w'.heap.size, 2, none⟩ = some (.int .i64 n.a0) ∧ w0.cell? ⟨w'.heap.size, 3, none⟩ = some (.int .i64 n.a1) ∧ w0.cell? ⟨w'.heap.size, 4, none⟩ = some (.int .i64 n.a2) ∧ w0.cell? ⟨w'.heap.size, 5, none⟩ = some (.int .i64 n.sort) ∧ w0.cell? ⟨w'.heap.size, 6, none⟩ = some (.int .i64 n.fn) ∧ w0.cell? ⟨w'.heap.size, 7, none⟩ = some (.int .i64 n.num) := ⟨HN0.out.cell 0, HN0.out.cell 1, HN0.out.cell 2, HN0.out.cell 3, HN0.out.cell 4, HN0.out.cell 5, HN0.out.cell 6, HN0.out.cell 7⟩
  obtain ⟨s0, s1, s2, s3⟩ := HX0.out.cells
  have hlen : V.length = 2 := by
    have := ho.srt (by omega)
    unfold opL at this
    split at this
    · rename_i h1
      rw [List.length_map, hop] at h1
      simp [manyM] at h1
      omega
    · cases this
  obtain ⟨x, y, hx⟩ := len_two (L := V) (by omega)
  have hxi0 := ho.inn x (by rw [hx]; simp)
  obtain ⟨a, rfl⟩ : ∃ q : Nat, x = q := ⟨x.toNat, by omega⟩
  have hxi1 := ho.inn y (by rw [hx]; simp)
  obtain ⟨b, rfl⟩ : ∃ q : Nat, y = q := ⟨y.toNat, by omega⟩
  obtain ⟨vb, voff, hVA, hvb, hvc⟩ := HV.out.at_.resolve_left (by omega)
  have y0 := hvc 0 (by omega)
  have hv0 : V[0]'(by omega) = (a : Int) := by simp [hx]
  rw [hv0, Nat.add_zero] at y0
  have y1 := hvc 1 (by omega)
  have hv1 : V[1]'(by omega) = (b : Int) := by simp [hx]
  rw [hv1] at y1
  obtain ⟨vvb, _, hVA2, hvb2, _⟩ := hV.at_.resolve_left (by omega)
  have hvlt : vb < w.heap.size := by rw [hVA] at hVA2; injection hVA2 with h; injection h with h; omega
  have HS : Hid (opL 9 [(ndAt C (a : Int)).sort, (ndAt C (b : Int)).sort] = some n.sort) := zzh (by have := ho.srt (by omega); rw [hx, hop] at this; exact this)
  have HVL := zzh hvlt
  have HAx := zzh (show a < C.length by omega)
  have HBx := zzh (show b < C.length by omega)
  have HIa : Hid (In64 (a : Int)) := zzh (by unfold In64; omega)
  have HIb : Hid (In64 (b : Int)) := zzh (by unfold In64; omega)
  have HSort : Hid (n.sort = 0) := zzh (by
    have := HS.out
    unfold opL at this
    simp [manyM, opSort] at this
    exact this.2.symm)
  subst hVA
  have v0 : (0 : Int) < (V.length : Int) := by omega
  have u0 : 0 < V.length := by omega
  have v1 : (1 : Int) < (V.length : Int) := by omega
  have u1 : 1 < V.length := by omega
  simp only [nodeVal, nodeCells] at hw0 ⊢
  have KN : Hid (∀ W, Below w0.heap.size w0 W → Calls Tryz.prog 122 #[.agg #[.slice A C.length c], .int .i64 (a : Int), .int .i64 (b : Int), .int .i64 (-1), .int .i64 most] W (OutT A C (ImgQ C most 0) W)) := zzh (fun W hW => cle_ok c a b (-1) most HW.out HI.out HIa.out HIb.out HX0.out.hc (HX0.out.below hW).tab HL0.out)
  have d0 : (n.op == 0) = false := by simp [hop]
  have d1 : (n.op == 1) = false := by simp [hop]
  have d2 : (n.op == 2) = false := by simp [hop]
  have d3 : (n.op == 3) = false := by simp [hop]
  have d4 : (n.op == 4) = false := by simp [hop]
  have d5 : (n.op == 5) = false := by simp [hop]
  have d6 : (n.op == 6) = false := by simp [hop]
  have d7 : (n.op == 7) = false := by simp [hop]
  have d8 : (n.op == 8) = false := by simp [hop]
  have d9 : (n.op == 9) = true := by simp [hop]
  have d10 : (n.op == 10) = false := by simp [hop]
  have d11 : (n.op == 11) = false := by simp [hop]
  have d12 : (n.op == 12) = false := by simp [hop]
  have d13 : (n.op == 13) = false := by simp [hop]
  have hbD : Below w0.heap.size w0 w0.drew := below_drewN (Below.refl _ _) 1
  have KD := zzh (KN.out _ hbD)
  have HXD := zzh (HX0.out.below hbD)
  have HBD := zzh hbD
  have HK := zzh (fun (W : World) (hW : Below w0.heap.size w0 W) (v : Value) => show (W.cell? ⟨w.heap.size, 0, none⟩ = some (.slice A C.length c) ∧ W.cell? ⟨vb, voff, none⟩ = some (.int .i64 (a : Int)) ∧ W.cell? ⟨vb, voff + 1, none⟩ = some (.int .i64 (b : Int)) ∧ W.cell? ⟨w'.heap.size, 0, none⟩ = some (.int .i8 n.op) ∧ W.cell? ⟨w'.heap.size, 7, none⟩ = some (.int .i64 n.num)) ∧ ((W.setCell ⟨w'.heap.size + 1, 0, none⟩ v).cell? ⟨w.heap.size, 0, none⟩ = some (.slice A C.length c) ∧ (W.setCell ⟨w'.heap.size + 1, 0, none⟩ v).cell? ⟨vb, voff, none⟩ = some (.int .i64 (a : Int)) ∧ (W.setCell ⟨w'.heap.size + 1, 0, none⟩ v).cell? ⟨vb, voff + 1, none⟩ = some (.int .i64 (b : Int)) ∧ (W.setCell ⟨w'.heap.size + 1, 0, none⟩ v).cell? ⟨w'.heap.size, 0, none⟩ = some (.int .i8 n.op) ∧ (W.setCell ⟨w'.heap.size + 1, 0, none⟩ v).cell? ⟨w'.heap.size, 7, none⟩ = some (.int .i64 n.num)) from by
    have hfar : ∀ b i, b ≠ w'.heap.size + 1 → (W.setCell ⟨w'.heap.size + 1, 0, none⟩ v).cell? ⟨b, i, none⟩ = W.cell? ⟨b, i, none⟩ := fun b i hb => by
      unfold World.cell?
      rw [Below.heap_setCell W _ _ b hb]
    have hz := HSZ.out
    have hv := HVL.out
    have hs := HB0.out.size
    have hn := HN0.out.lt
    rw [hfar _ 0 (by omega), hfar w'.heap.size 0 (by omega), hfar w'.heap.size 7 (by omega), hfar vb (voff) (by omega), hfar vb (voff + 1) (by omega)]
    have e : W.cell? ⟨w.heap.size, 0, none⟩ = some (.slice A C.length c) ∧ W.cell? ⟨vb, voff, none⟩ = some (.int .i64 (a : Int)) ∧ W.cell? ⟨vb, voff + 1, none⟩ = some (.int .i64 (b : Int)) ∧ W.cell? ⟨w'.heap.size, 0, none⟩ = some (.int .i8 n.op) ∧ W.cell? ⟨w'.heap.size, 7, none⟩ = some (.int .i64 n.num) := ⟨(HX0.out.below hW).t.cell 0, (hW.cell (p := ⟨vb, voff, none⟩) (by show vb < _; omega)).trans y0, (hW.cell (p := ⟨vb, voff + 1, none⟩) (by show vb < _; omega)).trans y1, (HN0.out.below hW hn).cell 0, (HN0.out.below hW hn).cell 7⟩
    exact ⟨e, e⟩)
  clear hw hi hV ho hc h hl hm hl0 hlow hx hvb hvc hVA2 hvb2 hvlt hlen hbD hop hxi0 hv0 hxi1 hv1
  go_enter Tryz.func74, Tryz.ntmps74
  go_wp2_with fail
  go_region_held3 (fun W => W.cell? ⟨w.heap.size, 0, none⟩ = some (.slice A C.length c) ∧ W.cell? ⟨vb, voff, none⟩ = some (.int .i64 (a : Int)) ∧ W.cell? ⟨vb, voff + 1, none⟩ = some (.int .i64 (b : Int)) ∧ W.cell? ⟨w'.heap.size, 0, none⟩ = some (.int .i8 n.op) ∧ W.cell? ⟨w'.heap.size, 7, none⟩ = some (.int .i64 n.num)) (go_keep) (first
    | (go_at_call 122; refine KD.out.mono ?_; rintro e w3 ⟨A', c', T', id', e', rfl, ht, hc', hf, hq, hb3⟩; have HTC := zzh (And.intro hb3 (And.intro ht (And.intro hc' (And.intro hf hq)))); have HY := zzh (HXD.out.below hb3); obtain ⟨q0, q1, q2, q3⟩ := HY.out.cells; obtain ⟨kA, kB⟩ := HK.out w3 (HBD.out.trans (hb3.mono HBD.out.size)) (.slice A' T'.length c'); obtain ⟨ka0, ka1, ka2, ka3, ka4⟩ := kA; obtain ⟨kb0, kb1, kb2, kb3, kb4⟩ := kB; clear ht hc' hf hq hb3))
  go_wp2
  have hres := HY.out.res (.slice A' T'.length c')
  refine bodyPost_ret (v := .tuple #[.agg #[.slice A' T'.length c'], .int .i64 id', .int .i64 e']) (by simp [results, Tryz.results74, go_sem, hres]) rfl ?_
  have hout := HXD.out.ret_call HTC.out.1 HTC.out.2.1 HTC.out.2.2.1 HTC.out.2.2.2.1 (Q := ImgQ C most n.sort) (id := id') (er := e') (by rw [HSort.out]; exact HTC.out.2.2.2.2)
  first | exact HLow.out _ _ hout | exact (HLow.out _ _ hout).drew
set_option maxRecDepth 100000 in
set_option maxHeartbeats 8000000 in
theorem image_12 {C : List Nd} {w : World} {A : Option Addr} (c : Nat) {n : Nd} {V : List Int} {VA : Option Addr} (vc : Nat) (most : Int) (hw : Well C) (hi : IteOk C) (hV : Row w VA V) (ho : ArgsOk C n V) (hop : n.op = 12) (hc : C.length ≤ c) (h : Tab w A C) (hl : C.length < 50000) (hm : most < 50000) :
    Calls Tryz.prog 74 #[.agg #[.slice A C.length c], nodeVal n, .slice VA V.length vc, .int .i64 most] w (OutT A C (ImgQ C most n.sort) w) := by
  have hl0 : C.length < 100000 := by omega
  obtain ⟨w', hw'⟩ : ∃ w', w.alloc (.cells #[.slice A C.length c] 33) = w' := ⟨_, rfl⟩
  have HSZ : Hid (w'.heap.size = w.heap.size + 1) := zzh (by rw [← hw']; simp)
  obtain ⟨w0, hw0⟩ : ∃ w0, (w'.alloc (.cells (nodeCells n).toArray 51)).alloc (.cells #[.slice none 0 0] 33) = w0 := ⟨_, rfl⟩
  have HX0 : Hid (MX w' A C w.heap.size A C c w0) := zzh (by rw [← hw0, ← hw']; exact MX.start2 h hc _ _)
  have HN0 : Hid (Blk w0 w'.heap.size 51 (nodeCells n).toArray) := zzh (by rw [← hw0]; exact (Blk.new w' _ _).alloc _)
  have HB0 : Hid (Below w.heap.size w w0) := zzh (by rw [← hw0, ← hw']; exact (((Below.refl _ w).alloc (Nat.le_refl _) _).alloc (by simp) _).alloc (by simp; omega) _)
  have HV := zzh (hV.below HB0.out)
  have HW := zzh hw
  have HI := zzh hi
  have HL := zzh hl
  have HM := zzh hm
  have HL0 := zzh hl0
  have HO := zzh ho
  have hlow : ∀ e W, OutT A C (ImgQ C most n.sort) w' e W → OutT A C (ImgQ C most n.sort) w e W := fun e W h => by rw [← hw'] at h; exact h.low
  have HLow := zzh hlow
  obtain ⟨n0, n1, n2, n3, n4, n5, n6, n7⟩ : w0.cell? ⟨w'.heap.size, 0, none⟩ = some (.int .i8 n.op) ∧ w0.cell? ⟨w'.heap.size, 1, none⟩ = some (.int .i8 n.len) ∧ w0.cell? ⟨w'.heap.size, 2, none⟩ = some (.int .i64 n.a0) ∧ w0.cell? ⟨w'.heap.size, 3, none⟩ = some (.int .i64 n.a1) ∧ w0.cell? ⟨w'.heap.size, 4, none⟩ = some (.int .i64 n.a2) ∧ w0.cell? ⟨w'.heap.size, 5, none⟩ = some (.int .i64 n.sort) ∧ w0.cell? ⟨w'.heap.size, 6, none⟩ = some (.int .i64 n.fn) ∧ w0.cell? ⟨w'.heap.size, 7, none⟩ = some (.int .i64 n.num) := ⟨HN0.out.cell 0, HN0.out.cell 1, HN0.out.cell 2, HN0.out.cell 3, HN0.out.cell 4, HN0.out.cell 5, HN0.out.cell 6, HN0.out.cell 7⟩
  obtain ⟨s0, s1, s2, s3⟩ := HX0.out.cells
  have hlen : V.length = 2 := by
    have := ho.srt (by omega)
    unfold opL at this
    split at this
    · rename_i h1
      rw [List.length_map, hop] at h1
      simp [manyM] at h1
      omega
    · cases this
  obtain ⟨x, y, hx⟩ := len_two (L := V) (by omega)
  have hxi0 := ho.inn x (by rw [hx]; simp)
  obtain ⟨a, rfl⟩ : ∃ q : Nat, x = q := ⟨x.toNat, by omega⟩
  have hxi1 := ho.inn y (by rw [hx]; simp)
  obtain ⟨b, rfl⟩ : ∃ q : Nat, y = q := ⟨y.toNat, by omega⟩
  obtain ⟨vb, voff, hVA, hvb, hvc⟩ := HV.out.at_.resolve_left (by omega)
  have y0 := hvc 0 (by omega)
  have hv0 : V[0]'(by omega) = (a : Int) := by simp [hx]
  rw [hv0, Nat.add_zero] at y0
  have y1 := hvc 1 (by omega)
  have hv1 : V[1]'(by omega) = (b : Int) := by simp [hx]
  rw [hv1] at y1
  obtain ⟨vvb, _, hVA2, hvb2, _⟩ := hV.at_.resolve_left (by omega)
  have hvlt : vb < w.heap.size := by rw [hVA] at hVA2; injection hVA2 with h; injection h with h; omega
  have HS : Hid (opL 12 [(ndAt C (a : Int)).sort, (ndAt C (b : Int)).sort] = some n.sort) := zzh (by have := ho.srt (by omega); rw [hx, hop] at this; exact this)
  have HVL := zzh hvlt
  have HAx := zzh (show a < C.length by omega)
  have HBx := zzh (show b < C.length by omega)
  have HIa : Hid (In64 (a : Int)) := zzh (by unfold In64; omega)
  have HIb : Hid (In64 (b : Int)) := zzh (by unfold In64; omega)
  have HSort : Hid (n.sort = 0) := zzh (by
    have := HS.out
    unfold opL at this
    simp [manyM, opSort] at this
    exact this.2.symm)
  subst hVA
  have v0 : (0 : Int) < (V.length : Int) := by omega
  have u0 : 0 < V.length := by omega
  have v1 : (1 : Int) < (V.length : Int) := by omega
  have u1 : 1 < V.length := by omega
  simp only [nodeVal, nodeCells] at hw0 ⊢
  have KN : Hid (∀ W, Below w0.heap.size w0 W → Calls Tryz.prog 122 #[.agg #[.slice A C.length c], .int .i64 (a : Int), .int .i64 (b : Int), .int .i64 n.num, .int .i64 most] W (OutT A C (ImgQ C most 0) W)) := zzh (fun W hW => cle_ok c a b n.num most HW.out HI.out HIa.out HIb.out HX0.out.hc (HX0.out.below hW).tab HL0.out)
  have d0 : (n.op == 0) = false := by simp [hop]
  have d1 : (n.op == 1) = false := by simp [hop]
  have d2 : (n.op == 2) = false := by simp [hop]
  have d3 : (n.op == 3) = false := by simp [hop]
  have d4 : (n.op == 4) = false := by simp [hop]
  have d5 : (n.op == 5) = false := by simp [hop]
  have d6 : (n.op == 6) = false := by simp [hop]
  have d7 : (n.op == 7) = false := by simp [hop]
  have d8 : (n.op == 8) = false := by simp [hop]
  have d9 : (n.op == 9) = false := by simp [hop]
  have d10 : (n.op == 10) = false := by simp [hop]
  have d11 : (n.op == 11) = false := by simp [hop]
  have d12 : (n.op == 12) = true := by simp [hop]
  have d13 : (n.op == 13) = false := by simp [hop]
  have hbD : Below w0.heap.size w0 w0.drew := below_drewN (Below.refl _ _) 1
  have KD := zzh (KN.out _ hbD)
  have HXD := zzh (HX0.out.below hbD)
  have HBD := zzh hbD
  have HK := zzh (fun (W : World) (hW : Below w0.heap.size w0 W) (v : Value) => show (W.cell? ⟨w.heap.size, 0, none⟩ = some (.slice A C.length c) ∧ W.cell? ⟨vb, voff, none⟩ = some (.int .i64 (a : Int)) ∧ W.cell? ⟨vb, voff + 1, none⟩ = some (.int .i64 (b : Int)) ∧ W.cell? ⟨w'.heap.size, 0, none⟩ = some (.int .i8 n.op) ∧ W.cell? ⟨w'.heap.size, 7, none⟩ = some (.int .i64 n.num)) ∧ ((W.setCell ⟨w'.heap.size + 1, 0, none⟩ v).cell? ⟨w.heap.size, 0, none⟩ = some (.slice A C.length c) ∧ (W.setCell ⟨w'.heap.size + 1, 0, none⟩ v).cell? ⟨vb, voff, none⟩ = some (.int .i64 (a : Int)) ∧ (W.setCell ⟨w'.heap.size + 1, 0, none⟩ v).cell? ⟨vb, voff + 1, none⟩ = some (.int .i64 (b : Int)) ∧ (W.setCell ⟨w'.heap.size + 1, 0, none⟩ v).cell? ⟨w'.heap.size, 0, none⟩ = some (.int .i8 n.op) ∧ (W.setCell ⟨w'.heap.size + 1, 0, none⟩ v).cell? ⟨w'.heap.size, 7, none⟩ = some (.int .i64 n.num)) from by
    have hfar : ∀ b i, b ≠ w'.heap.size + 1 → (W.setCell ⟨w'.heap.size + 1, 0, none⟩ v).cell? ⟨b, i, none⟩ = W.cell? ⟨b, i, none⟩ := fun b i hb => by
      unfold World.cell?
      rw [Below.heap_setCell W _ _ b hb]
    have hz := HSZ.out
    have hv := HVL.out
    have hs := HB0.out.size
    have hn := HN0.out.lt
    rw [hfar _ 0 (by omega), hfar w'.heap.size 0 (by omega), hfar w'.heap.size 7 (by omega), hfar vb (voff) (by omega), hfar vb (voff + 1) (by omega)]
    have e : W.cell? ⟨w.heap.size, 0, none⟩ = some (.slice A C.length c) ∧ W.cell? ⟨vb, voff, none⟩ = some (.int .i64 (a : Int)) ∧ W.cell? ⟨vb, voff + 1, none⟩ = some (.int .i64 (b : Int)) ∧ W.cell? ⟨w'.heap.size, 0, none⟩ = some (.int .i8 n.op) ∧ W.cell? ⟨w'.heap.size, 7, none⟩ = some (.int .i64 n.num) := ⟨(HX0.out.below hW).t.cell 0, (hW.cell (p := ⟨vb, voff, none⟩) (by show vb < _; omega)).trans y0, (hW.cell (p := ⟨vb, voff + 1, none⟩) (by show vb < _; omega)).trans y1, (HN0.out.below hW hn).cell 0, (HN0.out.below hW hn).cell 7⟩
    exact ⟨e, e⟩)
  clear hw hi hV ho hc h hl hm hl0 hlow hx hvb hvc hVA2 hvb2 hvlt hlen hbD hop hxi0 hv0 hxi1 hv1
  go_enter Tryz.func74, Tryz.ntmps74
  go_wp2_with fail
  go_region_held3 (fun W => W.cell? ⟨w.heap.size, 0, none⟩ = some (.slice A C.length c) ∧ W.cell? ⟨vb, voff, none⟩ = some (.int .i64 (a : Int)) ∧ W.cell? ⟨vb, voff + 1, none⟩ = some (.int .i64 (b : Int)) ∧ W.cell? ⟨w'.heap.size, 0, none⟩ = some (.int .i8 n.op) ∧ W.cell? ⟨w'.heap.size, 7, none⟩ = some (.int .i64 n.num)) (go_keep) (first
    | (go_at_call 122; refine KD.out.mono ?_; rintro e w3 ⟨A', c', T', id', e', rfl, ht, hc', hf, hq, hb3⟩; have HTC := zzh (And.intro hb3 (And.intro ht (And.intro hc' (And.intro hf hq)))); have HY := zzh (HXD.out.below hb3); obtain ⟨q0, q1, q2, q3⟩ := HY.out.cells; obtain ⟨kA, kB⟩ := HK.out w3 (HBD.out.trans (hb3.mono HBD.out.size)) (.slice A' T'.length c'); obtain ⟨ka0, ka1, ka2, ka3, ka4⟩ := kA; obtain ⟨kb0, kb1, kb2, kb3, kb4⟩ := kB; clear ht hc' hf hq hb3))
  go_wp2
  have hres := HY.out.res (.slice A' T'.length c')
  refine bodyPost_ret (v := .tuple #[.agg #[.slice A' T'.length c'], .int .i64 id', .int .i64 e']) (by simp [results, Tryz.results74, go_sem, hres]) rfl ?_
  have hout := HXD.out.ret_call HTC.out.1 HTC.out.2.1 HTC.out.2.2.1 HTC.out.2.2.2.1 (Q := ImgQ C most n.sort) (id := id') (er := e') (by rw [HSort.out]; exact HTC.out.2.2.2.2)
  first | exact HLow.out _ _ hout | exact (HLow.out _ _ hout).drew
end Go.Proofs.YtlipnnibagidiaaGreat

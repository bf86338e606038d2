/- gantryref12.image: the arms of OpTrue, OpNum, OpAnd, OpOr. -/
import Derived.Test.YtlipnnibagidiaaGreatImI
namespace Go.Proofs.YtlipnnibagidiaaGreat
open Go.RowKit Go.Lib
set_option maxRecDepth 100000 in
set_option maxHeartbeats 8000000 in
theorem image_0 {C : List Nd} {w : World} {A : Option Addr} (c : Nat) {n : Nd} {V : List Int} {VA : Option Addr} (vc : Nat) (most : Int) (hw : Well C) (hi : IteOk C) (hV : Row w VA V) (ho : ArgsOk C n V) (hop : n.op = 0) (hc : C.length ≤ c) (h : Tab w A C) (hl : C.length < 50000) (hm : most < 50000) :
    Calls Tryz.prog 74 #[.agg #[.slice A C.length c], nodeVal n, .slice VA V.length vc, .int .i64 most] w (OutT A C (ImgQ C most n.sort) w) := by
  have hl0 : C.length < 100000 := by omega
  obtain ⟨w', hw'⟩ : ∃ w', w.alloc (.cells #[.slice A C.length c] 33) = w' := ⟨_, rfl⟩
  have HSZ : Hid (w'.heap.size = w.heap.size + 1) := zzh (by rw [← hw']; simp)
  obtain ⟨w0, hw0⟩ : ∃ w0, (w'.alloc (.cells (nodeCells n).toArray 51)).alloc (.cells #[.slice none 0 0] 33) = w0 := ⟨_, rfl⟩
  have HX0 : Hid (MX w' A C w.heap.size A C c w0) := zzh (by rw [← hw0, ← hw']; exact MX.start2 h hc _ _)
  have HN0 : Hid (Blk w0 w'.heap.size 51 (nodeCells n).toArray) := zzh (by rw [← hw0]; exact (Blk.new w' _ _).alloc _)
  have HB0 : Hid (Below w.heap.size w w0) := zzh (by rw [← hw0, ← hw']; exact (((Below.refl _ w).alloc (Nat.le_refl _) _).alloc (by simp) _).alloc (by simp; omega) _)
  have HV := zzh (hV.below HB0.out)
  have HW := zzh hw
  have HI := zzh hi
  have HL := zzh hl
  have HM := zzh hm
  have HL0 := zzh hl0
  have HO := zzh ho
  have hlow : ∀ e W, OutT A C (ImgQ C most n.sort) w' e W → OutT A C (ImgQ C most n.sort) w e W := fun e W h => by rw [← hw'] at h; exact h.low
  have HLow := zzh hlow
  obtain ⟨n0, n1, n2, n3, n4, n5, n6, n7⟩ : w0.cell? ⟨w'.heap.size, 0, none⟩ = some (.int .i8 n.op) ∧ w0.cell? ⟨w'.heap.size, 1, none⟩ = some (.int .i8 n.len) ∧ w0.cell? ⟨w'.heap.size, 2, none⟩ = some (.int .i64 n.a0) ∧ w0.cell? ⟨w'.heap.size, 3, none⟩ = some (.int .i64 n.a1) ∧ w0.cell? ⟨w'.heap.size, 4, none⟩ = some (.int .i64 n.a2) ∧ w0.cell? ⟨w'.heap.size, 5, none⟩ = some (.int .i64 n.sort) ∧ w0.cell? ⟨w'.heap.size, 6, none⟩ = some (.int .i64 n.fn) ∧ w0.cell? ⟨w'.heap.size, 7, none⟩ = some (.int .i64 n.num) := ⟨HN0.out.cell 0, HN0.out.cell 1, HN0.out.cell 2, HN0.out.cell 3, HN0.out.cell 4, HN0.out.cell 5, HN0.out.cell 6, HN0.out.cell 7⟩
  obtain ⟨s0, s1, s2, s3⟩ := HX0.out.cells
  have HSort : Hid (n.sort = 0) := zzh (by
    have := ho.srt (by omega)
    rw [hop] at this
    unfold opL at this
    split at this
    · unfold opSort at this
      simp at this
      omega
    · cases this)
  have HS' : Hid (∀ m ∈ C, 0 ≤ m.sort) := zzh (fun m hm => by obtain ⟨_, _, _, hst⟩ := hw.core.ok.stands hm; exact hst.srt.1)
  simp only [nodeVal, nodeCells] at hw0 ⊢
  have d0 : (n.op == 0) = true := by simp [hop]
  have d1 : (n.op == 1) = false := by simp [hop]
  have d2 : (n.op == 2) = false := by simp [hop]
  have d3 : (n.op == 3) = false := by simp [hop]
  have d4 : (n.op == 4) = false := by simp [hop]
  have d5 : (n.op == 5) = false := by simp [hop]
  have d6 : (n.op == 6) = false := by simp [hop]
  have d7 : (n.op == 7) = false := by simp [hop]
  have d8 : (n.op == 8) = false := by simp [hop]
  have d9 : (n.op == 9) = false := by simp [hop]
  have d10 : (n.op == 10) = false := by simp [hop]
  have d11 : (n.op == 11) = false := by simp [hop]
  have d12 : (n.op == 12) = false := by simp [hop]
  have d13 : (n.op == 13) = false := by simp [hop]
  clear hw hi hV ho hc h hl hm hl0 hlow HN0 hop
  go_enter Tryz.func74, Tryz.ntmps74
  have HPs := zzh (HW.out.pos)
  go_wp2
  have hres := HX0.out.res (.slice A C.length c)
  refine bodyPost_ret (v := .tuple #[.agg #[.slice A C.length c], .int .i64 0, .int .i64 0]) (by simp [results, Tryz.results74, go_sem, hres]) rfl ?_
  exact HLow.out _ _ (HX0.out.ret_in HPs.out (by rw [HSort.out]; exact fun _ => ⟨ImgS.true HW.out HI.out, by omega⟩))
set_option maxRecDepth 100000 in
set_option maxHeartbeats 8000000 in
theorem image_10 {C : List Nd} {w : World} {A : Option Addr} (c : Nat) {n : Nd} {V : List Int} {VA : Option Addr} (vc : Nat) (most : Int) (hw : Well C) (hi : IteOk C) (hV : Row w VA V) (ho : ArgsOk C n V) (hop : n.op = 10) (hc : C.length ≤ c) (h : Tab w A C) (hl : C.length < 50000) (hm : most < 50000) :
    Calls Tryz.prog 74 #[.agg #[.slice A C.length c], nodeVal n, .slice VA V.length vc, .int .i64 most] w (OutT A C (ImgQ C most n.sort) w) := by
  have hl0 : C.length < 100000 := by omega
  obtain ⟨w', hw'⟩ : ∃ w', w.alloc (.cells #[.slice A C.length c] 33) = w' := ⟨_, rfl⟩
  have HSZ : Hid (w'.heap.size = w.heap.size + 1) := zzh (by rw [← hw']; simp)
  obtain ⟨w0, hw0⟩ : ∃ w0, (w'.alloc (.cells (nodeCells n).toArray 51)).alloc (.cells #[.slice none 0 0] 33) = w0 := ⟨_, rfl⟩
  have HX0 : Hid (MX w' A C w.heap.size A C c w0) := zzh (by rw [← hw0, ← hw']; exact MX.start2 h hc _ _)
  have HN0 : Hid (Blk w0 w'.heap.size 51 (nodeCells n).toArray) := zzh (by rw [← hw0]; exact (Blk.new w' _ _).alloc _)
  have HB0 : Hid (Below w.heap.size w w0) := zzh (by rw [← hw0, ← hw']; exact (((Below.refl _ w).alloc (Nat.le_refl _) _).alloc (by simp) _).alloc (by simp; omega) _)
  have HV := zzh (hV.below HB0.out)
  have HW := zzh hw
  have HI := zzh hi
  have HL := zzh hl
  have HM := zzh hm
  have HL0 := zzh hl0
  have HO := zzh ho
  have hlow : ∀ e W, OutT A C (ImgQ C most n.sort) w' e W → OutT A C (ImgQ C most n.sort) w e W := fun e W h => by rw [← hw'] at h; exact h.low
  have HLow := zzh hlow
  obtain ⟨n0, n1, n2, n3, n4, n5, n6, n7⟩ : w0.cell? ⟨w'.heap.size, 0, none⟩ = some (.int .i8 n.op) ∧ w0.cell? ⟨w'.heap.size, 1, none⟩ = some (.int .i8 n.len) ∧ w0.cell? ⟨w'.heap.size, 2, none⟩ = some (.int .i64 n.a0) ∧ w0.cell? ⟨w'.heap.size, 3, none⟩ = some (.int .i64 n.a1) ∧ w0.cell? ⟨w'.heap.size, 4, none⟩ = some (.int .i64 n.a2) ∧ w0.cell? ⟨w'.heap.size, 5, none⟩ = some (.int .i64 n.sort) ∧ w0.cell? ⟨w'.heap.size, 6, none⟩ = some (.int .i64 n.fn) ∧ w0.cell? ⟨w'.heap.size, 7, none⟩ = some (.int .i64 n.num) := ⟨HN0.out.cell 0, HN0.out.cell 1, HN0.out.cell 2, HN0.out.cell 3, HN0.out.cell 4, HN0.out.cell 5, HN0.out.cell 6, HN0.out.cell 7⟩
  obtain ⟨s0, s1, s2, s3⟩ := HX0.out.cells
  have HSort : Hid (n.sort = 1) := zzh (by
    have := ho.srt (by omega)
    rw [hop] at this
    unfold opL at this
    split at this
    · unfold opSort at this
      simp at this
      omega
    · cases this)
  have HS' : Hid (∀ m ∈ C, 0 ≤ m.sort) := zzh (fun m hm => by obtain ⟨_, _, _, hst⟩ := hw.core.ok.stands hm; exact hst.srt.1)
  simp only [nodeVal, nodeCells] at hw0 ⊢
  have KD := zzh (rputn_ok (w := w0) c 1 n.num most HW.out HI.out (by unfold In64; omega) HO.out.wf.num HX0.out.hc HX0.out.tab HL0.out)
  have d0 : (n.op == 0) = false := by simp [hop]
  have d1 : (n.op == 1) = false := by simp [hop]
  have d2 : (n.op == 2) = false := by simp [hop]
  have d3 : (n.op == 3) = false := by simp [hop]
  have d4 : (n.op == 4) = false := by simp [hop]
  have d5 : (n.op == 5) = false := by simp [hop]
  have d6 : (n.op == 6) = false := by simp [hop]
  have d7 : (n.op == 7) = false := by simp [hop]
  have d8 : (n.op == 8) = false := by simp [hop]
  have d9 : (n.op == 9) = false := by simp [hop]
  have d10 : (n.op == 10) = true := by simp [hop]
  have d11 : (n.op == 11) = false := by simp [hop]
  have d12 : (n.op == 12) = false := by simp [hop]
  have d13 : (n.op == 13) = false := by simp [hop]
  clear hw hi hV ho hc h hl hm hl0 hlow HN0 hop
  go_enter Tryz.func74, Tryz.ntmps74
  go_wp2_with fail
  refine KD.out.mono ?_
  rintro e w3 ⟨A', c', T', id', e', rfl, ht, hc', hf, hq, hb3⟩
  have HTC := zzh (And.intro hb3 (And.intro ht (And.intro hc' (And.intro hf hq))))
  have HY := zzh (HX0.out.below hb3)
  obtain ⟨q0, q1, q2, q3⟩ := HY.out.cells
  clear ht hc' hf hq hb3 KD s0 s1 s2 s3
  go_wp2
  have hres := HY.out.res (.slice A' T'.length c')
  refine bodyPost_ret (v := .tuple #[.agg #[.slice A' T'.length c'], .int .i64 id', .int .i64 e']) (by simp [results, Tryz.results74, go_sem, hres]) rfl ?_
  have hout := HX0.out.ret_call HTC.out.1 HTC.out.2.1 HTC.out.2.2.1 HTC.out.2.2.2.1 (Q := ImgQ C most n.sort) (id := id') (er := e') (by rw [HSort.out]; exact HTC.out.2.2.2.2)
  exact HLow.out _ _ hout
set_option maxRecDepth 100000 in
set_option maxHeartbeats 8000000 in
theorem image_2 {C : List Nd} {w : World} {A : Option Addr} (c : Nat) {n : Nd} {V : List Int} {VA : Option Addr} (vc : Nat) (most : Int) (hw : Well C) (hi : IteOk C) (hV : Row w VA V) (ho : ArgsOk C n V) (hop : n.op = 2) (hc : C.length ≤ c) (h : Tab w A C) (hl : C.length < 50000) (hm : most < 50000) :
    Calls Tryz.prog 74 #[.agg #[.slice A C.length c], nodeVal n, .slice VA V.length vc, .int .i64 most] w (OutT A C (ImgQ C most n.sort) w) := by
  have hl0 : C.length < 100000 := by omega
  obtain ⟨w', hw'⟩ : ∃ w', w.alloc (.cells #[.slice A C.length c] 33) = w' := ⟨_, rfl⟩
  have HSZ : Hid (w'.heap.size = w.heap.size + 1) := zzh (by rw [← hw']; simp)
  obtain ⟨w0, hw0⟩ : ∃ w0, (w'.alloc (.cells (nodeCells n).toArray 51)).alloc (.cells #[.slice none 0 0] 33) = w0 := ⟨_, rfl⟩
  have HX0 : Hid (MX w' A C w.heap.size A C c w0) := zzh (by rw [← hw0, ← hw']; exact MX.start2 h hc _ _)
  have HN0 : Hid (Blk w0 w'.heap.size 51 (nodeCells n).toArray) := zzh (by rw [← hw0]; exact (Blk.new w' _ _).alloc _)
  have HB0 : Hid (Below w.heap.size w w0) := zzh (by rw [← hw0, ← hw']; exact (((Below.refl _ w).alloc (Nat.le_refl _) _).alloc (by simp) _).alloc (by simp; omega) _)
  have HV := zzh (hV.below HB0.out)
  have HW := zzh hw
  have HI := zzh hi
  have HL := zzh hl
  have HM := zzh hm
  have HL0 := zzh hl0
  have HO := zzh ho
  have hlow : ∀ e W, OutT A C (ImgQ C most n.sort) w' e W → OutT A C (ImgQ C most n.sort) w e W := fun e W h => by rw [← hw'] at h; exact h.low
  have HLow := zzh hlow
  obtain ⟨n0, n1, n2, n3, n4, n5, n6, n7⟩ : w0.cell? ⟨w'.heap.size, 0, none⟩ = some (.int .i8 n.op) ∧ w0.cell? ⟨w'.heap.size, 1, none⟩ = some (.int .i8 n.len) ∧ w0.cell? ⟨w'.heap.size, 2, none⟩ = some (.int .i64 n.a0) ∧ w0.cell? ⟨w'.heap.size, 3, none⟩ = some (.int .i64 n.a1) ∧ w0.cell? ⟨w'.heap.size, 4, none⟩ = some (.int .i64 n.a2) ∧ w0.cell? ⟨w'.heap.size, 5, none⟩ = some (.int .i64 n.sort) ∧ w0.cell? ⟨w'.heap.size, 6, none⟩ = some (.int .i64 n.fn) ∧ w0.cell? ⟨w'.heap.size, 7, none⟩ = some (.int .i64 n.num) := ⟨HN0.out.cell 0, HN0.out.cell 1, HN0.out.cell 2, HN0.out.cell 3, HN0.out.cell 4, HN0.out.cell 5, HN0.out.cell 6, HN0.out.cell 7⟩
  obtain ⟨s0, s1, s2, s3⟩ := HX0.out.cells
  have HSort : Hid (n.sort = 0) := zzh (by
    have := ho.srt (by omega)
    rw [hop] at this
    unfold opL at this
    split at this
    · unfold opSort at this
      simp at this
      omega
    · cases this)
  have HS' : Hid (∀ m ∈ C, 0 ≤ m.sort) := zzh (fun m hm => by obtain ⟨_, _, _, hst⟩ := hw.core.ok.stands hm; exact hst.srt.1)
  simp only [nodeVal, nodeCells] at hw0 ⊢
  have KD := zzh (cput_ok (w := w0) c (op := n.op) (by rw [hop]; exact .inr (.inr (.inl rfl))) most (V := V) vc HX0.out.hc HX0.out.tab HS'.out HL0.out HV.out HO.out.three HO.out.inn)
  have HP2 := zzh (fun he => And.intro (putL_img HW.out HI.out (op := n.op) (V := V) (most := most) (by omega) (fun e => by omega) (fun e => by omega) he).1 (putL_most he))
  have d0 : (n.op == 0) = false := by simp [hop]
  have d1 : (n.op == 1) = false := by simp [hop]
  have d2 : (n.op == 2) = true := by simp [hop]
  have d3 : (n.op == 3) = false := by simp [hop]
  have d4 : (n.op == 4) = false := by simp [hop]
  have d5 : (n.op == 5) = false := by simp [hop]
  have d6 : (n.op == 6) = false := by simp [hop]
  have d7 : (n.op == 7) = false := by simp [hop]
  have d8 : (n.op == 8) = false := by simp [hop]
  have d9 : (n.op == 9) = false := by simp [hop]
  have d10 : (n.op == 10) = false := by simp [hop]
  have d11 : (n.op == 11) = false := by simp [hop]
  have d12 : (n.op == 12) = false := by simp [hop]
  have d13 : (n.op == 13) = false := by simp [hop]
  clear hw hi hV ho hc h hl hm hl0 hlow HN0 hop
  go_enter Tryz.func74, Tryz.ntmps74
  go_wp2_with fail
  refine KD.out.mono ?_
  rintro e w3 ⟨A', c', rfl, ht, hc', hf, hb3⟩
  generalize putL C n.op V most = r at *
  obtain ⟨T', id', e'⟩ := r
  dsimp only at HP2 ht hc' ⊢
  have hq : ImgQ C most 0 T' id' e' := fun he => HP2.out he
  have HTC := zzh (And.intro hb3 (And.intro ht (And.intro hc' (And.intro hf hq))))
  have HY := zzh (HX0.out.below hb3)
  obtain ⟨q0, q1, q2, q3⟩ := HY.out.cells
  clear ht hc' hf hq hb3 KD s0 s1 s2 s3
  go_wp2
  have hres := HY.out.res (.slice A' T'.length c')
  refine bodyPost_ret (v := .tuple #[.agg #[.slice A' T'.length c'], .int .i64 id', .int .i64 e']) (by simp [results, Tryz.results74, go_sem, hres]) rfl ?_
  have hout := HX0.out.ret_call HTC.out.1 HTC.out.2.1 HTC.out.2.2.1 HTC.out.2.2.2.1 (Q := ImgQ C most n.sort) (id := id') (er := e') (by rw [HSort.out]; exact HTC.out.2.2.2.2)
  exact HLow.out _ _ hout
set_option maxRecDepth 100000 in
set_option maxHeartbeats 8000000 in
theorem image_3 {C : List Nd} {w : World} {A : Option Addr} (c : Nat) {n : Nd} {V : List Int} {VA : Option Addr} (vc : Nat) (most : Int) (hw : Well C) (hi : IteOk C) (hV : Row w VA V) (ho : ArgsOk C n V) (hop : n.op = 3) (hc : C.length ≤ c) (h : Tab w A C) (hl : C.length < 50000) (hm : most < 50000) :
    Calls Tryz.prog 74 #[.agg #[.slice A C.length c], nodeVal n, .slice VA V.length vc, .int .i64 most] w (OutT A C (ImgQ C most n.sort) w) := by
  have hl0 : C.length < 100000 := by omega
  obtain ⟨w', hw'⟩ : ∃ w', w.alloc (.cells #[.slice A C.length c] 33) = w' := ⟨_, rfl⟩
  have HSZ : Hid (w'.heap.size = w.heap.size + 1) := zzh (by rw [← hw']; simp)
  obtain ⟨w0, hw0⟩ : ∃ w0, (w'.alloc (.cells (nodeCells n).toArray 51)).alloc (.cells #[.slice none 0 0] 33) = w0 := ⟨_, rfl⟩
  have HX0 : Hid (MX w' A C w.heap.size A C c w0) := zzh (by rw [← hw0, ← hw']; exact MX.start2 h hc _ _)
  have HN0 : Hid (Blk w0 w'.heap.size 51 (nodeCells n).toArray) := zzh (by rw [← hw0]; exact (Blk.new w' _ _).alloc _)
  have HB0 : Hid (Below w.heap.size w w0) := zzh (by rw [← hw0, ← hw']; exact (((Below.refl _ w).alloc (Nat.le_refl _) _).alloc (by simp) _).alloc (by simp; omega) _)
  have HV := zzh (hV.below HB0.out)
  have HW := zzh hw
  have HI := zzh hi
  have HL := zzh hl
  have HM := zzh hm
  have HL0 := zzh hl0
  have HO := zzh ho
  have hlow : ∀ e W, OutT A C (ImgQ C most n.sort) w' e W → OutT A C (ImgQ C most n.sort) w e W := fun e W h => by rw [← hw'] at h; exact h.low
  have HLow := zzh hlow
  obtain ⟨n0, n1, n2, n3, n4, n5, n6, n7⟩ : w0.cell? ⟨w'.heap.size, 0, none⟩ = some (.int .i8 n.op) ∧ w0.cell? ⟨w'.heap.size, 1, none⟩ = some (.int .i8 n.len) ∧ w0.cell? ⟨w'.heap.size, 2, none⟩ = some (.int .i64 n.a0) ∧ w0.cell? ⟨w'.heap.size, 3, none⟩ = some (.int .i64 n.a1) ∧ w0.cell? ⟨w'.heap.size, 4, none⟩ = some (.int .i64 n.a2) ∧ w0.cell? ⟨w'.heap.size, 5, none⟩ = some (.int .i64 n.sort) ∧ w0.cell? ⟨w'.heap.size, 6, none⟩ = some (.int .i64 n.fn) ∧ w0.cell? ⟨w'.heap.size, 7, none⟩ = some (.int .i64 n.num) := ⟨HN0.out.cell 0, HN0.out.cell 1, HN0.out.cell 2, HN0.out.cell 3, HN0.out.cell 4, HN0.out.cell 5, HN0.out.cell 6, HN0.out.cell 7⟩
  obtain ⟨s0, s1, s2, s3⟩ := HX0.out.cells
  have HSort : Hid (n.sort = 0) := zzh (by
    have := ho.srt (by omega)
    rw [hop] at this
    unfold opL at this
    split at this
    · unfold opSort at this
      simp at this
      omega
    · cases this)
  have HS' : Hid (∀ m ∈ C, 0 ≤ m.sort) := zzh (fun m hm => by obtain ⟨_, _, _, hst⟩ := hw.core.ok.stands hm; exact hst.srt.1)
  simp only [nodeVal, nodeCells] at hw0 ⊢
  have KD := zzh (cput_ok (w := w0) c (op := n.op) (by rw [hop]; exact .inr (.inr (.inr (.inl rfl)))) most (V := V) vc HX0.out.hc HX0.out.tab HS'.out HL0.out HV.out HO.out.three HO.out.inn)
  have HP2 := zzh (fun he => And.intro (putL_img HW.out HI.out (op := n.op) (V := V) (most := most) (by omega) (fun e => by omega) (fun e => by omega) he).1 (putL_most he))
  have d0 : (n.op == 0) = false := by simp [hop]
  have d1 : (n.op == 1) = false := by simp [hop]
  have d2 : (n.op == 2) = false := by simp [hop]
  have d3 : (n.op == 3) = true := by simp [hop]
  have d4 : (n.op == 4) = false := by simp [hop]
  have d5 : (n.op == 5) = false := by simp [hop]
  have d6 : (n.op == 6) = false := by simp [hop]
  have d7 : (n.op == 7) = false := by simp [hop]
  have d8 : (n.op == 8) = false := by simp [hop]
  have d9 : (n.op == 9) = false := by simp [hop]
  have d10 : (n.op == 10) = false := by simp [hop]
  have d11 : (n.op == 11) = false := by simp [hop]
  have d12 : (n.op == 12) = false := by simp [hop]
  have d13 : (n.op == 13) = false := by simp [hop]
  clear hw hi hV ho hc h hl hm hl0 hlow HN0 hop
  go_enter Tryz.func74, Tryz.ntmps74
  go_wp2_with fail
  refine KD.out.mono ?_
  rintro e w3 ⟨A', c', rfl, ht, hc', hf, hb3⟩
  generalize putL C n.op V most = r at *
  obtain ⟨T', id', e'⟩ := r
  dsimp only at HP2 ht hc' ⊢
  have hq : ImgQ C most 0 T' id' e' := fun he => HP2.out he
  have HTC := zzh (And.intro hb3 (And.intro ht (And.intro hc' (And.intro hf hq))))
  have HY := zzh (HX0.out.below hb3)
  obtain ⟨q0, q1, q2, q3⟩ := HY.out.cells
  clear ht hc' hf hq hb3 KD s0 s1 s2 s3
  go_wp2
  have hres := HY.out.res (.slice A' T'.length c')
  refine bodyPost_ret (v := .tuple #[.agg #[.slice A' T'.length c'], .int .i64 id', .int .i64 e']) (by simp [results, Tryz.results74, go_sem, hres]) rfl ?_
  have hout := HX0.out.ret_call HTC.out.1 HTC.out.2.1 HTC.out.2.2.1 HTC.out.2.2.2.1 (Q := ImgQ C most n.sort) (id := id') (er := e') (by rw [HSort.out]; exact HTC.out.2.2.2.2)
  exact HLow.out _ _ hout
end Go.Proofs.YtlipnnibagidiaaGreat

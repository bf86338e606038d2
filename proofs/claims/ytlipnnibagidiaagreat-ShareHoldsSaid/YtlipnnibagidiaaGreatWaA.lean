/- gantryref12.walk: the work as it lies. -/
import Derived.Test.YtlipnnibagidiaaGreatImJ
namespace Go.Proofs.YtlipnnibagidiaaGreat
open Go.RowKit Go.Lib
def icells (n : Nd) (V : List Int) (i : Nat) : Array Value :=
  #[.int .i8 n.op, .int .i8 n.len, .int .i64 (if 0 < i then V[0]?.getD 0 else 0), .int .i64 (if 1 < i then V[1]?.getD 0 else 0), .int .i64 (if 2 < i then V[2]?.getD 0 else 0), .int .i64 n.sort, .int .i64 n.fn, .int .i64 n.num]
def argNd (n : Nd) (V : List Int) : Nd := ⟨n.op, n.len, V[0]?.getD 0, V[1]?.getD 0, V[2]?.getD 0, n.sort, n.fn, n.num⟩
theorem icells_all (n : Nd) (V : List Int) : icells n V V.length = (nodeCells (argNd n V)).toArray := by
  have e : ∀ j : Nat, (if j < V.length then V[j]?.getD 0 else 0) = V[j]?.getD 0 := fun j => by
    split
    · rfl
    · rw [List.getElem?_eq_none (by omega)]
      rfl
  simp [icells, nodeCells, argNd, e]
theorem argNd_wf {C : List Nd} {n : Nd} {V : List Int} (h : ArgsOk C n V) (hl : C.length < 100000) : NdWf (argNd n V) := by
  have e : ∀ j : Nat, -9223372036854775808 ≤ V[j]?.getD 0 ∧ V[j]?.getD 0 ≤ 9223372036854775807 := fun j => by
    by_cases hj : j < V.length
    · rw [List.getElem?_eq_getElem hj]
      have := h.inn _ (List.getElem_mem hj)
      show -9223372036854775808 ≤ V[j] ∧ V[j] ≤ 9223372036854775807
      omega
    · rw [List.getElem?_eq_none (by omega)]
      exact ⟨by decide, by decide⟩
  refine ⟨h.wf.op, h.wf.len, fun j => ?_, h.wf.sort, h.wf.fn, h.wf.num⟩
  unfold Nd.arg
  repeat' split
  · exact e 0
  · exact e 1
  · exact e 2
theorem app_img {C : List Nd} (h : Well C) (hi : IteOk C) {n : Nd} (hop : n.op = 13) {V : List Int} {most : Int} (he : (putT C (argNd n V) most).e = 0) : ImgS C (putT C (argNd n V) most).T (putT C (argNd n V) most).id n.sort := by
  have h13 : (argNd n V).op = 13 := hop
  have := put1_of (n := argNd n V) h (fun ho => by omega) (by unfold fitB; simp [h13]) (fun ho => absurd h13 ho) (fun ho => by omega) (by omega) he
  exact ⟨this.1.img h hi, by rw [this.2]; rfl⟩
set_option maxRecDepth 100000 in
set_option maxHeartbeats 8000000 in
theorem image_13 {C : List Nd} {w : World} {A : Option Addr} (c : Nat) {n : Nd} {V : List Int} {VA : Option Addr} (vc : Nat) (most : Int) (hw : Well C) (hi : IteOk C) (hV : Row w VA V) (ho : ArgsOk C n V) (hop : n.op = 13) (hc : C.length ≤ c) (h : Tab w A C) (hl : C.length < 50000) (hm : most < 50000) :
    Calls Tryz.prog 74 #[.agg #[.slice A C.length c], nodeVal n, .slice VA V.length vc, .int .i64 most] w (OutT A C (ImgQ C most n.sort) w) := by
  have hl0 : C.length < 100000 := by omega
  obtain ⟨w', hw'⟩ : ∃ w', w.alloc (.cells #[.slice A C.length c] 33) = w' := ⟨_, rfl⟩
  have HSZ : Hid (w'.heap.size = w.heap.size + 1) := zzh (by rw [← hw']; simp)
  obtain ⟨w0, hw0⟩ : ∃ w0, (w'.alloc (.cells (nodeCells n).toArray 51)).alloc (.cells #[.slice none 0 0] 33) = w0 := ⟨_, rfl⟩
  have HX0 : Hid (MX w' A C w.heap.size A C c w0) := zzh (by rw [← hw0, ← hw']; exact MX.start2 h hc _ _)
  have HN0 : Hid (Blk w0 w'.heap.size 51 (nodeCells n).toArray) := zzh (by rw [← hw0]; exact (Blk.new w' _ _).alloc _)
  have HB0 : Hid (Below w.heap.size w w0) := zzh (by rw [← hw0, ← hw']; exact (((Below.refl _ w).alloc (Nat.le_refl _) _).alloc (by simp) _).alloc (by simp; omega) _)
  have HV := zzh (hV.below HB0.out)
  have HW := zzh hw
  have HI := zzh hi
  have HL := zzh hl
  have HM := zzh hm
  have HL0 := zzh hl0
  have HO := zzh ho
  have hlow : ∀ e W, OutT A C (ImgQ C most n.sort) w' e W → OutT A C (ImgQ C most n.sort) w e W := fun e W h => by rw [← hw'] at h; exact h.low
  have HLow := zzh hlow
  obtain ⟨n0, n1, n2, n3, n4, n5, n6, n7⟩ : w0.cell? ⟨w'.heap.size, 0, none⟩ = some (.int .i8 n.op) ∧ w0.cell? ⟨w'.heap.size, 1, none⟩ = some (.int .i8 n.len) ∧ w0.cell? ⟨w'.heap.size, 2, none⟩ = some (.int .i64 n.a0) ∧ w0.cell? ⟨w'.heap.size, 3, none⟩ = some (.int .i64 n.a1) ∧ w0.cell? ⟨w'.heap.size, 4, none⟩ = some (.int .i64 n.a2) ∧ w0.cell? ⟨w'.heap.size, 5, none⟩ = some (.int .i64 n.sort) ∧ w0.cell? ⟨w'.heap.size, 6, none⟩ = some (.int .i64 n.fn) ∧ w0.cell? ⟨w'.heap.size, 7, none⟩ = some (.int .i64 n.num) := ⟨HN0.out.cell 0, HN0.out.cell 1, HN0.out.cell 2, HN0.out.cell 3, HN0.out.cell 4, HN0.out.cell 5, HN0.out.cell 6, HN0.out.cell 7⟩
  obtain ⟨s0, s1, s2, s3⟩ := HX0.out.cells
  simp only [nodeVal, nodeCells] at hw0 ⊢
  have d0 : (n.op == 0) = false := by simp [hop]
  have d1 : (n.op == 1) = false := by simp [hop]
  have d2 : (n.op == 2) = false := by simp [hop]
  have d3 : (n.op == 3) = false := by simp [hop]
  have d4 : (n.op == 4) = false := by simp [hop]
  have d5 : (n.op == 5) = false := by simp [hop]
  have d6 : (n.op == 6) = false := by simp [hop]
  have d7 : (n.op == 7) = false := by simp [hop]
  have d8 : (n.op == 8) = false := by simp [hop]
  have d9 : (n.op == 9) = false := by simp [hop]
  have d10 : (n.op == 10) = false := by simp [hop]
  have d11 : (n.op == 11) = false := by simp [hop]
  have d12 : (n.op == 12) = false := by simp [hop]
  have d13 : (n.op == 13) = true := by simp [hop]
  have HOp := zzh hop
  clear hw hi hV ho hc h hl hm hl0 hlow HN0 hop
  go_enter Tryz.func74, Tryz.ntmps74
  go_wp2
  have HXI := zzh (HX0.out.below (show Below w0.heap.size w0 (w0.alloc (.cells (icells n V 0) 51)) from (Below.refl _ w0).alloc (Nat.le_refl _) _))
  have HNI := zzh (Blk.new w0 51 (icells n V 0))
  have HRI := zzh (HV.out.below (show Below w0.heap.size w0 (w0.alloc (.cells (icells n V 0) 51)) from (Below.refl _ w0).alloc (Nat.le_refl _) _))
  have HV0 : Hid (∀ b off, VA = some ⟨b, off, none⟩ → 0 < V.length → b < w0.heap.size) := zzh (fun b off e h0 => by
    obtain ⟨b2, o2, e2, hb, _⟩ := HV.out.at_.resolve_left (by omega)
    rw [e2] at e
    injection e with e
    injection e with e
    omega)
  have h3 := HO.out.three
  clear s0 s1 s2 s3 n0 n1 n2 n3 n4 n5 n6 n7 hw0
  go_loopg [12] V.length (fun gg v W => ∃ i : Nat, i + gg = V.length ∧ v = .int .i64 i ∧ MX w' A C w.heap.size A C c W ∧ Blk W w0.heap.size 51 (icells n V i) ∧ Row W VA V)
  case atStart => exact ⟨0, by omega, rfl, HXI.out, HNI.out, HRI.out⟩
  case round =>
    obtain ⟨i, hig, rfl, hx, hn, hr⟩ := hrel
    have HX := zzh hx
    have HN := zzh hn
    have HR := zzh hr
    clear hx hn hr HXI HNI HRI
    cases gk with
    | zero =>
      obtain rfl : i = V.length := by omega
      have e1 : decide ((V.length : Int) < V.length) = false := by simp
      have hnn := HN.out
      rw [icells_all] at hnn
      obtain ⟨n0, n1, n2, n3, n4, n5, n6, n7⟩ : wr.cell? ⟨w0.heap.size, 0, none⟩ = some (.int .i8 n.op) ∧ wr.cell? ⟨w0.heap.size, 1, none⟩ = some (.int .i8 n.len) ∧ wr.cell? ⟨w0.heap.size, 2, none⟩ = some (.int .i64 (V[0]?.getD 0)) ∧ wr.cell? ⟨w0.heap.size, 3, none⟩ = some (.int .i64 (V[1]?.getD 0)) ∧ wr.cell? ⟨w0.heap.size, 4, none⟩ = some (.int .i64 (V[2]?.getD 0)) ∧ wr.cell? ⟨w0.heap.size, 5, none⟩ = some (.int .i64 n.sort) ∧ wr.cell? ⟨w0.heap.size, 6, none⟩ = some (.int .i64 n.fn) ∧ wr.cell? ⟨w0.heap.size, 7, none⟩ = some (.int .i64 n.num) := ⟨hnn.cell 0, hnn.cell 1, hnn.cell 2, hnn.cell 3, hnn.cell 4, hnn.cell 5, hnn.cell 6, hnn.cell 7⟩
      obtain ⟨s0, s1, s2, s3⟩ := HX.out.cells
      have KD : Hid (Calls Tryz.prog 123 #[.agg #[.slice A C.length c], .agg #[.int .i8 n.op, .int .i8 n.len, .int .i64 (V[0]?.getD 0), .int .i64 (V[1]?.getD 0), .int .i64 (V[2]?.getD 0), .int .i64 n.sort, .int .i64 n.fn, .int .i64 n.num], .int .i64 most] wr (PutIs A C (putT C (argNd n V) most) wr)) := zzh (rput_ok c (argNd n V) (argNd_wf HO.out HL0.out) most HX.out.hc HX.out.tab HL0.out)
      have HP2 := zzh (fun he => And.intro (app_img HW.out HI.out HOp.out (V := V) (most := most) he) (putT_most he))
      clear hnn
      go_wp2_with fail
      refine KD.out.mono ?_
      rintro e w3 ⟨A', c', rfl, ht, hc', hf, hb3⟩
      clear KD
      generalize putT C (argNd n V) most = r at *
      obtain ⟨T', id', e'⟩ := r
      dsimp only at HP2 ht hc' ⊢
      have hq : ImgQ C most n.sort T' id' e' := fun he => HP2.out he
      have HTC := zzh (And.intro hb3 (And.intro ht (And.intro hc' (And.intro hf hq))))
      have HY := zzh (HX.out.below hb3)
      clear ht hc' hf hq hb3 s0 s1 s2 s3 n0 n1 n2 n3 n4 n5 n6 n7
      obtain ⟨q0, q1, q2, q3⟩ := HY.out.cells
      go_wp2
      have hres := HY.out.res (.slice A' T'.length c')
      refine bodyPost_ret (v := .tuple #[.agg #[.slice A' T'.length c'], .int .i64 id', .int .i64 e']) (by simp [results, Tryz.results74, go_sem, hres]) rfl ?_
      exact HLow.out _ _ (HX.out.ret_call HTC.out.1 HTC.out.2.1 HTC.out.2.2.1 HTC.out.2.2.2.1 HTC.out.2.2.2.2)
    | succ gk =>
      have hlt : i < V.length := by omega
      have e1 : decide ((i : Int) < V.length) = true := by simp; omega
      have t1 : (0 : Int) ≤ (i : Int) := by omega
      have t2 : (i : Int) < (V.length : Int) := by omega
      obtain ⟨b, off, hVA, hbb, hcell⟩ := HR.out.at_.resolve_left (by omega)
      have y0 := hcell i hlt
      have hbw := HV0.out b off hVA (by omega)
      have HBW := zzh hbw
      subst hVA
      have n0 := HN.out.cell 2
      have n1 := HN.out.cell 3
      have n2 := HN.out.cell 4
      have f0 := HN.out.frozen 2
      have f1 := HN.out.frozen 3
      have f2 := HN.out.frozen 4
      simp only [icells, zzg, zzi, zzj] at n0 n1 n2
      have HNx : Hid (∀ x, V[i]? = some x → MX w' A C w.heap.size A C c (wr.setCell ⟨w0.heap.size, 2 + i, none⟩ (.int .i64 x)) ∧ Blk (wr.setCell ⟨w0.heap.size, 2 + i, none⟩ (.int .i64 x)) w0.heap.size 51 (icells n V (i + 1)) ∧ Row (wr.setCell ⟨w0.heap.size, 2 + i, none⟩ (.int .i64 x)) (some ⟨b, off, none⟩) V) := zzh (fun x hx => by
        have hk := Kept.set1 wr w0.heap.size (2 + i) (.int .i64 x)
        refine ⟨⟨HX.out.t.kept hk (by have := HX0.out.t.lt; omega), HX.out.r.kept hk (by have := HX0.out.r.lt; omega), HX.out.hp, HX.out.tab.kept0 hk (fun b e h0 => by have := Tab.lt (e ▸ HX0.out.tab) h0; omega), HX.out.fr, HX.out.hc, HX.out.bel.setCell (by have := HX0.out.bel.size; show w'.heap.size ≤ w0.heap.size; omega) _⟩, ?_, ?_⟩
        · have hn := HN.out.set_ (2 + i) (.int .i64 x)
          have e : (icells n V i).setIfInBounds (2 + i) (.int .i64 x) = icells n V (i + 1) := by
            rcases (show i = 0 ∨ i = 1 ∨ i = 2 by omega) with rfl | rfl | rfl <;> simp [icells, hx]
          rwa [e] at hn
        · refine ⟨HR.out.len, .inr ⟨b, off, rfl, Nat.lt_of_lt_of_le hbb hk.size, fun q hq => ?_⟩⟩
          rw [← hcell q hq]
          unfold World.cell?
          rw [Below.heap_setCell wr _ _ b (by show b ≠ w0.heap.size; omega)])
      have hv : V[i]? = some V[i] := List.getElem?_eq_getElem hlt
      have HXx := zzh (HNx.out _ hv)
      clear hcell hbw hv HNx
      generalize V[i] = x at *
      have hi3 : i = 0 ∨ i = 1 ∨ i = 2 := by omega
      rcases hi3 with rfl | rfl | rfl
      all_goals first | rw [Nat.add_zero] at y0 | skip
      all_goals go_wp2
      all_goals
        go_roundg gk
        case measure => omega
      · exact ⟨1, by omega, by go_num, HXx.out.1, HXx.out.2.1, HXx.out.2.2⟩
      · exact ⟨2, by omega, by go_num, HXx.out.1, HXx.out.2.1, HXx.out.2.2⟩
      · exact ⟨3, by omega, by go_num, HXx.out.1, HXx.out.2.1, HXx.out.2.2⟩
end Go.Proofs.YtlipnnibagidiaaGreat
namespace Go.Proofs.YtlipnnibagidiaaGreat
structure ImgsOk (T C : List Nd) (I : List Int) : Prop where
  len : I.length = T.length
  at_ : ∀ (i : Nat) (x : Int), I[i]? = some x → x = -1 ∨ (0 ≤ x ∧ x < C.length ∧ (ndAt C x).sort = (ndAt T i).sort)
theorem ImgsOk.ext {T C C' : List Nd} {I : List Int} (h : ImgsOk T C I) (hx : Ext C C') : ImgsOk T C' I :=
  ⟨h.len, fun i x e => (h.at_ i x e).imp id fun ⟨h0, h1, h2⟩ => ⟨h0, by have := hx.len; omega, by rw [hx.at_ h0 h1]; exact h2⟩⟩
theorem ImgsOk.set {T C : List Nd} {I : List Int} (h : ImgsOk T C I) {k : Nat} {x : Int} (h0 : 0 ≤ x) (h1 : x < C.length) (h2 : (ndAt C x).sort = (ndAt T k).sort) : ImgsOk T C (I.set k x) := by
  refine ⟨by rw [List.length_set]; exact h.len, fun i y e => ?_⟩
  rw [List.getElem?_set] at e
  by_cases hik : k = i
  · subst hik
    rw [if_pos rfl] at e
    split at e
    · injection e with e
      subst e
      exact .inr ⟨h0, h1, h2⟩
    · cases e
  · rw [if_neg hik] at e
    exact h.at_ i y e
theorem ImgsOk.new (T C : List Nd) : ImgsOk T C (List.replicate T.length (-1)) := by
  refine ⟨by simp, fun i x e => ?_⟩
  rw [List.getElem?_replicate] at e
  split at e
  · injection e with e
    exact .inl e.symm
  · cases e
structure Keeps (I I' : List Int) : Prop where
  len : I'.length = I.length
  at_ : ∀ (i : Nat) (x : Int), I[i]? = some x → 0 ≤ x → I'[i]? = some x
theorem Keeps.refl (I : List Int) : Keeps I I := ⟨rfl, fun _ _ e _ => e⟩
theorem Keeps.trans {I I' I2 : List Int} (h : Keeps I I') (k : Keeps I' I2) : Keeps I I2 := ⟨by rw [k.len, h.len], fun i x e h0 => k.at_ i x (h.at_ i x e h0) h0⟩
theorem Keeps.set {I : List Int} {k : Nat} (x : Int) (hn : ∀ y, I[k]? = some y → y < 0) : Keeps I (I.set k x) := by
  refine ⟨by rw [List.length_set], fun i y e h0 => ?_⟩
  rw [List.getElem?_set]
  by_cases hik : k = i
  · subst hik
    have := hn y e
    omega
  · rw [if_neg hik]
    exact e
def ArgImgs (n : Nd) (I V : List Int) : Prop := ∀ (j : Nat) (x : Int), V[j]? = some x → 0 ≤ x ∧ 0 ≤ n.arg j ∧ I[(n.arg j).toNat]? = some x
theorem ArgImgs.nil (n : Nd) (I : List Int) : ArgImgs n I [] := fun j x e => by simp at e
theorem ArgImgs.keeps {n : Nd} {I I' V : List Int} (h : ArgImgs n I V) (k : Keeps I I') : ArgImgs n I' V := fun j x e => by
  obtain ⟨h0, h1, h2⟩ := h j x e
  exact ⟨h0, h1, k.at_ _ _ h2 h0⟩
theorem ArgImgs.push {n : Nd} {I V : List Int} (h : ArgImgs n I V) {x : Int} (h0 : 0 ≤ x) (h1 : 0 ≤ n.arg V.length) (h2 : I[(n.arg V.length).toNat]? = some x) : ArgImgs n I (V ++ [x]) := fun j y e => by
  rw [List.getElem?_append] at e
  split at e
  · exact h j y e
  · rename_i hj
    have hj' : j - V.length = 0 := by
      have := (List.getElem?_eq_some_iff.1 e).1
      simp at this
      omega
    have : j = V.length := by omega
    subst this
    rw [hj'] at e
    injection e with e
    subst e
    exact ⟨h0, h1, h2⟩
theorem args_ok {T C : List Nd} {I V : List Int} {n : Nd} {a : Int} (hf : fitT T) (hI : ImgsOk T C I) (hn : n ∈ T) (hs : Stands n a) (hw : NdWf n) (hV : (V.length : Int) = n.len) (hA : ArgImgs n I V) : ArgsOk C n V := by
  have hl := hs.len
  have key : ∀ (j : Nat) (x : Int), V[j]? = some x → 0 ≤ x ∧ x < C.length ∧ (ndAt C x).sort = (ndAt T (n.arg j)).sort := fun j x e => by
    obtain ⟨h0, h1, h2⟩ := hA j x e
    rcases hI.at_ _ _ h2 with h3 | h3
    · omega
    · rw [show ((n.arg j).toNat : Int) = n.arg j by omega] at h3
      exact h3
  refine ⟨hw, ?_, hV, fun h13 => ?_, fun x hx => ?_, by omega⟩
  · unfold Op12
    have := arity_ops hs
    omega
  · rw [← hf n hn h13]
    congr 1
    apply List.ext_getElem?
    intro j
    unfold argSorts
    rw [List.getElem?_map, List.getElem?_map]
    by_cases hj : j < V.length
    · rw [List.getElem?_eq_getElem hj, List.getElem?_range (by omega)]
      exact congrArg some (key j V[j] (List.getElem?_eq_getElem hj)).2.2
    · rw [List.getElem?_eq_none (by omega), List.getElem?_eq_none (by simp; omega)]
      rfl
  · obtain ⟨j, hj, e⟩ := List.getElem_of_mem hx
    have := key j x (by rw [List.getElem?_eq_getElem hj, e])
    exact ⟨this.1, this.2.1⟩
end Go.Proofs.YtlipnnibagidiaaGreat
namespace Go.Proofs.YtlipnnibagidiaaGreat
open Go.RowKit Go.Lib
theorem cimage_ok {C : List Nd} {w : World} {A : Option Addr} (c : Nat) {n : Nd} {V : List Int} {VA : Option Addr} (vc : Nat) (most : Int) (hw : Well C) (hi : IteOk C) (hV : Row w VA V) (ho : ArgsOk C n V) (hc : C.length ≤ c) (h : Tab w A C) (hl : C.length < 50000) (hm : most < 50000) :
    Calls Tryz.prog 74 #[.agg #[.slice A C.length c], nodeVal n, .slice VA V.length vc, .int .i64 most] w (OutT A C (ImgQ C most n.sort) w) := by
  rcases ho.ops with (e | e | e | e | e | e | e | e | e | e | e | e | e) | e
  · exact image_0 c vc most hw hi hV ho e hc h hl hm
  · exact image_1 c vc most hw hi hV ho e hc h hl hm
  · exact image_2 c vc most hw hi hV ho e hc h hl hm
  · exact image_3 c vc most hw hi hV ho e hc h hl hm
  · exact image_4 c vc most hw hi hV ho e hc h hl hm
  · exact image_5 c vc most hw hi hV ho e hc h hl hm
  · exact image_6 c vc most hw hi hV ho e hc h hl hm
  · exact image_7 c vc most hw hi hV ho e hc h hl hm
  · exact image_8 c vc most hw hi hV ho e hc h hl hm
  · exact image_9 c vc most hw hi hV ho e hc h hl hm
  · exact image_10 c vc most hw hi hV ho e hc h hl hm
  · exact image_11 c vc most hw hi hV ho e hc h hl hm
  · exact image_12 c vc most hw hi hV ho e hc h hl hm
  · exact image_13 c vc most hw hi hV ho e hc h hl hm
structure WS (W : World) (wk g ic : Nat) (A : Option Addr) (T : List Nd) (CA : Option Addr) (C : List Nd) (cc : Nat) (I : List Int) (most : Int) : Prop where
  blk : Blk W wk 88 #[.slice CA C.length cc, .slice (some ⟨g, 0, none⟩) T.length ic]
  own : OwnL W 0 (.slice (some ⟨g, 0, none⟩) T.length ic) I
  img : ImgsOk T C I
  tab : Tab W A T
  ctab : Tab W CA C
  cap : C.length ≤ cc
  well : Well C
  ite : IteOk C
  most_ : (C.length : Int) ≤ max 2 most
  ne : wk ≠ g
  an : ∀ b, A = some b → 0 < T.length → b.block ≠ wk ∧ b.block ≠ g
  cn : ∀ b, CA = some b → 0 < C.length → b.block ≠ wk ∧ b.block ≠ g
def WkG (wk g : Nat) (b : Nat) : Prop := b = wk ∨ b = g
section
variable {W W2 : World} {wk g ic : Nat} {A : Option Addr} {T : List Nd} {CA CA2 : Option Addr} {C C2 : List Nd} {cc cc2 : Nat} {I : List Int} {most : Int}
theorem WS.own' (h : WS W wk g ic A T CA C cc I most) : W.ownsRow 0 3 1 (.slice (some ⟨g, 0, none⟩) T.length ic) T.length (I.map (Value.int .i64)) := by
  have := h.own
  unfold OwnL at this
  rwa [h.img.len] at this
theorem WS.lt (h : WS W wk g ic A T CA C cc I most) : wk < W.heap.size ∧ g < W.heap.size := ⟨h.blk.lt, (h.own.lt g rfl).2⟩
theorem WS.below (h : WS W wk g ic A T CA C cc I most) (hb : Below W.heap.size W W2) : WS W2 wk g ic A T CA C cc I most :=
  ⟨h.blk.below hb h.blk.lt, own_kept h.own (Kept.of_below (S := fun _ => False) hb) (fun _ _ hf => hf), h.img, h.tab.below hb, h.ctab.below hb, h.cap, h.well, h.ite, h.most_, h.ne, h.an, h.cn⟩
theorem WS.cell (h : WS W wk g ic A T CA C cc I most) {i : Nat} (hi : i < I.length) : W.cell? ⟨g, i, none⟩ = some (.int .i64 I[i]) := by
  rw [h.own'.cellAt i (by rw [h.img.len] at hi; omega), List.getElem?_map, List.getElem?_eq_getElem hi]
  rfl
theorem WS.frozen (h : WS W wk g ic A T CA C cc I most) (i : Nat) : W.frozen? ⟨g, i, none⟩ = false := h.own'.frozenAt i
theorem WS.pos (h : WS W wk g ic A T CA C cc I most) : 0 < C.length := h.well.pos
theorem WS.put (h : WS W wk g ic A T CA C cc I most) (hb : Below W.heap.size W W2) (ht : Tab W2 CA2 C2) (hc : C2.length ≤ cc2) (hf : Fr CA C W CA2) {k : Nat} {x : Int} (hq : ImgS C C2 x (ndAt T k).sort) (hm : (C2.length : Int) ≤ max (C.length : Int) most) :
    WS ((W2.setCell ⟨wk, 0, none⟩ (.slice CA2 C2.length cc2)).setCell ⟨g, k, none⟩ (.int .i64 x)) wk g ic A T CA2 C2 cc2 (I.set k x) most := by
  have h2 := h.below hb
  have hl := h.lt
  have hcn : ∀ b, CA2 = some b → 0 < C2.length → b.block ≠ wk ∧ b.block ≠ g := fun b e _ => by
    rcases hf b e with ⟨e1, h1⟩ | h1
    · exact h.cn b e1 h1
    · omega
  have k1 := Kept.set1 W2 wk 0 (.slice CA2 C2.length cc2)
  have k2 := Kept.set1 (W2.setCell ⟨wk, 0, none⟩ (.slice CA2 C2.length cc2)) g k (.int .i64 x)
  have hb1 := h2.blk.set_ 0 (.slice CA2 C2.length cc2)
  simp only [zza, zzb] at hb1
  have ho1 := own_kept h2.own k1 (fun b e hb => by injection e with e; subst e; exact h.ne hb.symm)
  have hlen : (I.set k x).length = T.length := by rw [List.length_set]; exact h.img.len
  refine ⟨hb1.kept k2 h.ne, ?_, (h.img.ext hq.img.ext).set hq.img.lo hq.img.hi hq.srt, (h2.tab.kept0 k1 fun b e h0 => (h.an b e h0).1).kept0 k2 fun b e h0 => (h.an b e h0).2, (ht.kept0 k1 fun b e h0 => (hcn b e h0).1).kept0 k2 fun b e h0 => (hcn b e h0).2, hc, hq.img.ext.well, hq.img.ite, ?_, h.ne, h.an, hcn⟩
  · unfold OwnL at ho1 ⊢
    rw [h.img.len] at ho1
    rw [hlen, List.map_set]
    exact (ho1.stored k (.int .i64 x)).1
  · have := h.most_
    omega
end
theorem Tab.keptS {S : Nat → Prop} {w w1 : World} {A : Option Addr} {T : List Nd} (h : Tab w A T) (hk : Kept S w w1) (hA : ∀ a, A = some a → 0 < T.length → ¬ S a.block) : Tab w1 A T := by
  rcases h.at_ with h0 | ⟨b, off, h1, h2, h3⟩
  · exact ⟨h.len, .inl h0⟩
  · rcases Nat.eq_zero_or_pos T.length with h0 | h0
    · exact ⟨h.len, .inl h0⟩
    · refine ⟨h.len, .inr ⟨b, off, h1, Nat.lt_of_lt_of_le h2 hk.size, fun j hj => ⟨Nat.lt_of_lt_of_le h2 hk.size, fun x hx => ?_, (h3 j hj).wf⟩⟩⟩
      have := hk.block b h2 (hA _ h1 h0)
      have e : w1.cell? ⟨b, off + j * 8 + x, none⟩ = w.cell? ⟨b, off + j * 8 + x, none⟩ := by unfold World.cell?; rw [this]
      rw [e]
      exact (h3 j hj).cells x hx
theorem WS.kept {S : Nat → Prop} {W W2 : World} {wk g ic : Nat} {A : Option Addr} {T : List Nd} {CA : Option Addr} {C : List Nd} {cc : Nat} {I : List Int} {most : Int} (h : WS W wk g ic A T CA C cc I most) (hk : Kept S W W2) (h1 : ¬ S wk) (h2 : ¬ S g) (h3 : ∀ b, A = some b → 0 < T.length → ¬ S b.block) (h4 : ∀ b, CA = some b → 0 < C.length → ¬ S b.block) : WS W2 wk g ic A T CA C cc I most :=
  ⟨h.blk.kept hk h1, own_kept h.own hk (fun b e => by injection e with e; subst e; exact h2), h.img, h.tab.keptS hk h3, h.ctab.keptS hk h4, h.cap, h.well, h.ite, h.most_, h.ne, h.an, h.cn⟩
structure WkOut (wk g ic : Nat) (A : Option Addr) (T : List Nd) (CA : Option Addr) (C : List Nd) (I : List Int) (most : Int) (id : Nat) (w W' : World) (CA' : Option Addr) (C' : List Nd) (cc' : Nat) (I' : List Int) : Prop where
  ws : WS W' wk g ic A T CA' C' cc' I' most
  ext : Ext C C'
  keeps : Keeps I I'
  img : ∃ x : Int, I'[id]? = some x ∧ 0 ≤ x
  fr : Fr CA C w CA'
def WalkIs (wk g ic : Nat) (A : Option Addr) (T : List Nd) (CA : Option Addr) (C : List Nd) (I : List Int) (most : Int) (id : Nat) (w : World) (e : Ending) (w' : World) : Prop :=
  ∃ er, e = .returned (.int .i64 er) ∧ (er = 0 → ∃ CA' C' cc' I', WkOut wk g ic A T CA C I most id w w' CA' C' cc' I') ∧ Kept (WkG wk g) w w'
end Go.Proofs.YtlipnnibagidiaaGreat

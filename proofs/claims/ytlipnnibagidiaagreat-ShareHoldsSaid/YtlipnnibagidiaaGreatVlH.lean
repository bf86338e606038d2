/- The signature that Check lays anew, name by name. -/
import Derived.Test.YtlipnnibagidiaaGreatVlD
import Derived.Test.YtlipnnibagidiaaGreatQuiet
namespace Go.Proofs.YtlipnnibagidiaaGreat
open Go.RowKit Go.Lib
def FnM.arg (f : FnM) (i : Nat) : Int := if i = 0 then f.a0 else if i = 1 then f.a1 else f.a2
theorem FnM.Wf.arg {f : FnM} (h : f.Wf) (i : Nat) : I64 (f.arg i) := by
  unfold FnM.arg
  split
  · exact h.a0
  · split
    · exact h.a1
    · exact h.a2
def FnM.agg (f : FnM) : Array Value := #[.string f.nm, .int .i64 f.len, .int .i64 f.a0, .int .i64 f.a1, .int .i64 f.a2, .int .i64 f.res]
theorem FnM.agg_arg (f : FnM) {i : Nat} (h : i < 3) : f.agg[2 + i]? = some (.int .i64 (f.arg i)) := by
  match i, h with
  | 0, _ => rfl
  | 1, _ => rfl
  | 2, _ => rfl
set_option maxRecDepth 100000 in
set_option maxHeartbeats 4000000 in
theorem lfunOk_ok {w : World} {g : SigV} {f : FnM} (h : SigAt w g) (hf : f.Wf) : Calls Tryz.prog 145 #[.agg g.cells, .agg f.agg] w (SomeBB w) := by
  obtain ⟨w0, hw0⟩ : ∃ w0, (w.alloc (.cells g.cells 26)).alloc (.cells f.agg 149) = w0 := ⟨_, rfl⟩
  have HB0 : Hid (Below w.heap.size w w0) := zzh (by rw [← hw0]; exact (sig_box w g).alloc (sig_box w g).size _)
  have HG0 : Hid (Blk w0 w.heap.size 26 g.cells) := zzh (by rw [← hw0]; exact (Blk.new w 26 g.cells).alloc _)
  have HF0 : Hid (Blk w0 (w.heap.size + 1) 149 f.agg) := zzh (by rw [← hw0]; exact Blk.new_at (by simp) _ _)
  have H := zzh (h.below HB0.out)
  have HX : Hid (∀ W, Below w0.heap.size w0 W → (W.cell? ⟨w.heap.size, 0, none⟩ = some (.slice g.A0 g.sorts.length g.c0) ∧ W.cell? ⟨w.heap.size, 1, none⟩ = some (.slice g.A1 g.funs.length g.c1) ∧ W.cell? ⟨w.heap.size, 2, none⟩ = some (.slice g.A2 g.macs.length g.c2)) ∧ W.cell? ⟨w.heap.size + 1, 1, none⟩ = some (.int .i64 f.len) ∧ W.cell? ⟨w.heap.size + 1, 5, none⟩ = some (.int .i64 f.res) ∧ ∀ i, i < 3 → W.cell? ⟨w.heap.size + 1, 2 + i, none⟩ = some (.int .i64 (f.arg i))) := zzh (fun W hW => by
    have h2 := HF0.out.below hW HF0.out.lt
    exact ⟨sig_blk (HG0.out.below hW HG0.out.lt), h2.cell 1, h2.cell 5, fun i hi => by rw [h2.cell]; exact FnM.agg_arg f hi⟩)
  have KT := zzh (fun W (hW : Below w0.heap.size w0 W) (z : Int) (hz : I64 z) => there_ok (H.out.below hW) z hz)
  have HWf := zzh hf
  obtain ⟨⟨x0, x1, x2⟩, y1, y5, _⟩ := HX.out w0 (Below.refl _ _)
  clear h hf
  obtain ⟨A0, c0, S, A1, c1, F, A2, c2, M⟩ := g
  obtain ⟨nm, len, a0, a1, a2, res⟩ := f
  unfold SigV.cells FnM.agg at *
  simp only at *
  have HW0 := zzh hw0
  clear hw0 HG0 HF0 H
  have hr := HWf.out.res
  simp only at hr
  go_enter Tryz.func145, Tryz.ntmps145
  go_upto_region 1 with fail
  rw [HW0.out]
  clear HW0
  by_cases hl0 : len < 0
  · have d0 : decide (len < 0) = true := decide_eq_true hl0
    clear hl0
    go_wp2
    go_ret
    exact SomeBB.mk_ _ HB0.out
  have d0 : decide (len < 0) = false := decide_eq_false hl0
  by_cases hl3 : len > 3
  · have d1 : decide (len > 3) = true := decide_eq_true hl3
    have d1' : decide (3 < len) = true := decide_eq_true hl3
    clear hl0 hl3
    go_wp2
    go_ret
    exact SomeBB.mk_ _ HB0.out
  have d1 : decide (len > 3) = false := decide_eq_false hl3
  have d1' : decide (3 < len) = false := decide_eq_false hl3
  go_wp2_with fail
  refine (KT.out _ (Below.refl _ _) _ hr).mono ?_
  rintro e w1 ⟨rfl, hb1⟩
  have HB1 := zzh hb1
  clear hb1 x0 x1 x2 y1 y5 hr d0 d1 d1'
  cases hq : thereM S.length res with
  | false =>
    go_wp2
    go_ret
    exact SomeBB.mk_ _ (HB0.out.trans (HB1.out.mono HB0.out.size))
  | true =>
    clear hq
    go_wp2
    go_loopg [5] 3 (fun g v wr => ∃ i : Nat, i + g = 3 ∧ v = .int .i64 i ∧ Below w0.heap.size w0 wr)
    case atStart => exact ⟨0, by omega, rfl, HB1.out⟩
    case round =>
      obtain ⟨i, hig, rfl, hb⟩ := hrel
      have HB := zzh hb
      clear hb
      cases gk with
      | zero =>
        obtain rfl : i = 3 := by omega
        go_wp2
        go_ret
        exact SomeBB.mk_ _ (HB0.out.trans (HB.out.mono HB0.out.size))
      | succ gk =>
        have hi3 : i < 3 := by omega
        have d2 : decide ((i : Int) < 3) = true := decide_eq_true (by omega)
        have t1 : (0 : Int) ≤ (i : Int) := by omega
        have t2 : (i : Int) < (3 : Int) := by omega
        have hai := HWf.out.arg i
        have HFx : Hid (∀ W, Below wr.heap.size wr W → W.cell? ⟨w.heap.size, 0, none⟩ = some (.slice A0 S.length c0) ∧ W.cell? ⟨w.heap.size, 1, none⟩ = some (.slice A1 F.length c1) ∧ W.cell? ⟨w.heap.size, 2, none⟩ = some (.slice A2 M.length c2) ∧ W.cell? ⟨w.heap.size + 1, 1, none⟩ = some (.int .i64 len) ∧ W.cell? ⟨w.heap.size + 1, 2 + i, none⟩ = some (.int .i64 (FnM.arg ⟨nm, len, a0, a1, a2, res⟩ i))) := zzh (fun W hW => by
          obtain ⟨⟨k0, k1, k2⟩, k3, _, k4⟩ := HX.out W (HB.out.trans (hW.mono HB.out.size))
          exact ⟨k0, k1, k2, k3, k4 i hi3⟩)
        have KI := zzh (fun W (hW : Below wr.heap.size wr W) => KT.out W (HB.out.trans (hW.mono HB.out.size)) _ hai)
        obtain ⟨q, hq⟩ : ∃ q, thereM S.length (FnM.arg ⟨nm, len, a0, a1, a2, res⟩ i) = q := ⟨_, rfl⟩
        rw [hq] at KI
        generalize FnM.arg ⟨nm, len, a0, a1, a2, res⟩ i = ai at *
        clear hai hq
        go_upto_region 6 with fail
        by_cases hil : (i : Int) < len
        · have d3 : decide ((i : Int) < len) = true := decide_eq_true hil
          have d4 : decide ((i : Int) ≥ len) = false := decide_eq_false (by omega)
          have d4' : decide (len ≤ (i : Int)) = false := decide_eq_false (by omega)
          clear hil
          cases q with
          | true =>
            refine wp_region_quiet (C := fun w' => Below wr.heap.size wr w') (by kernel_rfl) (by kernel_rfl) (⟨rfl, rfl, rfl, Nat.le_refl _, fun _ _ => rfl⟩) ?_
            refine QW.lit ?_
            refine qw_want rfl ?_ (fun w' hw' => ?_) ?_
            rotate_left
            · unfold Oper.quietAt
              go_simp
              exact rfl
            simp only [Act.put, zza, zzc, zzb]
            refine qw_want rfl ?_ (fun w' hw' => ?_) ?_
            rotate_left
            · unfold Oper.quietAt
              go_simp
              exact rfl
            simp only [Act.put, zza, zzc, zzb]
            refine qw_want rfl ?_ (fun w' hw' => ?_) ?_
            rotate_left
            · obtain ⟨k0, k1, k2, k3, k4⟩ := HFx.out w' hw'
              unfold Oper.quietAt
              go_simp
              exact rfl
            simp only [Act.put, zza, zzc, zzb]
            refine qw_want rfl ?_ (fun w' hw' => ?_) ?_
            rotate_left
            · unfold Oper.quietAt
              go_simp
              exact rfl
            simp only [Act.put, zza, zzc, zzb]
            refine qw_want rfl ?_ (fun w' hw' => ?_) ?_
            rotate_left
            · unfold Oper.quietAt
              go_simp
              exact rfl
            simp only [Act.put, zza, zzc, zzb]
            refine qw_want rfl ?_ (fun w' hw' => ?_) ?_
            rotate_left
            · obtain ⟨k0, k1, k2, k3, k4⟩ := HFx.out w' hw'
              unfold Oper.quietAt
              go_simp
              exact rfl
            simp only [Act.put, zza, zzc, zzb]
            refine qw_want rfl ?_ (fun w' hw' => ?_) ?_
            rotate_left
            · unfold Oper.quietAt
              go_simp
              exact rfl
            simp only [Act.put, zza, zzc, zzb]
            refine qw_want rfl ?_ (fun w' hw' => ?_) ?_
            rotate_left
            · unfold Oper.quietAt
              go_simp
              exact rfl
            simp only [Act.put, zza, zzc, zzb]
            refine qw_want rfl ?_ (fun w' hw' => ?_) ?_
            rotate_left
            · unfold Oper.quietAt
              go_simp
              exact rfl
            simp only [Act.put, zza, zzc, zzb]
            refine qw_want rfl ?_ (fun w' hw' => ?_) ?_
            rotate_left
            · obtain ⟨k0, k1, k2, k3, k4⟩ := HFx.out w' hw'
              unfold Oper.quietAt
              go_simp
              exact rfl
            simp only [Act.put, zza, zzc, zzb]
            refine qw_want rfl (.bool true) (fun w' hw' => ?_) ?_
            · unfold Oper.quietAt
              go_simp
              refine (KI.out w' hw').mono ?_
              rintro e w2 ⟨rfl, hb⟩
              have hz := below_then hw' (Nat.le_refl _) hb
              exact ⟨rfl, by simpa using hz⟩
            simp only [Act.put, zza, zzc, zzb]
            refine qw_want rfl ?_ (fun w' hw' => ?_) ?_
            rotate_left
            · unfold Oper.quietAt
              go_simp
              exact rfl
            simp only [Act.put, zza, zzc, zzb]
            refine qw_want rfl ?_ (fun w' hw' => ?_) ?_
            rotate_left
            · unfold Oper.quietAt
              go_simp
              exact rfl
            simp only [Act.put, zza, zzc, zzb]
            refine qw_want rfl ?_ (fun w' hw' => ?_) ?_
            rotate_left
            · unfold Oper.quietAt
              go_simp
              exact rfl
            simp only [Act.put, zza, zzc, zzb]
            refine qw_want rfl ?_ (fun w' hw' => ?_) ?_
            rotate_left
            · unfold Oper.quietAt
              go_simp
              exact rfl
            simp only [Act.put, zza, zzc, zzb]
            refine qw_want rfl ?_ (fun w' hw' => ?_) ?_
            rotate_left
            · unfold Oper.quietAt
              go_simp
              exact rfl
            simp only [Act.put, zza, zzc, zzb]
            refine qw_want rfl ?_ (fun w' hw' => ?_) ?_
            rotate_left
            · obtain ⟨k0, k1, k2, k3, k4⟩ := HFx.out w' hw'
              unfold Oper.quietAt
              go_simp
              exact rfl
            simp only [Act.put, zza, zzc, zzb]
            refine qw_want rfl ?_ (fun w' hw' => ?_) ?_
            rotate_left
            · unfold Oper.quietAt
              go_simp
              exact rfl
            simp only [Act.put, zza, zzc, zzb]
            refine qw_want rfl ?_ (fun w' hw' => ?_) ?_
            rotate_left
            · unfold Oper.quietAt
              go_simp
              exact rfl
            simp only [Act.put, zza, zzc, zzb]
            refine qw_skip (by rfl) ?_
            simp only [Act.put, zza, zzc, zzb]
            refine qw_skip (by rfl) ?_
            simp only [Act.put, zza, zzc, zzb]
            refine qw_skip (by rfl) ?_
            simp only [Act.put, zza, zzc, zzb]
            refine qw_skip (by rfl) ?_
            simp only [Act.put, zza, zzc, zzb]
            refine qw_skip (by rfl) ?_
            simp only [Act.put, zza, zzc, zzb]
            refine qw_want rfl ?_ (fun w' hw' => ?_) ?_
            rotate_left
            · unfold Oper.quietAt
              go_simp
              exact rfl
            simp only [Act.put, zza, zzc, zzb]
            refine qw_want rfl ?_ (fun w' hw' => ?_) ?_
            rotate_left
            · unfold Oper.quietAt
              go_simp
              exact rfl
            simp only [Act.put, zza, zzc, zzb]
            refine qw_end (fun w5 hb5 => ?_)
            have HB5 := zzh (HB.out.trans (hb5.mono HB.out.size))
            clear hb5
            go_wp2
            go_roundg gk
            case measure => omega
            case rel => exact ⟨i + 1, by omega, by go_num, HB5.out⟩
          | false =>
            refine wp_region_quiet (C := fun w' => Below wr.heap.size wr w') (by kernel_rfl) (by kernel_rfl) (⟨rfl, rfl, rfl, Nat.le_refl _, fun _ _ => rfl⟩) ?_
            refine QW.lit ?_
            refine qw_want rfl ?_ (fun w' hw' => ?_) ?_
            rotate_left
            · unfold Oper.quietAt
              go_simp
              exact rfl
            simp only [Act.put, zza, zzc, zzb]
            refine qw_want rfl ?_ (fun w' hw' => ?_) ?_
            rotate_left
            · unfold Oper.quietAt
              go_simp
              exact rfl
            simp only [Act.put, zza, zzc, zzb]
            refine qw_want rfl ?_ (fun w' hw' => ?_) ?_
            rotate_left
            · obtain ⟨k0, k1, k2, k3, k4⟩ := HFx.out w' hw'
              unfold Oper.quietAt
              go_simp
              exact rfl
            simp only [Act.put, zza, zzc, zzb]
            refine qw_want rfl ?_ (fun w' hw' => ?_) ?_
            rotate_left
            · unfold Oper.quietAt
              go_simp
              exact rfl
            simp only [Act.put, zza, zzc, zzb]
            refine qw_want rfl ?_ (fun w' hw' => ?_) ?_
            rotate_left
            · unfold Oper.quietAt
              go_simp
              exact rfl
            simp only [Act.put, zza, zzc, zzb]
            refine qw_want rfl ?_ (fun w' hw' => ?_) ?_
            rotate_left
            · obtain ⟨k0, k1, k2, k3, k4⟩ := HFx.out w' hw'
              unfold Oper.quietAt
              go_simp
              exact rfl
            simp only [Act.put, zza, zzc, zzb]
            refine qw_want rfl ?_ (fun w' hw' => ?_) ?_
            rotate_left
            · unfold Oper.quietAt
              go_simp
              exact rfl
            simp only [Act.put, zza, zzc, zzb]
            refine qw_want rfl ?_ (fun w' hw' => ?_) ?_
            rotate_left
            · unfold Oper.quietAt
              go_simp
              exact rfl
            simp only [Act.put, zza, zzc, zzb]
            refine qw_want rfl ?_ (fun w' hw' => ?_) ?_
            rotate_left
            · unfold Oper.quietAt
              go_simp
              exact rfl
            simp only [Act.put, zza, zzc, zzb]
            refine qw_want rfl ?_ (fun w' hw' => ?_) ?_
            rotate_left
            · obtain ⟨k0, k1, k2, k3, k4⟩ := HFx.out w' hw'
              unfold Oper.quietAt
              go_simp
              exact rfl
            simp only [Act.put, zza, zzc, zzb]
            refine qw_want rfl (.bool false) (fun w' hw' => ?_) ?_
            · unfold Oper.quietAt
              go_simp
              refine (KI.out w' hw').mono ?_
              rintro e w2 ⟨rfl, hb⟩
              have hz := below_then hw' (Nat.le_refl _) hb
              exact ⟨rfl, by simpa using hz⟩
            simp only [Act.put, zza, zzc, zzb]
            refine qw_want rfl ?_ (fun w' hw' => ?_) ?_
            rotate_left
            · unfold Oper.quietAt
              go_simp
              exact rfl
            simp only [Act.put, zza, zzc, zzb]
            refine qw_want rfl ?_ (fun w' hw' => ?_) ?_
            rotate_left
            · unfold Oper.quietAt
              go_simp
              exact rfl
            simp only [Act.put, zza, zzc, zzb]
            refine qw_want rfl ?_ (fun w' hw' => ?_) ?_
            rotate_left
            · unfold Oper.quietAt
              go_simp
              exact rfl
            simp only [Act.put, zza, zzc, zzb]
            refine qw_skip (by rfl) ?_
            simp only [Act.put, zza, zzc, zzb]
            refine qw_skip (by rfl) ?_
            simp only [Act.put, zza, zzc, zzb]
            refine qw_skip (by rfl) ?_
            simp only [Act.put, zza, zzc, zzb]
            refine qw_skip (by rfl) ?_
            simp only [Act.put, zza, zzc, zzb]
            refine qw_skip (by rfl) ?_
            simp only [Act.put, zza, zzc, zzb]
            refine qw_skip (by rfl) ?_
            simp only [Act.put, zza, zzc, zzb]
            refine qw_skip (by rfl) ?_
            simp only [Act.put, zza, zzc, zzb]
            refine qw_skip (by rfl) ?_
            simp only [Act.put, zza, zzc, zzb]
            refine qw_skip (by rfl) ?_
            simp only [Act.put, zza, zzc, zzb]
            refine qw_skip (by rfl) ?_
            simp only [Act.put, zza, zzc, zzb]
            refine qw_skip (by rfl) ?_
            simp only [Act.put, zza, zzc, zzb]
            refine qw_want rfl ?_ (fun w' hw' => ?_) ?_
            rotate_left
            · unfold Oper.quietAt
              go_simp
              exact rfl
            simp only [Act.put, zza, zzc, zzb]
            refine qw_end (fun w5 hb5 => ?_)
            have HB5 := zzh (HB.out.trans (hb5.mono HB.out.size))
            clear hb5
            go_wp2
            go_ret
            exact SomeBB.mk_ _ (HB0.out.trans (HB5.out.mono HB0.out.size))
        · have d3 : decide ((i : Int) < len) = false := decide_eq_false hil
          have d4 : decide ((i : Int) ≥ len) = true := decide_eq_true (by omega)
          have d4' : decide (len ≤ (i : Int)) = true := decide_eq_true (by omega)
          clear hil
          cases hz : (ai != 0) with
          | false =>
            refine wp_region_quiet (C := fun w' => Below wr.heap.size wr w') (by kernel_rfl) (by kernel_rfl) (⟨rfl, rfl, rfl, Nat.le_refl _, fun _ _ => rfl⟩) ?_
            refine QW.lit ?_
            refine qw_want rfl ?_ (fun w' hw' => ?_) ?_
            rotate_left
            · unfold Oper.quietAt
              go_simp
              exact rfl
            simp only [Act.put, zza, zzc, zzb]
            refine qw_want rfl ?_ (fun w' hw' => ?_) ?_
            rotate_left
            · unfold Oper.quietAt
              go_simp
              exact rfl
            simp only [Act.put, zza, zzc, zzb]
            refine qw_want rfl ?_ (fun w' hw' => ?_) ?_
            rotate_left
            · obtain ⟨k0, k1, k2, k3, k4⟩ := HFx.out w' hw'
              unfold Oper.quietAt
              go_simp
              exact rfl
            simp only [Act.put, zza, zzc, zzb]
            refine qw_want rfl ?_ (fun w' hw' => ?_) ?_
            rotate_left
            · unfold Oper.quietAt
              go_simp
              exact rfl
            simp only [Act.put, zza, zzc, zzb]
            refine qw_want rfl ?_ (fun w' hw' => ?_) ?_
            rotate_left
            · unfold Oper.quietAt
              go_simp
              exact rfl
            simp only [Act.put, zza, zzc, zzb]
            refine qw_skip (by rfl) ?_
            simp only [Act.put, zza, zzc, zzb]
            refine qw_skip (by rfl) ?_
            simp only [Act.put, zza, zzc, zzb]
            refine qw_skip (by rfl) ?_
            simp only [Act.put, zza, zzc, zzb]
            refine qw_skip (by rfl) ?_
            simp only [Act.put, zza, zzc, zzb]
            refine qw_skip (by rfl) ?_
            simp only [Act.put, zza, zzc, zzb]
            refine qw_skip (by rfl) ?_
            simp only [Act.put, zza, zzc, zzb]
            refine qw_skip (by rfl) ?_
            simp only [Act.put, zza, zzc, zzb]
            refine qw_want rfl ?_ (fun w' hw' => ?_) ?_
            rotate_left
            · unfold Oper.quietAt
              go_simp
              exact rfl
            simp only [Act.put, zza, zzc, zzb]
            refine qw_want rfl ?_ (fun w' hw' => ?_) ?_
            rotate_left
            · unfold Oper.quietAt
              go_simp
              exact rfl
            simp only [Act.put, zza, zzc, zzb]
            refine qw_want rfl ?_ (fun w' hw' => ?_) ?_
            rotate_left
            · unfold Oper.quietAt
              go_simp
              exact rfl
            simp only [Act.put, zza, zzc, zzb]
            refine qw_want rfl ?_ (fun w' hw' => ?_) ?_
            rotate_left
            · unfold Oper.quietAt
              go_simp
              exact rfl
            simp only [Act.put, zza, zzc, zzb]
            refine qw_want rfl ?_ (fun w' hw' => ?_) ?_
            rotate_left
            · obtain ⟨k0, k1, k2, k3, k4⟩ := HFx.out w' hw'
              unfold Oper.quietAt
              go_simp
              exact rfl
            simp only [Act.put, zza, zzc, zzb]
            refine qw_want rfl ?_ (fun w' hw' => ?_) ?_
            rotate_left
            · unfold Oper.quietAt
              go_simp
              exact rfl
            simp only [Act.put, zza, zzc, zzb]
            refine qw_want rfl ?_ (fun w' hw' => ?_) ?_
            rotate_left
            · unfold Oper.quietAt
              go_simp
              exact rfl
            simp only [Act.put, zza, zzc, zzb]
            refine qw_want rfl ?_ (fun w' hw' => ?_) ?_
            rotate_left
            · unfold Oper.quietAt
              go_simp
              exact rfl
            simp only [Act.put, zza, zzc, zzb]
            refine qw_want rfl ?_ (fun w' hw' => ?_) ?_
            rotate_left
            · unfold Oper.quietAt
              go_simp
              exact rfl
            simp only [Act.put, zza, zzc, zzb]
            refine qw_want rfl ?_ (fun w' hw' => ?_) ?_
            rotate_left
            · unfold Oper.quietAt
              go_simp
              exact rfl
            simp only [Act.put, zza, zzc, zzb]
            refine qw_want rfl ?_ (fun w' hw' => ?_) ?_
            rotate_left
            · obtain ⟨k0, k1, k2, k3, k4⟩ := HFx.out w' hw'
              unfold Oper.quietAt
              go_simp
              exact rfl
            simp only [Act.put, zza, zzc, zzb]
            refine qw_want rfl ?_ (fun w' hw' => ?_) ?_
            rotate_left
            · unfold Oper.quietAt
              go_simp
              exact rfl
            simp only [Act.put, zza, zzc, zzb]
            refine qw_want rfl ?_ (fun w' hw' => ?_) ?_
            rotate_left
            · unfold Oper.quietAt
              go_simp
              exact rfl
            simp only [Act.put, zza, zzc, zzb]
            refine qw_want rfl ?_ (fun w' hw' => ?_) ?_
            rotate_left
            · unfold Oper.quietAt
              go_simp
              exact rfl
            simp only [Act.put, zza, zzc, zzb]
            refine qw_end (fun w5 hb5 => ?_)
            have HB5 := zzh (HB.out.trans (hb5.mono HB.out.size))
            clear hb5
            go_wp2
            go_roundg gk
            case measure => omega
            case rel => exact ⟨i + 1, by omega, by go_num, HB5.out⟩
          | true =>
            refine wp_region_quiet (C := fun w' => Below wr.heap.size wr w') (by kernel_rfl) (by kernel_rfl) (⟨rfl, rfl, rfl, Nat.le_refl _, fun _ _ => rfl⟩) ?_
            refine QW.lit ?_
            refine qw_want rfl ?_ (fun w' hw' => ?_) ?_
            rotate_left
            · unfold Oper.quietAt
              go_simp
              exact rfl
            simp only [Act.put, zza, zzc, zzb]
            refine qw_want rfl ?_ (fun w' hw' => ?_) ?_
            rotate_left
            · unfold Oper.quietAt
              go_simp
              exact rfl
            simp only [Act.put, zza, zzc, zzb]
            refine qw_want rfl ?_ (fun w' hw' => ?_) ?_
            rotate_left
            · obtain ⟨k0, k1, k2, k3, k4⟩ := HFx.out w' hw'
              unfold Oper.quietAt
              go_simp
              exact rfl
            simp only [Act.put, zza, zzc, zzb]
            refine qw_want rfl ?_ (fun w' hw' => ?_) ?_
            rotate_left
            · unfold Oper.quietAt
              go_simp
              exact rfl
            simp only [Act.put, zza, zzc, zzb]
            refine qw_want rfl ?_ (fun w' hw' => ?_) ?_
            rotate_left
            · unfold Oper.quietAt
              go_simp
              exact rfl
            simp only [Act.put, zza, zzc, zzb]
            refine qw_skip (by rfl) ?_
            simp only [Act.put, zza, zzc, zzb]
            refine qw_skip (by rfl) ?_
            simp only [Act.put, zza, zzc, zzb]
            refine qw_skip (by rfl) ?_
            simp only [Act.put, zza, zzc, zzb]
            refine qw_skip (by rfl) ?_
            simp only [Act.put, zza, zzc, zzb]
            refine qw_skip (by rfl) ?_
            simp only [Act.put, zza, zzc, zzb]
            refine qw_skip (by rfl) ?_
            simp only [Act.put, zza, zzc, zzb]
            refine qw_skip (by rfl) ?_
            simp only [Act.put, zza, zzc, zzb]
            refine qw_want rfl ?_ (fun w' hw' => ?_) ?_
            rotate_left
            · unfold Oper.quietAt
              go_simp
              exact rfl
            simp only [Act.put, zza, zzc, zzb]
            refine qw_want rfl ?_ (fun w' hw' => ?_) ?_
            rotate_left
            · unfold Oper.quietAt
              go_simp
              exact rfl
            simp only [Act.put, zza, zzc, zzb]
            refine qw_want rfl ?_ (fun w' hw' => ?_) ?_
            rotate_left
            · unfold Oper.quietAt
              go_simp
              exact rfl
            simp only [Act.put, zza, zzc, zzb]
            refine qw_want rfl ?_ (fun w' hw' => ?_) ?_
            rotate_left
            · unfold Oper.quietAt
              go_simp
              exact rfl
            simp only [Act.put, zza, zzc, zzb]
            refine qw_want rfl ?_ (fun w' hw' => ?_) ?_
            rotate_left
            · obtain ⟨k0, k1, k2, k3, k4⟩ := HFx.out w' hw'
              unfold Oper.quietAt
              go_simp
              exact rfl
            simp only [Act.put, zza, zzc, zzb]
            refine qw_want rfl ?_ (fun w' hw' => ?_) ?_
            rotate_left
            · unfold Oper.quietAt
              go_simp
              exact rfl
            simp only [Act.put, zza, zzc, zzb]
            refine qw_want rfl ?_ (fun w' hw' => ?_) ?_
            rotate_left
            · unfold Oper.quietAt
              go_simp
              exact rfl
            simp only [Act.put, zza, zzc, zzb]
            refine qw_want rfl ?_ (fun w' hw' => ?_) ?_
            rotate_left
            · unfold Oper.quietAt
              go_simp
              exact rfl
            simp only [Act.put, zza, zzc, zzb]
            refine qw_want rfl ?_ (fun w' hw' => ?_) ?_
            rotate_left
            · unfold Oper.quietAt
              go_simp
              exact rfl
            simp only [Act.put, zza, zzc, zzb]
            refine qw_want rfl ?_ (fun w' hw' => ?_) ?_
            rotate_left
            · unfold Oper.quietAt
              go_simp
              exact rfl
            simp only [Act.put, zza, zzc, zzb]
            refine qw_want rfl ?_ (fun w' hw' => ?_) ?_
            rotate_left
            · obtain ⟨k0, k1, k2, k3, k4⟩ := HFx.out w' hw'
              unfold Oper.quietAt
              go_simp
              exact rfl
            simp only [Act.put, zza, zzc, zzb]
            refine qw_want rfl ?_ (fun w' hw' => ?_) ?_
            rotate_left
            · unfold Oper.quietAt
              go_simp
              exact rfl
            simp only [Act.put, zza, zzc, zzb]
            refine qw_want rfl ?_ (fun w' hw' => ?_) ?_
            rotate_left
            · unfold Oper.quietAt
              go_simp
              exact rfl
            simp only [Act.put, zza, zzc, zzb]
            refine qw_want rfl ?_ (fun w' hw' => ?_) ?_
            rotate_left
            · unfold Oper.quietAt
              go_simp
              exact rfl
            simp only [Act.put, zza, zzc, zzb]
            refine qw_end (fun w5 hb5 => ?_)
            have HB5 := zzh (HB.out.trans (hb5.mono HB.out.size))
            clear hb5
            go_wp2
            go_ret
            exact SomeBB.mk_ _ (HB0.out.trans (HB5.out.mono HB0.out.size))
theorem SxL.open_ {w : World} {y : X3} (h : SxL w y) : y.t.size ≤ 9223372036854775807 ∧ y.n ≤ 9223372036854775807 ∧ ∀ i, i < y.n → ∃ b off z, y.A = some ⟨b, off, none⟩ ∧ b < w.heap.size ∧ (w.cell? ⟨b, off + i * 3, none⟩ = some (.int .i8 z.k) ∧ w.cell? ⟨b, off + i * 3 + 1, none⟩ = some (.string z.t) ∧ w.cell? ⟨b, off + i * 3 + 2, none⟩ = some (.slice z.A z.n z.c)) ∧ SxL w z := by
  cases h with
  | mk _ b off f ht hn hA hc hs => exact ⟨ht, hn, fun i hi => ⟨b, off, f i, (hA (by omega)).1, (hA (by omega)).2, hc i hi, hs i hi⟩⟩
theorem x_box (w : World) (y : X3) : Below w.heap.size w (w.alloc (.cells #[.int .i8 y.k, .string y.t, .slice y.A y.n y.c] 79)) := (Below.refl _ w).alloc (Nat.le_refl _) _
theorem SxL.ind {w : World} {P : X3 → Prop} (step : ∀ y, SxL w y → (∀ b off i z, i < y.n → y.A = some ⟨b, off, none⟩ → w.cell? ⟨b, off + i * 3, none⟩ = some (.int .i8 z.k) → w.cell? ⟨b, off + i * 3 + 1, none⟩ = some (.string z.t) → w.cell? ⟨b, off + i * 3 + 2, none⟩ = some (.slice z.A z.n z.c) → SxL w z → P z) → P y) {y : X3} (h : SxL w y) : P y := by
  induction h with
  | mk y b off f ht hn hA hc hs ih =>
    refine step y (.mk y b off f ht hn hA hc hs) fun b' off' i z hi hA' h0 h1 h2 _ => ?_
    obtain ⟨g0, g1, g2⟩ := hc i hi
    have e := (hA (by omega)).1
    rw [e] at hA'
    injection hA' with hA'
    injection hA' with e1 e2
    subst e1 e2
    have e : z = f i := by
      obtain ⟨k, t, A, n, c⟩ := z
      rw [g0] at h0; rw [g1] at h1; rw [g2] at h2
      injection h0 with h0; injection h1 with h1; injection h2 with h2
      injection h0 with _ h0; injection h1 with h1; injection h2 with h2 h3 h4
      simp only at h0 h1 h2 h3 h4
      cases hf : f i with
      | mk k' t' A' n' c' =>
        rw [hf] at h0 h1 h2 h3 h4
        simp only at h0 h1 h2 h3 h4
        subst h0 h1 h2 h3 h4
        rfl
    rw [e]
    exact ih i hi
set_option maxRecDepth 100000 in
set_option maxHeartbeats 1000000 in
theorem ldepth_ok {w : World} {y : X3} (h : SxL w y) : ∀ W, Below w.heap.size w W → Calls Tryz.prog 181 #[y.val] W (SomeI W) := by
  refine SxL.ind (P := fun y => ∀ W, Below w.heap.size w W → Calls Tryz.prog 181 #[y.val] W (SomeI W)) ?_ h
  clear h y
  intro y hy ih W hW
  obtain ⟨ht, hn, hk⟩ := (hy.kept hW).open_
  have HI := zzh ih
  have HK := zzh hk
  have HB0 := zzh (x_box W y)
  have HX0 := zzh (Blk.new W 79 #[.int .i8 y.k, .string y.t, .slice y.A y.n y.c])
  have HW := zzh hW
  have HY := zzh hy
  clear ih hk hW hy
  obtain ⟨k, t, A, n, c⟩ := y
  unfold X3.val
  simp only at *
  obtain ⟨x0, x1, x2⟩ := blk3 HX0.out
  go_enter Tryz.func181, Tryz.ntmps181
  go_upto_region 1 with fail
  obtain ⟨w0, hw0⟩ : ∃ w0, W.alloc (.cells #[.int .i8 k, .string t, .slice A n c] 79) = w0 := ⟨_, rfl⟩
  rw [hw0] at HX0 HB0 x0 x1 x2 ⊢
  clear hw0
  by_cases h3 : k = 3
  rotate_left
  · have e : (k != 3) = true := bne_iff_ne.2 h3
    clear h3
    go_wp2
    go_ret
    exact SomeI.mk_ _ HB0.out
  have e : (k != 3) = false := by rw [h3]; rfl
  clear h3
  go_wp2
  go_loopw [4, 3] (fun v d wx => Below w0.heap.size w0 wx ∧ ∃ (i : Nat) (m : Int), i ≤ n ∧ v = .int .i64 i ∧ d = .int .i64 m) (fun v _ _ => (n - intOf v).toNat)
  case atStart => exact ⟨Below.refl _ _, 0, 0, Nat.zero_le _, rfl, rfl⟩
  case round =>
    obtain ⟨hBx, i, m, hi, rfl, rfl⟩ := hrel
    have HBx := zzh hBx
    obtain ⟨z0, z1, z2⟩ := blk3 (HX0.out.below hBx HX0.out.lt)
    clear hBx
    by_cases hin : i < n
    · have hiz : (i : Int) < (n : Int) := by omega
      have d1 : decide ((i : Int) < n) = true := decide_eq_true hiz
      have hbW : Below W.heap.size W wr := HB0.out.trans (HBx.out.mono HB0.out.size)
      have hbw : Below w.heap.size w wr := HW.out.trans (hbW.mono HW.out.size)
      obtain ⟨b, off, z, hA, hlt, ⟨p0, p1, p2⟩, hz⟩ := HY.out.open_.2.2 i hin
      simp only at hA
      have q0 := (hbw.cell (p := ⟨b, off + i * 3, none⟩) hlt).trans p0
      have q1 := (hbw.cell (p := ⟨b, off + i * 3 + 1, none⟩) hlt).trans p1
      have q2 := (hbw.cell (p := ⟨b, off + i * 3 + 2, none⟩) hlt).trans p2
      have HR := zzh (HI.out b off i z hin hA p0 p1 p2 hz wr hbw)
      subst hA
      clear HI HK p0 p1 p2 hz hbw hlt
      obtain ⟨k1, t1, A1, n1, c1⟩ := z
      unfold X3.val at HR
      simp only at HR q0 q1 q2
      go_wp2_with (go_at_call 181; refine HR.out.mono ?_; rintro e w1 ⟨⟨r, rfl⟩, hb1⟩)
      all_goals
        go_roundw
        case rel => exact ⟨HBx.out.trans (hb1.mono HBx.out.size), i + 1, _, by omega, by go_num, rfl⟩
        case measure => simp only [intOf]; omega
    · have d1 : decide ((i : Int) < n) = false := decide_eq_false (by omega)
      clear HI HK
      go_wp2
      go_ret
      exact SomeI.mk_ _ (HB0.out.trans (HBx.out.mono HB0.out.size))
set_option maxRecDepth 100000 in
set_option maxHeartbeats 2000000 in
theorem lstands_ok {w : World} {y : X3} (h : SxL w y) : ∀ W, Below w.heap.size w W → Calls Tryz.prog 182 #[y.val] W (SomeBB W) := by
  refine SxL.ind (P := fun y => ∀ W, Below w.heap.size w W → Calls Tryz.prog 182 #[y.val] W (SomeBB W)) ?_ h
  clear h y
  intro y hy ih W hW
  obtain ⟨ht, hn, hk⟩ := (hy.kept hW).open_
  have HI := zzh ih
  have HB0 := zzh (x_box W y)
  have HX0 := zzh (Blk.new W 79 #[.int .i8 y.k, .string y.t, .slice y.A y.n y.c])
  have HW := zzh hW
  have HY := zzh hy
  clear ih hk hW hy
  obtain ⟨k, t, A, n, c⟩ := y
  unfold X3.val
  simp only at *
  obtain ⟨x0, x1, x2⟩ := blk3 HX0.out
  have KN := zzh (fun W => lname_ok t W)
  have KK := zzh (fun W => lkey_ok t W)
  have KP := zzh (fun W => lparse_ok t W ht)
  go_enter Tryz.func182, Tryz.ntmps182
  go_upto_region 1 with fail
  obtain ⟨w0, hw0⟩ : ∃ w0, W.alloc (.cells #[.int .i8 k, .string t, .slice A n c] 79) = w0 := ⟨_, rfl⟩
  rw [hw0] at HX0 HB0 x0 x1 x2 ⊢
  clear hw0
  by_cases h3 : k = 3
  · subst h3
    clear KN KK KP
    go_wp2
    go_loopg [5] n (fun g v wx => Below w0.heap.size w0 wx ∧ ∃ i : Nat, i + g = n ∧ v = .int .i64 i)
    case atStart => exact ⟨Below.refl _ _, 0, by omega, rfl⟩
    case round =>
      obtain ⟨hBx, i, hig, rfl⟩ := hrel
      have HBx := zzh hBx
      obtain ⟨z0, z1, z2⟩ := blk3 (HX0.out.below hBx HX0.out.lt)
      clear hBx x0 x1 x2
      cases gk with
      | succ gk =>
        have hin : i < n := by omega
        have hiz : (i : Int) < (n : Int) := by omega
        have d1 : decide ((i : Int) < n) = true := decide_eq_true hiz
        have t1 : (0 : Int) ≤ (i : Int) := by omega
        have hbW : Below W.heap.size W wr := HB0.out.trans (HBx.out.mono HB0.out.size)
        have hbw : Below w.heap.size w wr := HW.out.trans (hbW.mono HW.out.size)
        obtain ⟨b, off, z, hA, hlt, ⟨p0, p1, p2⟩, hz⟩ := HY.out.open_.2.2 i hin
        simp only at hA
        have q0 := (hbw.cell (p := ⟨b, off + i * 3, none⟩) hlt).trans p0
        have q1 := (hbw.cell (p := ⟨b, off + i * 3 + 1, none⟩) hlt).trans p1
        have q2 := (hbw.cell (p := ⟨b, off + i * 3 + 2, none⟩) hlt).trans p2
        have HR := zzh (HI.out b off i z hin hA p0 p1 p2 hz wr hbw)
        subst hA
        clear HI p0 p1 p2 hz hbw hlt
        obtain ⟨k1, t1', A1, n1, c1⟩ := z
        unfold X3.val at HR
        simp only at HR q0 q1 q2
        go_wp2_with (go_at_call 182; refine HR.out.mono ?_; rintro e w1 ⟨⟨r, rfl⟩, hb1⟩; cases r)
        · go_ret
          exact SomeBB.mk_ _ (HB0.out.trans ((HBx.out.trans (hb1.mono HBx.out.size)).mono HB0.out.size))
        · go_roundg gk
          case measure => omega
          case rel => exact ⟨HBx.out.trans (hb1.mono HBx.out.size), i + 1, by omega, by go_num⟩
      | zero =>
        have d1 : decide ((i : Int) < n) = false := decide_eq_false (by omega)
        clear HI
        go_wp2
        go_ret
        exact SomeBB.mk_ _ (HB0.out.trans (HBx.out.mono HB0.out.size))
  have e3 : (k != 3) = true := bne_iff_ne.2 h3
  have e3' : (k == 3) = false := beq_eq_false_iff_ne.2 h3
  clear HI
  by_cases h0 : 0 < n
  · have d0 : decide ((n : Int) > 0) = true := decide_eq_true (by omega)
    have d0' : decide ((0 : Int) < (n : Int)) = true := d0
    clear h3
    go_wp2
    go_ret
    exact SomeBB.mk_ _ HB0.out
  have d0 : decide ((n : Int) > 0) = false := decide_eq_false (by omega)
  have d0' : decide ((0 : Int) < (n : Int)) = false := d0
  clear h3
  go_wp2_with (first
    | (go_at_call 164; refine (KN.out _).mono ?_; rintro e w1 ⟨⟨b1, rfl⟩, rfl⟩)
    | (go_at_call 199; refine (KP.out _).mono ?_; rintro e w1 ⟨⟨n1, c1, rfl⟩, rfl⟩)
    | (go_at_call 200; refine (KK.out _).mono ?_; rintro e w1 ⟨⟨b1, rfl⟩, rfl⟩))
  all_goals (go_ret; exact SomeBB.mk_ _ HB0.out)
set_option maxRecDepth 100000 in
theorem lmay_ok {w : World} {y : X3} (h : SxL w y) : Calls Tryz.prog 171 #[y.val] w (SomeBB w) := by
  have HB0 := zzh (x_box w y)
  have HX0 := zzh (Blk.new w 79 #[.int .i8 y.k, .string y.t, .slice y.A y.n y.c])
  have KD := zzh (fun W hW => ldepth_ok h W hW)
  have KS := zzh (fun W hW => lstands_ok h W hW)
  clear h
  obtain ⟨k, t, A, n, c⟩ := y
  unfold X3.val at *
  simp only at *
  obtain ⟨x0, x1, x2⟩ := blk3 HX0.out
  go_enter Tryz.func171, Tryz.ntmps171
  go_wp2_with (first
    | (go_at_call 181; refine (KD.out _ HB0.out).mono ?_; rintro e w1 ⟨⟨r, rfl⟩, hb1⟩; obtain ⟨y0, y1, y2⟩ := blk3 (HX0.out.below hb1 HX0.out.lt); have hb1 := HB0.out.trans (hb1.mono HB0.out.size))
    | (go_at_call 182; refine (KS.out _ hb1).mono ?_; rintro e w2 ⟨⟨r, rfl⟩, hb2⟩))
  all_goals first
    | (go_ret; exact SomeBB.mk_ _ hb1)
    | (go_ret; exact SomeBB.mk_ _ (hb1.trans (hb2.mono hb1.size)))
set_option maxRecDepth 100000 in
set_option maxHeartbeats 1000000 in
theorem lsize_ok {w : World} {y : X3} (h : SxL w y) : ∀ W m, Below w.heap.size w W → Calls Tryz.prog 40 #[y.val, .int .i64 m] W (SomeI W) := by
  refine SxL.ind (P := fun y => ∀ W m, Below w.heap.size w W → Calls Tryz.prog 40 #[y.val, .int .i64 m] W (SomeI W)) ?_ h
  clear h y
  intro y hy ih W m hW
  obtain ⟨ht, hn, hk⟩ := (hy.kept hW).open_
  have HI := zzh ih
  have HB0 := zzh (x_box W y)
  have HX0 := zzh (Blk.new W 79 #[.int .i8 y.k, .string y.t, .slice y.A y.n y.c])
  have HW := zzh hW
  have HY := zzh hy
  clear ih hk hW hy
  obtain ⟨k, t, A, n, c⟩ := y
  unfold X3.val
  simp only at *
  obtain ⟨x0, x1, x2⟩ := blk3 HX0.out
  by_cases h5 : t.size < 5000
  · have d5 : decide ((t.size : Int) < 5000) = true := decide_eq_true (by omega)
    have d6 : decide ((5000 : Int) < (t.size : Int)) = false := decide_eq_false (by omega)
    go_enter Tryz.func40, Tryz.ntmps40
    go_upto_region 1 with fail
    obtain ⟨w0, hw0⟩ : ∃ w0, W.alloc (.cells #[.int .i8 k, .string t, .slice A n c] 79) = w0 := ⟨_, rfl⟩
    rw [hw0] at HX0 HB0 x0 x1 x2 ⊢
    clear hw0
    go_wp2
    go_loopw [6, 5] (fun v d wx => Below w0.heap.size w0 wx ∧ ∃ (i : Nat) (q : Int), i ≤ n ∧ v = .int .i64 i ∧ d = .int .i64 q) (fun v _ _ => (n - intOf v).toNat)
    case atStart => exact ⟨Below.refl _ _, 0, _, Nat.zero_le _, rfl, rfl⟩
    case round =>
      obtain ⟨hBx, i, q, hi, rfl, rfl⟩ := hrel
      have HBx := zzh hBx
      obtain ⟨z0, z1, z2⟩ := blk3 (HX0.out.below hBx HX0.out.lt)
      clear hBx x0 x1 x2
      by_cases hin : i < n
      · have hiz : (i : Int) < (n : Int) := by omega
        have d1 : decide ((i : Int) < n) = true := decide_eq_true hiz
        have t1 : (0 : Int) ≤ (i : Int) := by omega
        by_cases hqm : q < m
        · have d2 : decide (q < m) = true := decide_eq_true hqm
          have hbW : Below W.heap.size W wr := HB0.out.trans (HBx.out.mono HB0.out.size)
          have hbw : Below w.heap.size w wr := HW.out.trans (hbW.mono HW.out.size)
          obtain ⟨b, off, z, hA, hlt, ⟨p0, p1, p2⟩, hz⟩ := HY.out.open_.2.2 i hin
          simp only at hA
          have q0 := (hbw.cell (p := ⟨b, off + i * 3, none⟩) hlt).trans p0
          have q1 := (hbw.cell (p := ⟨b, off + i * 3 + 1, none⟩) hlt).trans p1
          have q2 := (hbw.cell (p := ⟨b, off + i * 3 + 2, none⟩) hlt).trans p2
          have HR := zzh (fun m => HI.out b off i z hin hA p0 p1 p2 hz wr m hbw)
          subst hA
          clear HI p0 p1 p2 hz hbw hlt hqm
          obtain ⟨k1, t1', A1, n1, c1⟩ := z
          unfold X3.val at HR
          simp only at HR q0 q1 q2
          go_wp2_with (go_at_call 40; refine (HR.out _).mono ?_; rintro e w1 ⟨⟨r, rfl⟩, hb1⟩)
          go_roundw
          case rel => exact ⟨HBx.out.trans (hb1.mono HBx.out.size), i + 1, _, by omega, by go_num, rfl⟩
          case measure => simp only [intOf]; omega
        · have d2 : decide (q < m) = false := decide_eq_false hqm
          clear HI hqm
          go_wp2
          go_ret
          exact SomeI.mk_ _ (HB0.out.trans (HBx.out.mono HB0.out.size))
      · have d1 : decide ((i : Int) < n) = false := decide_eq_false (by omega)
        clear HI
        go_wp2
        go_ret
        exact SomeI.mk_ _ (HB0.out.trans (HBx.out.mono HB0.out.size))
  · have d5 : decide ((t.size : Int) < 5000) = false := decide_eq_false (by omega)
    by_cases h6 : 5000 < t.size
    · have d6 : decide ((5000 : Int) < (t.size : Int)) = true := decide_eq_true (by omega)
      go_enter Tryz.func40, Tryz.ntmps40
      go_upto_region 1 with fail
      obtain ⟨w0, hw0⟩ : ∃ w0, W.alloc (.cells #[.int .i8 k, .string t, .slice A n c] 79) = w0 := ⟨_, rfl⟩
      rw [hw0] at HX0 HB0 x0 x1 x2 ⊢
      clear hw0
      go_wp2
      go_loopw [6, 5] (fun v d wx => Below w0.heap.size w0 wx ∧ ∃ (i : Nat) (q : Int), i ≤ n ∧ v = .int .i64 i ∧ d = .int .i64 q) (fun v _ _ => (n - intOf v).toNat)
      case atStart => exact ⟨Below.refl _ _, 0, _, Nat.zero_le _, rfl, rfl⟩
      case round =>
        obtain ⟨hBx, i, q, hi, rfl, rfl⟩ := hrel
        have HBx := zzh hBx
        obtain ⟨z0, z1, z2⟩ := blk3 (HX0.out.below hBx HX0.out.lt)
        clear hBx x0 x1 x2
        by_cases hin : i < n
        · have hiz : (i : Int) < (n : Int) := by omega
          have d1 : decide ((i : Int) < n) = true := decide_eq_true hiz
          have t1 : (0 : Int) ≤ (i : Int) := by omega
          by_cases hqm : q < m
          · have d2 : decide (q < m) = true := decide_eq_true hqm
            have hbW : Below W.heap.size W wr := HB0.out.trans (HBx.out.mono HB0.out.size)
            have hbw : Below w.heap.size w wr := HW.out.trans (hbW.mono HW.out.size)
            obtain ⟨b, off, z, hA, hlt, ⟨p0, p1, p2⟩, hz⟩ := HY.out.open_.2.2 i hin
            simp only at hA
            have q0 := (hbw.cell (p := ⟨b, off + i * 3, none⟩) hlt).trans p0
            have q1 := (hbw.cell (p := ⟨b, off + i * 3 + 1, none⟩) hlt).trans p1
            have q2 := (hbw.cell (p := ⟨b, off + i * 3 + 2, none⟩) hlt).trans p2
            have HR := zzh (fun m => HI.out b off i z hin hA p0 p1 p2 hz wr m hbw)
            subst hA
            clear HI p0 p1 p2 hz hbw hlt hqm
            obtain ⟨k1, t1', A1, n1, c1⟩ := z
            unfold X3.val at HR
            simp only at HR q0 q1 q2
            go_wp2_with (go_at_call 40; refine (HR.out _).mono ?_; rintro e w1 ⟨⟨r, rfl⟩, hb1⟩)
            go_roundw
            case rel => exact ⟨HBx.out.trans (hb1.mono HBx.out.size), i + 1, _, by omega, by go_num, rfl⟩
            case measure => simp only [intOf]; omega
          · have d2 : decide (q < m) = false := decide_eq_false hqm
            clear HI hqm
            go_wp2
            go_ret
            exact SomeI.mk_ _ (HB0.out.trans (HBx.out.mono HB0.out.size))
        · have d1 : decide ((i : Int) < n) = false := decide_eq_false (by omega)
          clear HI
          go_wp2
          go_ret
          exact SomeI.mk_ _ (HB0.out.trans (HBx.out.mono HB0.out.size))
    · have d6 : decide ((5000 : Int) < (t.size : Int)) = false := decide_eq_false (by omega)
      go_enter Tryz.func40, Tryz.ntmps40
      go_upto_region 1 with fail
      obtain ⟨w0, hw0⟩ : ∃ w0, W.alloc (.cells #[.int .i8 k, .string t, .slice A n c] 79) = w0 := ⟨_, rfl⟩
      rw [hw0] at HX0 HB0 x0 x1 x2 ⊢
      clear hw0
      go_wp2
      go_loopw [6, 5] (fun v d wx => Below w0.heap.size w0 wx ∧ ∃ (i : Nat) (q : Int), i ≤ n ∧ v = .int .i64 i ∧ d = .int .i64 q) (fun v _ _ => (n - intOf v).toNat)
      case atStart => exact ⟨Below.refl _ _, 0, _, Nat.zero_le _, rfl, rfl⟩
      case round =>
        obtain ⟨hBx, i, q, hi, rfl, rfl⟩ := hrel
        have HBx := zzh hBx
        obtain ⟨z0, z1, z2⟩ := blk3 (HX0.out.below hBx HX0.out.lt)
        clear hBx x0 x1 x2
        by_cases hin : i < n
        · have hiz : (i : Int) < (n : Int) := by omega
          have d1 : decide ((i : Int) < n) = true := decide_eq_true hiz
          have t1 : (0 : Int) ≤ (i : Int) := by omega
          by_cases hqm : q < m
          · have d2 : decide (q < m) = true := decide_eq_true hqm
            have hbW : Below W.heap.size W wr := HB0.out.trans (HBx.out.mono HB0.out.size)
            have hbw : Below w.heap.size w wr := HW.out.trans (hbW.mono HW.out.size)
            obtain ⟨b, off, z, hA, hlt, ⟨p0, p1, p2⟩, hz⟩ := HY.out.open_.2.2 i hin
            simp only at hA
            have q0 := (hbw.cell (p := ⟨b, off + i * 3, none⟩) hlt).trans p0
            have q1 := (hbw.cell (p := ⟨b, off + i * 3 + 1, none⟩) hlt).trans p1
            have q2 := (hbw.cell (p := ⟨b, off + i * 3 + 2, none⟩) hlt).trans p2
            have HR := zzh (fun m => HI.out b off i z hin hA p0 p1 p2 hz wr m hbw)
            subst hA
            clear HI p0 p1 p2 hz hbw hlt hqm
            obtain ⟨k1, t1', A1, n1, c1⟩ := z
            unfold X3.val at HR
            simp only at HR q0 q1 q2
            go_wp2_with (go_at_call 40; refine (HR.out _).mono ?_; rintro e w1 ⟨⟨r, rfl⟩, hb1⟩)
            go_roundw
            case rel => exact ⟨HBx.out.trans (hb1.mono HBx.out.size), i + 1, _, by omega, by go_num, rfl⟩
            case measure => simp only [intOf]; omega
          · have d2 : decide (q < m) = false := decide_eq_false hqm
            clear HI hqm
            go_wp2
            go_ret
            exact SomeI.mk_ _ (HB0.out.trans (HBx.out.mono HB0.out.size))
        · have d1 : decide ((i : Int) < n) = false := decide_eq_false (by omega)
          clear HI
          go_wp2
          go_ret
          exact SomeI.mk_ _ (HB0.out.trans (HBx.out.mono HB0.out.size))
def MacM.agg (m : MacM) : Array Value := #[.string m.nm, .slice m.P m.np m.cp, .int .i64 m.res, .int .i8 m.y.k, .string m.y.t, .slice m.y.A m.y.n m.y.c]
set_option maxRecDepth 100000 in
set_option maxHeartbeats 4000000 in
theorem lmacOk_ok {w : World} {g : SigV} {m : MacM} (h : SigAt w g) (hm : MacIn w m) (hr : I64 m.res) : Calls Tryz.prog 146 #[.agg g.cells, .agg m.agg] w (SomeBB w) := by
  obtain ⟨w0, hw0⟩ : ∃ w0, (w.alloc (.cells g.cells 26)).alloc (.cells m.agg 81) = w0 := ⟨_, rfl⟩
  have HB0 : Hid (Below w.heap.size w w0) := zzh (by rw [← hw0]; exact (sig_box w g).alloc (sig_box w g).size _)
  have HG0 : Hid (Blk w0 w.heap.size 26 g.cells) := zzh (by rw [← hw0]; exact (Blk.new w 26 g.cells).alloc _)
  have HF0 : Hid (Blk w0 (w.heap.size + 1) 81 m.agg) := zzh (by rw [← hw0]; exact Blk.new_at (by simp) _ _)
  have H := zzh (h.below HB0.out)
  have HX : Hid (∀ W, Below w0.heap.size w0 W → (W.cell? ⟨w.heap.size, 0, none⟩ = some (.slice g.A0 g.sorts.length g.c0) ∧ W.cell? ⟨w.heap.size, 1, none⟩ = some (.slice g.A1 g.funs.length g.c1) ∧ W.cell? ⟨w.heap.size, 2, none⟩ = some (.slice g.A2 g.macs.length g.c2)) ∧ W.cell? ⟨w.heap.size + 1, 1, none⟩ = some (.slice m.P m.np m.cp) ∧ W.cell? ⟨w.heap.size + 1, 2, none⟩ = some (.int .i64 m.res) ∧ W.cell? ⟨w.heap.size + 1, 3, none⟩ = some (.int .i8 m.y.k) ∧ W.cell? ⟨w.heap.size + 1, 4, none⟩ = some (.string m.y.t) ∧ W.cell? ⟨w.heap.size + 1, 5, none⟩ = some (.slice m.y.A m.y.n m.y.c)) := zzh (fun W hW => by
    have h2 := HF0.out.below hW HF0.out.lt
    exact ⟨sig_blk (HG0.out.below hW HG0.out.lt), h2.cell 1, h2.cell 2, h2.cell 3, h2.cell 4, h2.cell 5⟩)
  have KT := zzh (fun W (hW : Below w0.heap.size w0 W) (z : Int) (hz : I64 z) => there_ok (H.out.below hW) z hz)
  have KM := zzh (fun W (hW : Below w0.heap.size w0 W) => lmay_ok ((hm.body.kept HB0.out).kept hW))
  have KN := zzh (fun s W => lname_ok s W)
  have KRs := zzh (fun s W => lreserved_ok s W)
  have HP := zzh (fun i hi => (hm.below HB0.out).pars i hi)
  have HR := zzh hr
  have hnp := hm.np
  obtain ⟨⟨x0, x1, x2⟩, y1, y2, y3, y4, y5⟩ := HX.out w0 (Below.refl _ _)
  clear h hm
  obtain ⟨A0, c0, S, A1, c1, F, A2, c2, M⟩ := g
  obtain ⟨nm, P, np, cp, res, ⟨yk, yt, yA, yn, yc⟩⟩ := m
  unfold SigV.cells MacM.agg at *
  unfold X3.val at KM
  simp only at *
  have HW0 := zzh hw0
  clear hw0 HG0 HF0 H
  go_enter Tryz.func146, Tryz.ntmps146
  go_upto_region 1 with fail
  rw [HW0.out]
  clear HW0
  by_cases hn3 : 3 < np
  · have d0 : decide ((np : Int) > 3) = true := decide_eq_true (by omega)
    have d0' : decide ((3 : Int) < (np : Int)) = true := decide_eq_true (by omega)
    clear hn3 hr
    go_wp2
    go_ret
    exact SomeBB.mk_ _ HB0.out
  have d0 : decide ((np : Int) > 3) = false := decide_eq_false (by omega)
  have d0' : decide ((3 : Int) < (np : Int)) = false := decide_eq_false (by omega)
  go_wp2_with fail
  refine (KT.out _ (Below.refl _ _) _ hr).mono ?_
  rintro e w1 ⟨rfl, hb1⟩
  have HB1 := zzh hb1
  obtain ⟨⟨z0, z1, z2⟩, q1, q2, q3, q4, q5⟩ := HX.out w1 hb1
  clear hb1 x0 x1 x2 y1 y2 y3 y4 y5 d0 d0' hr
  cases hq : thereM S.length res with
  | false =>
    go_wp2
    go_ret
    exact SomeBB.mk_ _ (HB0.out.trans (HB1.out.mono HB0.out.size))
  | true =>
    clear hq
    go_wp2_with fail
    refine (KM.out _ HB1.out).mono ?_
    rintro e w2 ⟨⟨b2, rfl⟩, hb2⟩
    have HB2 := zzh (HB1.out.trans (hb2.mono HB1.out.size))
    clear hb2 z0 z1 z2 q1 q2 q3 q4 q5
    cases b2 with
    | false =>
      go_wp2
      go_ret
      exact SomeBB.mk_ _ (HB0.out.trans (HB2.out.mono HB0.out.size))
    | true =>
      go_wp2
      go_loopg [5] np (fun g v wr => ∃ i : Nat, i + g = np ∧ v = .int .i64 i ∧ Below w0.heap.size w0 wr)
      case atStart => exact ⟨0, by omega, rfl, HB2.out⟩
      case round =>
        obtain ⟨i, hig, rfl, hb⟩ := hrel
        have HB := zzh hb
        obtain ⟨⟨z0, z1, z2⟩, q1, q2, q3, q4, q5⟩ := HX.out wr hb
        clear hb
        cases gk with
        | zero =>
          obtain rfl : i = np := by omega
          have d1 : decide ((i : Int) < (i : Int)) = false := by simp
          go_wp2
          go_ret
          exact SomeBB.mk_ _ (HB0.out.trans (HB.out.mono HB0.out.size))
        | succ gk =>
          have hlt : i < np := by omega
          have d1 : decide ((i : Int) < (np : Int)) = true := decide_eq_true (by omega)
          have t1 : (0 : Int) ≤ (i : Int) := by omega
          have t2 : (i : Int) < (np : Int) := by omega
          obtain ⟨b, off, s, z, hA, hb, p0, p1, hz⟩ := HP.out i hlt
          have p0' := (HB.out.cell (p := ⟨b, off + i * 2, none⟩) hb).trans p0
          have p1' := (HB.out.cell (p := ⟨b, off + i * 2 + 1, none⟩) hb).trans p1
          have HPk : Hid (∀ k, k < np → ∃ s', w0.cell? ⟨b, off + k * 2, none⟩ = some (.string s')) := zzh (fun k hk => by
            obtain ⟨b', off', s', z', hA', _, p0', _⟩ := HP.out k hk
            rw [hA] at hA'
            injection hA' with hA'
            injection hA' with e1 e2
            subst e1 e2
            exact ⟨s', p0'⟩)
          subst hA
          obtain ⟨pb, hpb⟩ : ∃ pb, wr.heap.size = pb := ⟨_, rfl⟩
          obtain ⟨w3, hw3⟩ : ∃ w3, wr.alloc (.cells #[.string s, .int .i64 z] 207) = w3 := ⟨_, rfl⟩
          have HB3 : Hid (Below w0.heap.size w0 w3) := zzh (by rw [← hw3]; exact HB.out.alloc HB.out.size _)
          have HPb : Hid (Blk w3 pb 207 #[.string s, .int .i64 z]) := zzh (by rw [← hw3, ← hpb]; exact Blk.new _ _ _)
          have HXp : Hid (∀ W, Below w3.heap.size w3 W → ((W.cell? ⟨w.heap.size, 0, none⟩ = some (.slice A0 S.length c0) ∧ W.cell? ⟨w.heap.size, 1, none⟩ = some (.slice A1 F.length c1) ∧ W.cell? ⟨w.heap.size, 2, none⟩ = some (.slice A2 M.length c2)) ∧ W.cell? ⟨w.heap.size + 1, 1, none⟩ = some (.slice (some ⟨b, off, none⟩) np cp)) ∧ W.cell? ⟨pb, 0, none⟩ = some (.string s) ∧ W.cell? ⟨pb, 1, none⟩ = some (.int .i64 z)) := zzh (fun W hW => by
            have h := HX.out W (HB3.out.trans (hW.mono HB3.out.size))
            have h2 := HPb.out.below hW HPb.out.lt
            exact ⟨⟨h.1, h.2.1⟩, h2.cell 0, h2.cell 1⟩)
          have HW3 := zzh hw3
          have HPB := zzh hpb
          clear hw3 hpb p0 p1 q2 q3 q4 q5
          go_upto_region 7 with fail
          rw [HW3.out, HPB.out]
          clear HW3 HPB z0 z1 z2 q1 p0' p1'
          obtain ⟨⟨⟨z0, z1, z2⟩, q1⟩, p0, p1⟩ := HXp.out w3 (Below.refl _ _)
          go_wp2_with fail
          refine (KN.out s _).mono ?_
          rintro e w4 ⟨⟨b4, rfl⟩, rfl⟩
          cases b4 with
          | false =>
            go_wp2
            go_ret
            exact SomeBB.mk_ _ (HB0.out.trans (HB3.out.mono HB0.out.size))
          | true =>
            go_wp2_with fail
            refine (KRs.out s _).mono ?_
            rintro e w4 ⟨⟨b4, rfl⟩, rfl⟩
            cases b4 with
            | true =>
              go_wp2
              go_ret
              exact SomeBB.mk_ _ (HB0.out.trans (HB3.out.mono HB0.out.size))
            | false =>
              go_wp2_with fail
              refine (KT.out _ HB3.out _ hz).mono ?_
              rintro e w5 ⟨rfl, hb5⟩
              have HB5 := zzh (HB3.out.trans (hb5.mono HB3.out.size))
              have HB35 := zzh hb5
              clear hb5 z0 z1 z2 q1 p0 p1
              cases hq : thereM S.length z with
              | false =>
                go_wp2
                go_ret
                exact SomeBB.mk_ _ (HB0.out.trans (HB5.out.mono HB0.out.size))
              | true =>
                clear hq hz
                have HZ5 := zzh (Below.refl w5.heap.size w5)
                obtain ⟨gk0, rfl⟩ : ∃ go : Nat, go = gk := ⟨_, rfl⟩
                go_wp2
                go_loopg [7] i (fun g v wr => ∃ k : Nat, k + g = i ∧ v = .int .i64 k ∧ Below w5.heap.size w5 wr)
                case atStart => exact ⟨0, by omega, rfl, HZ5.out⟩
                case round =>
                  obtain ⟨k, hkg, rfl, hb6⟩ := hrel
                  have HB6 := zzh hb6
                  clear hb6
                  cases gk with
                  | zero =>
                    obtain rfl : k = i := by omega
                    have d2 : decide ((k : Int) < (k : Int)) = false := by simp
                    go_wp2
                    go_roundg gk0
                    case measure => omega
                    case rel => exact ⟨k + 1, by omega, by go_num, HB5.out.trans (HB6.out.mono HB5.out.size)⟩
                  | succ gq =>
                    have hki : k < i := by omega
                    have d2 : decide ((k : Int) < (i : Int)) = true := decide_eq_true (by omega)
                    have u1 : (0 : Int) ≤ (k : Int) := by omega
                    have u2 : (k : Int) < (np : Int) := by omega
                    obtain ⟨s', hs'⟩ := HPk.out k (by omega)
                    have HFx : Hid (∀ W, Below wr.heap.size wr W → W.cell? ⟨w.heap.size + 1, 1, none⟩ = some (.slice (some ⟨b, off, none⟩) np cp) ∧ W.cell? ⟨pb, 0, none⟩ = some (.string s) ∧ W.cell? ⟨b, off + k * 2, none⟩ = some (.string s')) := zzh (fun W hW => by
                      have h6 := HB6.out.trans (hW.mono HB6.out.size)
                      have h3 := HB35.out.trans (h6.mono HB35.out.size)
                      obtain ⟨⟨_, e1⟩, e2, _⟩ := HXp.out W h3
                      exact ⟨e1, e2, by rw [(HB3.out.trans (h3.mono HB3.out.size)).cell (p := ⟨b, off + k * 2, none⟩) hb]; exact hs'⟩)
                    clear hs'
                    go_upto_region 12 with fail
                    refine wp_region_quiet (C := fun w' => Below wr.heap.size wr w') (by kernel_rfl) (by kernel_rfl) (⟨rfl, rfl, rfl, Nat.le_refl _, fun _ _ => rfl⟩) ?_
                    refine QW.lit ?_
                    refine qw_want rfl ?_ (fun w' hw' => ?_) ?_
                    rotate_left
                    · unfold Oper.quietAt
                      go_simp
                      exact rfl
                    simp only [Act.put, zza, zzc, zzb]
                    refine qw_want rfl ?_ (fun w' hw' => ?_) ?_
                    rotate_left
                    · obtain ⟨k0, k1, k2⟩ := HFx.out w' hw'
                      unfold Oper.quietAt
                      go_simp
                      exact rfl
                    simp only [Act.put, zza, zzc, zzb]
                    refine qw_want rfl ?_ (fun w' hw' => ?_) ?_
                    rotate_left
                    · unfold Oper.quietAt
                      go_simp
                      exact rfl
                    simp only [Act.put, zza, zzc, zzb]
                    refine qw_want rfl ?_ (fun w' hw' => ?_) ?_
                    rotate_left
                    · unfold Oper.quietAt
                      go_simp
                      exact rfl
                    simp only [Act.put, zza, zzc, zzb]
                    refine qw_want rfl ?_ (fun w' hw' => ?_) ?_
                    rotate_left
                    · unfold Oper.quietAt
                      go_simp
                      exact rfl
                    simp only [Act.put, zza, zzc, zzb]
                    refine qw_want rfl ?_ (fun w' hw' => ?_) ?_
                    rotate_left
                    · obtain ⟨k0, k1, k2⟩ := HFx.out w' hw'
                      unfold Oper.quietAt
                      go_simp
                      exact rfl
                    simp only [Act.put, zza, zzc, zzb]
                    refine qw_want rfl ?_ (fun w' hw' => ?_) ?_
                    rotate_left
                    · unfold Oper.quietAt
                      go_simp
                      exact rfl
                    simp only [Act.put, zza, zzc, zzb]
                    refine qw_want rfl ?_ (fun w' hw' => ?_) ?_
                    rotate_left
                    · obtain ⟨k0, k1, k2⟩ := HFx.out w' hw'
                      unfold Oper.quietAt
                      go_simp
                      exact rfl
                    simp only [Act.put, zza, zzc, zzb]
                    refine qw_want rfl ?_ (fun w' hw' => ?_) ?_
                    rotate_left
                    · unfold Oper.quietAt
                      go_simp
                      exact rfl
                    simp only [Act.put, zza, zzc, zzb]
                    refine qw_end (fun w5 hb5 => ?_)
                    have HB7 := zzh (HB6.out.trans (hb5.mono HB6.out.size))
                    clear hb5
                    go_wp2_with fail
                    · go_ret
                      exact SomeBB.mk_ _ (HB0.out.trans ((HB5.out.trans (HB7.out.mono HB5.out.size)).mono HB0.out.size))
                    · go_roundg gq
                      case measure => omega
                      case rel => exact ⟨k + 1, by omega, by go_num, HB7.out⟩
set_option maxRecDepth 100000 in
set_option maxHeartbeats 4000000 in
theorem lgreat_ok {w : World} {g : SigV} (h : SigAt w g) (hd : SigDeep w g) : Calls Tryz.prog 10 #[.agg g.cells] w (fun e w' => ∃ q, e = .returned (.bool q) ∧ Below w.heap.size w w') := by
  have HB0 := zzh (sig_box w g)
  have HG0 := zzh (Blk.new w 26 g.cells)
  have H := zzh (h.below HB0.out)
  have HD := zzh (hd.below HB0.out)
  have HX := zzh (fun W (hW : Below (w.alloc (.cells g.cells 26)).heap.size (w.alloc (.cells g.cells 26)) W) => sig_blk (HG0.out.below hW HG0.out.lt))
  have KS := zzh (fun (m : MacM) (hm : m ∈ g.macs) W (hW : Below (w.alloc (.cells g.cells 26)).heap.size (w.alloc (.cells g.cells 26)) W) q => lsize_ok (HD.out m hm).body W q hW)
  have hn2 := h.n2
  obtain ⟨x0, x1, x2⟩ := sig_blk HG0.out
  clear h hd
  obtain ⟨A0, c0, S, A1, c1, F, A2, c2, M⟩ := g
  unfold SigV.cells at *
  simp only at *
  go_enter Tryz.func10, Tryz.ntmps10
  go_upto_region 1 with fail
  generalize w.alloc (.cells #[.slice A0 S.length c0, .slice A1 F.length c1, .slice A2 M.length c2] 26) = w0 at *
  by_cases h0 : 20 < S.length
  · have d0 : decide ((S.length : Int) > 20) = true := decide_eq_true (by omega)
    have d0' : decide ((20 : Int) < (S.length : Int)) = true := decide_eq_true (by omega)
    clear h0
    go_wp2
    go_ret
    exact ⟨_, rfl, HB0.out⟩
  have d0 : decide ((S.length : Int) > 20) = false := decide_eq_false (by omega)
  have d0' : decide ((20 : Int) < (S.length : Int)) = false := decide_eq_false (by omega)
  by_cases h1 : 40 < F.length
  · have d1 : decide ((F.length : Int) > 40) = true := decide_eq_true (by omega)
    have d1' : decide ((40 : Int) < (F.length : Int)) = true := decide_eq_true (by omega)
    clear h0 h1
    go_wp2
    go_ret
    exact ⟨_, rfl, HB0.out⟩
  have d1 : decide ((F.length : Int) > 40) = false := decide_eq_false (by omega)
  have d1' : decide ((40 : Int) < (F.length : Int)) = false := decide_eq_false (by omega)
  by_cases h2 : 40 < M.length
  · have d2 : decide ((M.length : Int) > 40) = true := decide_eq_true (by omega)
    have d2' : decide ((40 : Int) < (M.length : Int)) = true := decide_eq_true (by omega)
    clear h0 h1 h2
    go_wp2
    go_ret
    exact ⟨_, rfl, HB0.out⟩
  have d2 : decide ((M.length : Int) > 40) = false := decide_eq_false (by omega)
  have d2' : decide ((40 : Int) < (M.length : Int)) = false := decide_eq_false (by omega)
  clear h0 h1
  go_wp2
  go_loopw [4, 3] (fun v d wx => Below w0.heap.size w0 wx ∧ ∃ (i : Nat) (q : Int), i ≤ M.length ∧ v = .int .i64 i ∧ d = .int .i64 q) (fun v _ _ => (M.length - intOf v).toNat)
  case atStart => exact ⟨Below.refl _ _, 0, 0, Nat.zero_le _, rfl, rfl⟩
  case round =>
    obtain ⟨hBx, i, q, hi, rfl, rfl⟩ := hrel
    have HBx := zzh hBx
    obtain ⟨z0, z1, z2⟩ := HX.out wr hBx
    clear hBx x0 x1 x2
    by_cases hin : i < M.length
    · have hiz : (i : Int) < (M.length : Int) := by omega
      have e1 : decide ((i : Int) < M.length) = true := decide_eq_true hiz
      have t1 : (0 : Int) ≤ (i : Int) := by omega
      obtain ⟨b, off, hA, hlt, hm⟩ := (H.out.below HBx.out).m i hin
      dsimp only at hA hm
      obtain ⟨m0, m1, m2, m3, m4, m5, _⟩ := hm
      have KR := zzh (KS.out M[i] (List.getElem_mem hin) wr HBx.out)
      have HFp : Hid (∀ W, Below wr.heap.size wr W → W.cell? ⟨b, off + i * 6 + 1, none⟩ = some (.slice M[i].P M[i].np M[i].cp)) := zzh (fun W hW => (hW.cell (p := ⟨b, off + i * 6 + 1, none⟩) hlt).trans m1)
      subst hA
      generalize M[i] = mm at *
      obtain ⟨nm, P, np, cp, res, ⟨yk, yt, yA, yn, yc⟩⟩ := mm
      unfold X3.val at KR
      simp only at KR HFp m0 m1 m2 m3 m4 m5
      go_wp2_with fail
      refine (KR.out _).mono ?_
      rintro e w1 ⟨⟨r, rfl⟩, hb1⟩
      have HB1 := zzh (HBx.out.trans (hb1.mono HBx.out.size))
      have m1' := HFp.out w1 hb1
      obtain ⟨y0, y1, y2⟩ := HX.out w1 HB1.out
      clear hb1 m0 m1 m2 m3 m4 m5 z0 z1 z2
      by_cases h20 : 20 < np
      · have e2 : decide ((np : Int) > 20) = true := decide_eq_true (by omega)
        have e2' : decide ((20 : Int) < (np : Int)) = true := decide_eq_true (by omega)
        clear h20
        go_wp2
        go_ret
        exact ⟨_, rfl, HB0.out.trans (HB1.out.mono HB0.out.size)⟩
      · have e2 : decide ((np : Int) > 20) = false := decide_eq_false (by omega)
        have e2' : decide ((20 : Int) < (np : Int)) = false := decide_eq_false (by omega)
        clear h20
        go_wp2
        go_roundw
        case rel => exact ⟨HB1.out, i + 1, _, by omega, by go_num, rfl⟩
        case measure => simp only [intOf]; omega
    · have e1 : decide ((i : Int) < M.length) = false := decide_eq_false (by omega)
      clear h2
      go_wp2
      go_ret
      exact ⟨_, rfl, HB0.out.trans (HBx.out.mono HB0.out.size)⟩
theorem str_info : (Tryz.prog.info? 9).map (fun i => (i.zero, i.size, i.bytes)) = some (some (.string { data := #[] }), 1, 16) := by kernel_rfl
theorem fun_info : (Tryz.prog.info? 149).map (fun i => (i.zero, i.size, i.bytes)) = some (some (.agg #[.string { data := #[] }, .int .i64 0, .int .i64 0, .int .i64 0, .int .i64 0, .int .i64 0]), 6, 56) := by kernel_rfl
theorem mac_info : (Tryz.prog.info? 81).map (fun i => (i.zero, i.size, i.bytes)) = some (some (.agg #[.string { data := #[] }, .slice none 0 0, .int .i64 0, .int .i8 0, .string { data := #[] }, .slice none 0 0]), 6, 96) := by kernel_rfl
def strCells (s : ByteArray) : List Value := [.string s]
structure SigWf (g : SigV) : Prop where
  f : ∀ f ∈ g.funs, f.Wf
  m : ∀ m ∈ g.macs, I64 m.res
theorem SigAt.wf {w : World} {g : SigV} (h : SigAt w g) : SigWf g := by
  refine ⟨fun f hf => ?_, fun m hm => ?_⟩
  · obtain ⟨i, hi, rfl⟩ := List.getElem_of_mem hf
    obtain ⟨_, _, _, _, h1⟩ := h.f i hi
    exact h1.wf
  · obtain ⟨i, hi, rfl⟩ := List.getElem_of_mem hm
    obtain ⟨_, _, _, _, h1⟩ := h.m i hi
    exact h1.wf
structure CkI (w : World) (ob i j k : Nat) (g : SigV) (v0 v1 v2 : Value) (W : World) : Prop where
  blk : Blk W ob 26 #[v0, v1, v2]
  o0 : W.ownsRow (ob + 1) 9 1 v0 i ((g.sorts.take i).flatMap strCells)
  o1 : W.ownsRow (ob + 1) 149 6 v1 j ((g.funs.take j).flatMap FnM.cells)
  o2 : W.ownsRow (ob + 1) 81 6 v2 k ((g.macs.take k).flatMap MacM.cells)
  bel : Below w.heap.size w W
  ge : w.heap.size ≤ ob
  hi : i ≤ g.sorts.length
  hj : j ≤ g.funs.length
  hk : k ≤ g.macs.length
section
variable {w W W' : World} {ob i j k : Nat} {g : SigV} {v0 v1 v2 : Value}
theorem CkI.below (h : CkI w ob i j k g v0 v1 v2 W) (hb : Below W.heap.size W W') : CkI w ob i j k g v0 v1 v2 W' := by
  have hk := Kept.of_below (S := fun _ => False) hb
  exact ⟨h.blk.below hb h.blk.lt, own_kept h.o0 hk (fun _ _ e => e), own_kept h.o1 hk (fun _ _ e => e), own_kept h.o2 hk (fun _ _ e => e), h.bel.trans (hb.mono h.bel.size), h.ge, h.hi, h.hj, h.hk⟩
def upTo (g : SigV) (i j k : Nat) (A0 : Option Addr) (c0 : Nat) (A1 : Option Addr) (c1 : Nat) (A2 : Option Addr) (c2 : Nat) : SigV := ⟨A0, c0, g.sorts.take i, A1, c1, g.funs.take j, A2, c2, g.macs.take k⟩
theorem own_row {α : Type} {w : World} {base : Nat} {e : TypeId} {sz n c : Nat} {A : Option Addr} {L : List α} (enc : α → List Value) (hs : ∀ a, (enc a).length = sz) (h : w.ownsRow base e sz (.slice A n c) n (L.flatMap enc)) (i : Nat) (hi : i < L.length) (hn : L.length ≤ n) :
    ∃ b off, A = some ⟨b, off, none⟩ ∧ b < w.heap.size ∧ ∀ j, j < sz → w.cell? ⟨b, off + i * sz + j, none⟩ = (enc L[i])[j]? := by
  obtain ⟨g, cap, e1, _, hlt, _⟩ := own_form h (by omega)
  injection e1 with e1 e2 e3
  subst e1 e3
  exact ⟨g, 0, rfl, hlt, fun j hj => by rw [Nat.zero_add]; exact own_cell enc hs h hi hj⟩
theorem CkI.sig (h : CkI w ob i j k g v0 v1 v2 W) (hw : SigWf g) (hn : g.sorts.length ≤ 4 ∧ g.funs.length ≤ 12 ∧ g.macs.length ≤ 12) : ∃ A0 c0 A1 c1 A2 c2, v0 = .slice A0 i c0 ∧ v1 = .slice A1 j c1 ∧ v2 = .slice A2 k c2 ∧ SigAt W (upTo g i j k A0 c0 A1 c1 A2 c2) ∧ (upTo g i j k A0 c0 A1 c1 A2 c2).cells = #[v0, v1, v2] := by
  obtain ⟨A0, c0, rfl⟩ := own_slice h.o0
  obtain ⟨A1, c1, rfl⟩ := own_slice h.o1
  obtain ⟨A2, c2, rfl⟩ := own_slice h.o2
  have hi := h.hi
  have hj := h.hj
  have hk := h.hk
  have li : (g.sorts.take i).length = i := by rw [List.length_take]; omega
  have lj : (g.funs.take j).length = j := by rw [List.length_take]; omega
  have lk : (g.macs.take k).length = k := by rw [List.length_take]; omega
  refine ⟨A0, c0, A1, c1, A2, c2, rfl, rfl, rfl, ⟨?_, ?_, ?_, fun q hq => ?_, fun q hq => ?_, fun q hq => ?_⟩, ?_⟩
  · show (g.sorts.take i).length ≤ _; omega
  · show (g.funs.take j).length ≤ _; omega
  · show (g.macs.take k).length ≤ _; omega
  · obtain ⟨b, off, e, hlt, hc⟩ := own_row strCells (fun _ => rfl) h.o0 q hq (by omega)
    exact ⟨b, off, e, hlt, by have := hc 0 (by decide); rw [Nat.mul_one, Nat.add_zero] at this; exact this⟩
  · obtain ⟨b, off, e, hlt, hc⟩ := own_row FnM.cells (fun _ => rfl) h.o1 q hq (by omega)
    exact ⟨b, off, e, hlt, hc 0 (by decide), hc 1 (by decide), hc 2 (by decide), hc 3 (by decide), hc 4 (by decide), hc 5 (by decide), hw.f _ (List.mem_of_mem_take (List.getElem_mem hq))⟩
  · obtain ⟨b, off, e, hlt, hc⟩ := own_row MacM.cells (fun _ => rfl) h.o2 q hq (by omega)
    exact ⟨b, off, e, hlt, hc 0 (by decide), hc 1 (by decide), hc 2 (by decide), hc 3 (by decide), hc 4 (by decide), hc 5 (by decide), hw.m _ (List.mem_of_mem_take (List.getElem_mem hq))⟩
  · unfold SigV.cells upTo
    simp only [li, lj, lk]
theorem ne_types {W : World} {b b' : Nat} {e e' : TypeId} {s s' n n' : Nat} {v v' : Value} {xs xs' : List Value} (h : W.ownsRow b e s v n xs) (h' : W.ownsRow b' e' s' v' n' xs') (hne : e ≠ e') : ∀ q, v.ownBlock = some q → ¬ some q = v'.ownBlock := fun _ hq e1 => own_own_ne h' h (Ne.symm hne) e1.symm hq
theorem CkI.push0 {o : Obj} {W3 : World} {v : Value} (h : CkI w ob i j k g v0 v1 v2 W) (hlt : i < g.sorts.length) (hg : (W.alloc o).grownBy W3 v0.ownBlock) (ho : W3.ownsRow (ob + 1) 9 1 v (i + 1) ((g.sorts.take i).flatMap strCells ++ strCells g.sorts[i])) :
    CkI w ob (i + 1) j k g v v1 v2 (W3.setCell ⟨ob, 0, none⟩ v) := by
  have k0 : Kept (fun b => some b = v0.ownBlock) W (W.alloc o) := Kept.of_below ((Below.refl _ W).alloc (Nat.le_refl _) _)
  have hk := k0.grown hg (fun q e => .inl e.symm)
  have hb0 : ∀ b, some b = v0.ownBlock → ob + 1 ≤ b := fun b e => (h.o0.lt b e.symm).1
  have b3 := (h.blk.kept hk (fun e => by have := hb0 _ e; omega)).set_ 0 v
  simp only [zza, zzb] at b3
  have k3 := Kept.set1 W3 ob 0 v
  refine ⟨b3, own_kept ?_ k3 (fun q hq => by have := (ho.lt q hq).1; omega), own_kept (own_kept h.o1 hk (ne_types h.o1 h.o0 (by decide))) k3 (fun q hq => by have := (h.o1.lt q hq).1; omega), own_kept (own_kept h.o2 hk (ne_types h.o2 h.o0 (by decide))) k3 (fun q hq => by have := (h.o2.lt q hq).1; omega), (h.bel.trans (hk.below h.bel.size (fun q e => by have := hb0 q e; have := h.ge; omega))).trans (k3.below (by have h1 := h.bel.size; have h2 := hk.size; omega) (fun q e => by rw [e]; exact h.ge)), h.ge, hlt, h.hj, h.hk⟩
  rw [List.take_add_one, List.getElem?_eq_getElem hlt, List.flatMap_append]
  simpa using ho
theorem CkI.push1 {o : Obj} {W3 : World} {v : Value} (h : CkI w ob i j k g v0 v1 v2 W) (hlt : j < g.funs.length) (hg : (W.alloc o).grownBy W3 v1.ownBlock) (ho : W3.ownsRow (ob + 1) 149 6 v (j + 1) ((g.funs.take j).flatMap FnM.cells ++ g.funs[j].cells)) :
    CkI w ob i (j + 1) k g v0 v v2 (W3.setCell ⟨ob, 1, none⟩ v) := by
  have k0 : Kept (fun b => some b = v1.ownBlock) W (W.alloc o) := Kept.of_below ((Below.refl _ W).alloc (Nat.le_refl _) _)
  have hk := k0.grown hg (fun q e => .inl e.symm)
  have hb0 : ∀ b, some b = v1.ownBlock → ob + 1 ≤ b := fun b e => (h.o1.lt b e.symm).1
  have b3 := (h.blk.kept hk (fun e => by have := hb0 _ e; omega)).set_ 1 v
  simp only [zza, zzb, zzc] at b3
  have k3 := Kept.set1 W3 ob 1 v
  refine ⟨b3, own_kept (own_kept h.o0 hk (ne_types h.o0 h.o1 (by decide))) k3 (fun q hq => by have := (h.o0.lt q hq).1; omega), own_kept ?_ k3 (fun q hq => by have := (ho.lt q hq).1; omega), own_kept (own_kept h.o2 hk (ne_types h.o2 h.o1 (by decide))) k3 (fun q hq => by have := (h.o2.lt q hq).1; omega), (h.bel.trans (hk.below h.bel.size (fun q e => by have := hb0 q e; have := h.ge; omega))).trans (k3.below (by have h1 := h.bel.size; have h2 := hk.size; omega) (fun q e => by rw [e]; exact h.ge)), h.ge, h.hi, hlt, h.hk⟩
  rw [List.take_add_one, List.getElem?_eq_getElem hlt, List.flatMap_append]
  simpa using ho
theorem CkI.push2 {o : Obj} {W3 : World} {v : Value} (h : CkI w ob i j k g v0 v1 v2 W) (hlt : k < g.macs.length) (hg : (W.alloc o).grownBy W3 v2.ownBlock) (ho : W3.ownsRow (ob + 1) 81 6 v (k + 1) ((g.macs.take k).flatMap MacM.cells ++ g.macs[k].cells)) :
    CkI w ob i j (k + 1) g v0 v1 v (W3.setCell ⟨ob, 2, none⟩ v) := by
  have k0 : Kept (fun b => some b = v2.ownBlock) W (W.alloc o) := Kept.of_below ((Below.refl _ W).alloc (Nat.le_refl _) _)
  have hk := k0.grown hg (fun q e => .inl e.symm)
  have hb0 : ∀ b, some b = v2.ownBlock → ob + 1 ≤ b := fun b e => (h.o2.lt b e.symm).1
  have b3 := (h.blk.kept hk (fun e => by have := hb0 _ e; omega)).set_ 2 v
  simp only [zza, zzb, zzc] at b3
  have k3 := Kept.set1 W3 ob 2 v
  refine ⟨b3, own_kept (own_kept h.o0 hk (ne_types h.o0 h.o2 (by decide))) k3 (fun q hq => by have := (h.o0.lt q hq).1; omega), own_kept (own_kept h.o1 hk (ne_types h.o1 h.o2 (by decide))) k3 (fun q hq => by have := (h.o1.lt q hq).1; omega), own_kept ?_ k3 (fun q hq => by have := (ho.lt q hq).1; omega), (h.bel.trans (hk.below h.bel.size (fun q e => by have := hb0 q e; have := h.ge; omega))).trans (k3.below (by have h1 := h.bel.size; have h2 := hk.size; omega) (fun q e => by rw [e]; exact h.ge)), h.ge, h.hi, h.hj, hlt⟩
  rw [List.take_add_one, List.getElem?_eq_getElem hlt, List.flatMap_append]
  simpa using ho
end
end Go.Proofs.YtlipnnibagidiaaGreat

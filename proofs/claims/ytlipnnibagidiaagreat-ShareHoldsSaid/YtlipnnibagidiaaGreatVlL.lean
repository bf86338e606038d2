/- Differences held against a number. -/
import Derived.Test.YtlipnnibagidiaaGreatVlH
import Derived.Deep.RegionHeldLaw
import Derived.Deep.RegionHeld3
import Derived.Deep.RegionLaw
import Derived.Laws.BitsLemmas
namespace Go.Proofs.YtlipnnibagidiaaGreat
open Go.RowKit Go.Lib
def CkIs (g : SigV) (w : World) (e : Ending) (w' : World) : Prop := ∃ r, e = .returned (.int .i64 r) ∧ (r = 0 → g.sorts.length ≤ 4 ∧ g.funs.length ≤ 12 ∧ g.macs.length ≤ 12) ∧ Below w.heap.size w w'
theorem CkIs.bad {g : SigV} {w w' : World} (h : Below w.heap.size w w') : CkIs g w (.returned (.int .i64 2)) w' := ⟨2, rfl, fun e => (by cases e), h⟩
set_option maxRecDepth 100000 in
set_option maxHeartbeats 8000000 in
theorem lcheck_ok {w : World} {g : SigV} (h : SigAt w g) (hd : SigDeep w g) : Calls Tryz.prog 98 #[.agg g.cells] w (CkIs g w) := by
  obtain ⟨i0, hi0, hz0, hz1, hz2⟩ := info_parts str_info
  obtain ⟨i1, ji0, jz0, jz1, jz2⟩ := info_parts fun_info
  obtain ⟨i2, ki0, kz0, kz1, kz2⟩ := info_parts mac_info
  have HB0 := zzh (sig_box w g)
  have HG0 := zzh (Blk.new w 26 g.cells)
  have HWf := zzh h.wf
  have H := zzh (h.below HB0.out)
  have HD := zzh (hd.below HB0.out)
  obtain ⟨x0, x1, x2⟩ := sig_blk HG0.out
  have HGC : Hid (g.cells = #[.slice g.A0 g.sorts.length g.c0, .slice g.A1 g.funs.length g.c1, .slice g.A2 g.macs.length g.c2]) := zzh rfl
  clear h hd
  rw [HGC.out] at HB0 HG0 H HD x0 x1 x2 ⊢
  have HN : Hid (CkIs g w = CkIs g w) := zzh rfl
  obtain ⟨n0, hn0⟩ : ∃ n, g.sorts.length = n := ⟨_, rfl⟩
  obtain ⟨n1, hn1⟩ : ∃ n, g.funs.length = n := ⟨_, rfl⟩
  obtain ⟨n2, hn2⟩ : ∃ n, g.macs.length = n := ⟨_, rfl⟩
  have HN0 := zzh hn0
  have HN1 := zzh hn1
  have HN2 := zzh hn2
  rw [hn0, hn1, hn2] at HB0 HG0 H HD x0 x1 x2 ⊢
  clear hn0 hn1 hn2
  go_enter Tryz.func98, Tryz.ntmps98
  go_upto_region 1 with fail
  generalize w.alloc (.cells #[.slice g.A0 n0 g.c0, .slice g.A1 n1 g.c1, .slice g.A2 n2 g.c2] 26) = w0 at *
  by_cases h0 : 4 < n0
  · have d0 : decide ((n0 : Int) > 4) = true := decide_eq_true (by omega)
    have d0' : decide ((4 : Int) < (n0 : Int)) = true := decide_eq_true (by omega)
    clear h0
    go_wp2
    go_ret
    exact CkIs.bad HB0.out
  have d0 : decide ((n0 : Int) > 4) = false := decide_eq_false (by omega)
  have d0' : decide ((4 : Int) < (n0 : Int)) = false := decide_eq_false (by omega)
  by_cases h1 : 12 < n1
  · have d1 : decide ((n1 : Int) > 12) = true := decide_eq_true (by omega)
    have d1' : decide ((12 : Int) < (n1 : Int)) = true := decide_eq_true (by omega)
    clear h1 h0
    go_wp2
    go_ret
    exact CkIs.bad HB0.out
  have d1 : decide ((n1 : Int) > 12) = false := decide_eq_false (by omega)
  have d1' : decide ((12 : Int) < (n1 : Int)) = false := decide_eq_false (by omega)
  by_cases h2 : 12 < n2
  · have d2 : decide ((n2 : Int) > 12) = true := decide_eq_true (by omega)
    have d2' : decide ((12 : Int) < (n2 : Int)) = true := decide_eq_true (by omega)
    clear h2 h0 h1
    go_wp2
    go_ret
    exact CkIs.bad HB0.out
  have d2 : decide ((n2 : Int) > 12) = false := decide_eq_false (by omega)
  have d2' : decide ((12 : Int) < (n2 : Int)) = false := decide_eq_false (by omega)
  have HL : Hid (g.sorts.length ≤ 4 ∧ g.funs.length ≤ 12 ∧ g.macs.length ≤ 12) := zzh (by rw [HN0.out, HN1.out, HN2.out]; omega)
  have hl0 : n0 ≤ 4 := by omega
  have hl1 : n1 ≤ 12 := by omega
  have hl2 : n2 ≤ 12 := by omega
  have HX : Hid (∀ W, Below w0.heap.size w0 W → W.cell? ⟨w.heap.size, 0, none⟩ = some (.slice g.A0 n0 g.c0) ∧ W.cell? ⟨w.heap.size, 1, none⟩ = some (.slice g.A1 n1 g.c1) ∧ W.cell? ⟨w.heap.size, 2, none⟩ = some (.slice g.A2 n2 g.c2)) := zzh (fun W hW => by
    have h1 := HG0.out.below hW HG0.out.lt
    exact ⟨h1.cell 0, h1.cell 1, h1.cell 2⟩)
  obtain ⟨ob, hob⟩ : ∃ ob, w0.heap.size = ob := ⟨_, rfl⟩
  obtain ⟨w1, hw1⟩ : ∃ w1, w0.alloc (.cells #[.slice none 0 0, .slice none 0 0, .slice none 0 0] 26) = w1 := ⟨_, rfl⟩
  have HC1 : Hid (CkI w0 ob 0 0 0 g (.slice none 0 0) (.slice none 0 0) (.slice none 0 0) w1) := zzh (by
    rw [← hw1, ← hob]
    exact ⟨Blk.new _ _ _, World.ownsRow_nil _ _ _ _, World.ownsRow_nil _ _ _ _, World.ownsRow_nil _ _ _ _, (Below.refl _ w0).alloc (Nat.le_refl _) _, Nat.le_refl _, Nat.zero_le _, Nat.zero_le _, Nat.zero_le _⟩)
  have HW1 := zzh hw1
  have HOB := zzh hob
  clear hw1 hob d0 d0' d1 d1' d2 d2' h0 h1 h2
  go_upto_region 4 with fail
  rw [HW1.out, HOB.out]
  clear HW1 HOB HG0 x0 x1 x2
  go_wp2
  go_loopg [4] n0 (fun gg v wr => ∃ i : Nat, i + gg = n0 ∧ v = .int .i64 i ∧ ∃ v0, CkI w0 ob i 0 0 g v0 (.slice none 0 0) (.slice none 0 0) wr)
  case atStart => exact ⟨0, by omega, rfl, _, HC1.out⟩
  case round =>
    obtain ⟨i, hig, rfl, v0, hc⟩ := hrel
    have HC := zzh hc
    obtain ⟨x0, x1, x2⟩ := HX.out wr hc.bel
    clear hc
    cases gk with
    | succ gk =>
      have hlt : i < n0 := by omega
      have d1 : decide ((i : Int) < (n0 : Int)) = true := decide_eq_true (by omega)
      have t1 : (0 : Int) ≤ (i : Int) := by omega
      have t2 : (i : Int) < (n0 : Int) := by omega
      have hls : i < g.sorts.length := by rw [HN0.out]; exact hlt
      obtain ⟨b, off, hA, hb, hcell⟩ := H.out.s i hls
      obtain ⟨A0, c0, A1, c1, A2, c2, hv0, hv1, hv2, hsig, hcells⟩ := HC.out.sig HWf.out HL.out
      have KF := zzh (fun W (hW : Below wr.heap.size wr W) => lfree_ok (hsig.below hW) g.sorts[i] true)
      rw [hcells, hv0] at KF
      rw [hv0] at HC
      have HFx : Hid (∀ W, Below wr.heap.size wr W → W.cell? ⟨w.heap.size, 0, none⟩ = some (.slice g.A0 n0 g.c0) ∧ W.cell? ⟨b, off + i, none⟩ = some (.string g.sorts[i]) ∧ W.cell? ⟨ob, 0, none⟩ = some (.slice A0 i c0) ∧ W.cell? ⟨ob, 1, none⟩ = some (.slice none 0 0) ∧ W.cell? ⟨ob, 2, none⟩ = some (.slice none 0 0)) := zzh (fun W hW => by
        have h2 := HC.out.blk.below hW HC.out.blk.lt
        have h3 := HC.out.bel.trans (hW.mono HC.out.bel.size)
        exact ⟨(HX.out W h3).1, (h3.cell (p := ⟨b, off + i, none⟩) hb).trans hcell, h2.cell 0, h2.cell 1, h2.cell 2⟩)
      have HPush := zzh (fun (W W3 : World) (o : Obj) v (hW : Below wr.heap.size wr W) (hg : (W.alloc o).grownBy W3 (Value.slice A0 i c0).ownBlock) (ho : W3.ownsRow (ob + 1) 9 1 v (i + 1) ((g.sorts.take i).flatMap strCells ++ strCells g.sorts[i])) => (HC.out.below hW).push0 hls hg ho)
      have HO := zzh (fun (W : World) (hW : Below wr.heap.size wr W) => (HC.out.below hW).o0)
      have HSz := zzh HC.out.blk.lt
      unfold strCells at HPush
      generalize g.sorts[i] = s at *
      have HA := zzh hA
      have HD1 := zzh (below_drewN (Below.refl wr.heap.size wr) 1)
      rw [hA] at HFx
      clear hcell hsig hcells hv0 hv1 hv2 hb x1 x2
      rw [hA] at x0
      clear hA
      obtain ⟨y0, y1, y2, y3, y4⟩ := HFx.out wr.drew HD1.out
      have KF1 := zzh (KF.out _ HD1.out)
      go_upto_region 7 with fail
      go_region_held3 (fun w' => w'.cell? ⟨w.heap.size, 0, none⟩ = some (.slice (some ⟨b, off, none⟩) n0 g.c0) ∧ w'.cell? ⟨b, off + i, none⟩ = some (.string s) ∧ w'.cell? ⟨ob, 0, none⟩ = some (.slice A0 i c0) ∧ w'.cell? ⟨ob, 1, none⟩ = some (.slice none 0 0) ∧ w'.cell? ⟨ob, 2, none⟩ = some (.slice none 0 0)) (go_keep) ((go_at_call 144; refine KF1.out.mono ?_; rintro e w3 ⟨⟨r, rfl⟩, hb3⟩; have HB3 := zzh (HD1.out.trans (hb3.mono HD1.out.size)); obtain ⟨z0, z1, z2, z3, z4⟩ := HFx.out w3 HB3.out; clear hb3 y0 y1 y2 y3 y4 x0))
      by_cases hr : r = 0
      rotate_left
      · have e1 : (r != 0) = true := bne_iff_ne.2 hr
        clear hr
        go_wp2
        go_ret
        exact CkIs.bad (HB0.out.trans ((HC.out.bel.trans (HB3.out.mono HC.out.bel.size)).mono HB0.out.size))
      · have e1 : (r != 0) = false := by rw [hr]; rfl
        clear hr
        have HD3 := zzh (HB3.out.trans ((below_drewN (Below.refl w3.heap.size w3) 1).mono HB3.out.size))
        obtain ⟨y0, y1, y2, _, _⟩ := HFx.out (w3.alloc (.cells #[.string s] 9)) (HB3.out.alloc HB3.out.size _)
        have HSz3 : Hid (ob < w3.drew.heap.size) := zzh (Nat.lt_of_lt_of_le HSz.out HD3.out.size)
        have HK3 := zzh ((HC.out.below HD3.out).blk)
        clear z3 z4
        go_upto_region 9 with fail
        go_region_law (refine step_push _ rfl (.tmp 40) (.tmp 46) 22 rfl (ob + 1) 9 i0 (.string { data := #[] }) 1 16 Tryz.underlying22 hi0 hz0 hz1 hz2 rfl (by decide) (.slice A0 i c0) i ((g.sorts.take i).flatMap strCells) rfl (own_kept (HO.out _ HD3.out) ((Kept.refl (fun _ => False) w3.drew).alloc _) (fun _ _ e => e)) w3.heap.size #[.string s] rfl (Blk.new _ _ _) rfl (by simp [Value.oneCell']) (by omega) (by omega) HSz3.out (fun g3 cap3 w5 hown hgrow hat hlt1 => ?_); have HO5 := zzh hown; have HG5 := zzh hgrow; have hb5 := (HK3.out.alloc (.cells #[.string s] 9)).grown hgrow (fun e => by have := ((HO.out _ HD3.out).lt ob e.symm).1; omega); have q2 : w5.cell? ⟨ob, 0, none⟩ = some (.slice A0 i c0) := hb5.cell 0; have q3 := hb5.frozen 0; clear hown hgrow hat hlt1 hb5)
        all_goals
          have HP := zzh (HPush.out _ _ _ _ HD3.out HG5.out HO5.out)
          go_wp2
          go_roundg gk
          case measure => omega
          case rel => exact ⟨i + 1, by omega, by go_num, _, HP.out⟩
    | zero =>
      obtain rfl : n0 = i := by omega
      have d1 : decide ((n0 : Int) < (n0 : Int)) = false := by simp
      obtain ⟨B0, dd0, hvB⟩ := own_slice HC.out.o0
      subst hvB
      go_wp2
      go_loopg [5] n1 (fun gg v wr => ∃ i : Nat, i + gg = n1 ∧ v = .int .i64 i ∧ ∃ vq, CkI w0 ob n0 i 0 g (.slice B0 n0 dd0) vq (.slice none 0 0) wr)
      case atStart => exact ⟨0, by omega, rfl, _, HC.out⟩
      case round =>
        obtain ⟨i, hig, rfl, vq, hc⟩ := hrel
        clear HC
        have HC := zzh hc
        obtain ⟨x0, x1, x2⟩ := HX.out wr hc.bel
        clear hc
        cases gk with
        | succ gk =>
          have hlt : i < n1 := by omega
          have d1 : decide ((i : Int) < (n1 : Int)) = true := decide_eq_true (by omega)
          have t1 : (0 : Int) ≤ (i : Int) := by omega
          have t2 : (i : Int) < (n1 : Int) := by omega
          have hls : i < g.funs.length := by rw [HN1.out]; exact hlt
          obtain ⟨b, off, hA, hb, hcell⟩ := H.out.f i hls
          obtain ⟨_, _, A1, c1, A2, c2, _, hv1, hv2, hsig, hcells⟩ := HC.out.sig HWf.out HL.out
          have KF := zzh (fun W (hW : Below wr.heap.size wr W) => lfree_ok (hsig.below hW) g.funs[i].nm false)
          have KG := zzh (fun W (hW : Below wr.heap.size wr W) => lfunOk_ok (hsig.below hW) (HWf.out.f _ (List.getElem_mem hls)))
          rw [hcells, hv1] at KF KG
          rw [hv1] at HC
          have HFx : Hid (∀ W, Below wr.heap.size wr W → W.cell? ⟨w.heap.size, 1, none⟩ = some (.slice g.A1 n1 g.c1) ∧ W.cell? ⟨b, off + i * 6, none⟩ = some (.string g.funs[i].nm) ∧ W.cell? ⟨b, off + i * 6 + 1, none⟩ = some (.int .i64 g.funs[i].len) ∧ W.cell? ⟨b, off + i * 6 + 2, none⟩ = some (.int .i64 g.funs[i].a0) ∧ W.cell? ⟨b, off + i * 6 + 3, none⟩ = some (.int .i64 g.funs[i].a1) ∧ W.cell? ⟨b, off + i * 6 + 4, none⟩ = some (.int .i64 g.funs[i].a2) ∧ W.cell? ⟨b, off + i * 6 + 5, none⟩ = some (.int .i64 g.funs[i].res) ∧ W.cell? ⟨ob, 0, none⟩ = some (.slice B0 n0 dd0) ∧ W.cell? ⟨ob, 1, none⟩ = some (.slice A1 i c1) ∧ W.cell? ⟨ob, 2, none⟩ = some (.slice none 0 0)) := zzh (fun W hW => by
            have h2 := HC.out.blk.below hW HC.out.blk.lt
            have h3 := HC.out.bel.trans (hW.mono HC.out.bel.size)
            have h4 := hcell.below h3 hb
            obtain ⟨_, e1, e2⟩ := HX.out W h3
            exact ⟨e1, h4.c0, h4.c1, h4.c2, h4.c3, h4.c4, h4.c5, h2.cell 0, h2.cell 1, h2.cell 2⟩)
          have HPush := zzh (fun (W W3 : World) (o : Obj) v (hW : Below wr.heap.size wr W) (hg : (W.alloc o).grownBy W3 (.slice A1 i c1 : Value).ownBlock) (ho : W3.ownsRow (ob + 1) 149 6 v (i + 1) ((g.funs.take i).flatMap FnM.cells ++ g.funs[i].cells)) => (HC.out.below hW).push1 hls hg ho)
          have HO := zzh (fun (W : World) (hW : Below wr.heap.size wr W) => (HC.out.below hW).o1)
          have HKb := zzh (fun (W : World) (hW : Below wr.heap.size wr W) => (HC.out.below hW).blk)
          have HSz := zzh HC.out.blk.lt
          generalize g.funs[i] = m at *
          obtain ⟨nm, len, a0, a1, a2, res⟩ := m
          unfold FnM.agg at KG
          simp only at KF KG HFx HPush hA
          rw [hA] at HFx
          have HD1 := zzh (below_drewN (Below.refl wr.heap.size wr) 1)
          clear hcell hsig hcells hv1 hv2 hb x0 x2
          rw [hA] at x1
          clear hA
          obtain ⟨y0, y1, y2, y3, y4, y5, y6, y7, y8, y9⟩ := HFx.out wr.drew HD1.out
          have KF1 := zzh (KF.out _ HD1.out)
          go_upto_region 13 with fail
          refine wp_region_held_drew (S := (fun w' => w'.cell? ⟨w.heap.size, 1, none⟩ = some (.slice (some ⟨b, off, none⟩) n1 g.c1) ∧ w'.cell? ⟨b, off + i * 6, none⟩ = some (.string nm) ∧ w'.cell? ⟨b, off + i * 6 + 1, none⟩ = some (.int .i64 len) ∧ w'.cell? ⟨b, off + i * 6 + 2, none⟩ = some (.int .i64 a0) ∧ w'.cell? ⟨b, off + i * 6 + 3, none⟩ = some (.int .i64 a1) ∧ w'.cell? ⟨b, off + i * 6 + 4, none⟩ = some (.int .i64 a2) ∧ w'.cell? ⟨b, off + i * 6 + 5, none⟩ = some (.int .i64 res) ∧ w'.cell? ⟨ob, 0, none⟩ = some (.slice B0 n0 dd0) ∧ w'.cell? ⟨ob, 1, none⟩ = some (.slice A1 i c1) ∧ w'.cell? ⟨ob, 2, none⟩ = some (.slice none 0 0))) (by kernel_rfl) ?_ (fun hHeld => ?_)
          · go_keep
          refine wpAnyH_take (i := 0) (v := ?_) rfl (by kernel_rfl) (by kernel_rfl) (by kernel_rfl) (fun _ _ _ h => h) (Or.inl ⟨by kernel_rfl, ?_⟩) (by assumption) ?_
          rotate_left
          · intro wS hSw
            try dsimp only at hSw
            go_simp
            first | done | with_reducible rfl
          try simp only [Act.put, zzd, zze, zza, zzb, zzc]
          refine wpAnyH_take (i := 1) (v := ?_) rfl (by kernel_rfl) (by kernel_rfl) (by kernel_rfl) (fun _ _ _ h => h) (Or.inl ⟨by kernel_rfl, ?_⟩) (by assumption) ?_
          rotate_left
          · intro wS hSw
            try dsimp only at hSw
            go_simp
            first | done | with_reducible rfl
          try simp only [Act.put, zzd, zze, zzf, zza, zzb, zzc]
          refine wpAnyH_take (i := 2) (v := ?_) rfl (by kernel_rfl) (by kernel_rfl) (by kernel_rfl) (fun _ _ _ h => h) (Or.inl ⟨by kernel_rfl, ?_⟩) (by assumption) ?_
          rotate_left
          · intro wS hSw
            try dsimp only at hSw
            go_simp
            first | done | with_reducible rfl
          try simp only [Act.put, zzd, zze, zzf, zza, zzb, zzc]
          refine wpAnyH_take (i := 3) (v := ?_) rfl (by kernel_rfl) (by kernel_rfl) (by kernel_rfl) (fun _ _ _ h => h) (Or.inl ⟨by kernel_rfl, ?_⟩) (by assumption) ?_
          rotate_left
          · intro wS hSw
            try dsimp only at hSw
            go_simp
            first | done | with_reducible rfl
          try simp only [Act.put, zzd, zze, zzf, zza, zzb, zzc]
          refine wpAnyH_take (i := 4) (v := ?_) rfl (by kernel_rfl) (by kernel_rfl) (by kernel_rfl) (fun _ _ _ h => h) (Or.inl ⟨by kernel_rfl, ?_⟩) (by assumption) ?_
          rotate_left
          · intro wS hSw
            try dsimp only at hSw
            go_simp
            first | done | with_reducible rfl
          try simp only [Act.put, zzd, zze, zzf, zza, zzb, zzc]
          refine wpAnyH_take (i := 5) (v := ?_) rfl (by kernel_rfl) (by kernel_rfl) (by kernel_rfl) (fun _ _ _ h => h) (Or.inl ⟨by kernel_rfl, ?_⟩) (by assumption) ?_
          rotate_left
          · intro wS hSw
            try dsimp only at hSw
            go_simp
            first | done | with_reducible rfl
          try simp only [Act.put, zzd, zze, zzf, zza, zzb, zzc]
          refine wpAnyH_take (i := 6) (v := ?_) rfl (by kernel_rfl) (by kernel_rfl) (by kernel_rfl) (fun _ _ _ h => h) (Or.inl ⟨by kernel_rfl, ?_⟩) (by assumption) ?_
          rotate_left
          · intro wS hSw
            try dsimp only at hSw
            go_simp
            first | done | with_reducible rfl
          try simp only [Act.put, zzd, zze, zzf, zza, zzb, zzc]
          refine wpAnyH_ready (rs := [7]) (by kernel_rfl) (by simp) ?_
          refine AllReadyH.cons rfl (fun K hK => ?_) AllReadyH.nil
          go_simp
          refine KF1.out.mono ?_
          rintro e w3 ⟨⟨r, rfl⟩, hb3⟩
          have HB3 := zzh (HD1.out.trans (hb3.mono HD1.out.size))
          obtain ⟨z0, z1, z2, z3, z4, z5, z6, z7, z8, z9⟩ := HFx.out w3 HB3.out
          clear hb3 y0 y1 y2 y3 y4 y5 y6 y7 y8 y9
          refine hK.out _ _ ?_ (fun hHeld => ?_)
          · go_keep
          clear hK K
          try simp only [Act.put, zzd, zze, zzf, zza, zzb, zzc]
          by_cases hr : r = 0
          rotate_left
          · have e1 : (r != 0) = true := bne_iff_ne.2 hr
            clear hr
            refine wpAnyH_take (i := 8) (v := ?_) rfl (by kernel_rfl) (by kernel_rfl) (by kernel_rfl) (fun _ _ _ h => h) (Or.inl ⟨by kernel_rfl, ?_⟩) (by assumption) ?_
            rotate_left
            · intro wS hSw
              try dsimp only at hSw
              go_simp
              first | done | with_reducible rfl
            try simp only [Act.put, zzd, zze, zzf, zza, zzb, zzc]
            refine wpAnyH_take (i := 9) (v := ?_) rfl (by kernel_rfl) (by kernel_rfl) (by kernel_rfl) (fun _ _ _ h => h) (Or.inl ⟨by kernel_rfl, ?_⟩) (by assumption) ?_
            rotate_left
            · intro wS hSw
              try dsimp only at hSw
              go_simp
              first | done | with_reducible rfl
            try simp only [Act.put, zzd, zze, zzf, zza, zzb, zzc]
            refine wpAnyH_take (i := 10) (v := undef) rfl (by kernel_rfl) (by kernel_rfl) (by kernel_rfl) (fun _ _ _ h => h) (Or.inr ⟨by kernel_rfl, rfl⟩) (by assumption) ?_
            try simp only [Act.put, zzd, zze, zzf, zza, zzb, zzc]
            refine wpAnyH_take (i := 11) (v := undef) rfl (by kernel_rfl) (by kernel_rfl) (by kernel_rfl) (fun _ _ _ h => h) (Or.inr ⟨by kernel_rfl, rfl⟩) (by assumption) ?_
            try simp only [Act.put, zzd, zze, zzf, zza, zzb, zzc]
            refine wpAnyH_take (i := 12) (v := undef) rfl (by kernel_rfl) (by kernel_rfl) (by kernel_rfl) (fun _ _ _ h => h) (Or.inr ⟨by kernel_rfl, rfl⟩) (by assumption) ?_
            try simp only [Act.put, zzd, zze, zzf, zza, zzb, zzc]
            refine wpAnyH_take (i := 13) (v := undef) rfl (by kernel_rfl) (by kernel_rfl) (by kernel_rfl) (fun _ _ _ h => h) (Or.inr ⟨by kernel_rfl, rfl⟩) (by assumption) ?_
            try simp only [Act.put, zzd, zze, zzf, zza, zzb, zzc]
            refine wpAnyH_take (i := 14) (v := undef) rfl (by kernel_rfl) (by kernel_rfl) (by kernel_rfl) (fun _ _ _ h => h) (Or.inr ⟨by kernel_rfl, rfl⟩) (by assumption) ?_
            try simp only [Act.put, zzd, zze, zzf, zza, zzb, zzc]
            refine wpAnyH_take (i := 15) (v := undef) rfl (by kernel_rfl) (by kernel_rfl) (by kernel_rfl) (fun _ _ _ h => h) (Or.inr ⟨by kernel_rfl, rfl⟩) (by assumption) ?_
            try simp only [Act.put, zzd, zze, zzf, zza, zzb, zzc]
            refine wpAnyH_take (i := 16) (v := undef) rfl (by kernel_rfl) (by kernel_rfl) (by kernel_rfl) (fun _ _ _ h => h) (Or.inr ⟨by kernel_rfl, rfl⟩) (by assumption) ?_
            try simp only [Act.put, zzd, zze, zzf, zza, zzb, zzc]
            refine wpAnyH_take (i := 17) (v := undef) rfl (by kernel_rfl) (by kernel_rfl) (by kernel_rfl) (fun _ _ _ h => h) (Or.inr ⟨by kernel_rfl, rfl⟩) (by assumption) ?_
            try simp only [Act.put, zzd, zze, zzf, zza, zzb, zzc]
            refine wpAnyH_take (i := 18) (v := ?_) rfl (by kernel_rfl) (by kernel_rfl) (by kernel_rfl) (fun _ _ _ h => h) (Or.inl ⟨by kernel_rfl, ?_⟩) (by assumption) ?_
            rotate_left
            · intro wS hSw
              try dsimp only at hSw
              go_simp
              first | done | with_reducible rfl
            try simp only [Act.put, zzd, zze, zzf, zza, zzb, zzc]
            refine wpAnyH_done (by kernel_rfl) ?_ _
            go_wp2
            go_ret
            exact CkIs.bad (HB0.out.trans ((HC.out.bel.trans (HB3.out.mono HC.out.bel.size)).mono HB0.out.size))
          · have e1 : (r != 0) = false := by rw [hr]; rfl
            clear hr
            refine wpAnyH_take (i := 8) (v := ?_) rfl (by kernel_rfl) (by kernel_rfl) (by kernel_rfl) (fun _ _ _ h => h) (Or.inl ⟨by kernel_rfl, ?_⟩) (by assumption) ?_
            rotate_left
            · intro wS hSw
              try dsimp only at hSw
              go_simp
              first | done | with_reducible rfl
            try simp only [Act.put, zzd, zze, zzf, zza, zzb, zzc]
            refine wpAnyH_take (i := 9) (v := ?_) rfl (by kernel_rfl) (by kernel_rfl) (by kernel_rfl) (fun _ _ _ h => h) (Or.inl ⟨by kernel_rfl, ?_⟩) (by assumption) ?_
            rotate_left
            · intro wS hSw
              try dsimp only at hSw
              go_simp
              first | done | with_reducible rfl
            try simp only [Act.put, zzd, zze, zzf, zza, zzb, zzc]
            refine wpAnyH_take (i := 10) (v := ?_) rfl (by kernel_rfl) (by kernel_rfl) (by kernel_rfl) (fun _ _ _ h => h) (Or.inl ⟨by kernel_rfl, ?_⟩) (by assumption) ?_
            rotate_left
            · intro wS hSw
              try dsimp only at hSw
              go_simp
              first | done | with_reducible rfl
            try simp only [Act.put, zzd, zze, zzf, zza, zzb, zzc]
            refine wpAnyH_take (i := 11) (v := ?_) rfl (by kernel_rfl) (by kernel_rfl) (by kernel_rfl) (fun _ _ _ h => h) (Or.inl ⟨by kernel_rfl, ?_⟩) (by assumption) ?_
            rotate_left
            · intro wS hSw
              try dsimp only at hSw
              go_simp
              first | done | with_reducible rfl
            try simp only [Act.put, zzd, zze, zzf, zza, zzb, zzc]
            refine wpAnyH_take (i := 12) (v := ?_) rfl (by kernel_rfl) (by kernel_rfl) (by kernel_rfl) (fun _ _ _ h => h) (Or.inl ⟨by kernel_rfl, ?_⟩) (by assumption) ?_
            rotate_left
            · intro wS hSw
              try dsimp only at hSw
              go_simp
              first | done | with_reducible rfl
            try simp only [Act.put, zzd, zze, zzf, zza, zzb, zzc]
            refine wpAnyH_take (i := 13) (v := ?_) rfl (by kernel_rfl) (by kernel_rfl) (by kernel_rfl) (fun _ _ _ h => h) (Or.inl ⟨by kernel_rfl, ?_⟩) (by assumption) ?_
            rotate_left
            · intro wS hSw
              try dsimp only at hSw
              go_simp
              first | done | with_reducible rfl
            try simp only [Act.put, zzd, zze, zzf, zza, zzb, zzc]
            refine wpAnyH_take (i := 14) (v := ?_) rfl (by kernel_rfl) (by kernel_rfl) (by kernel_rfl) (fun _ _ _ h => h) (Or.inl ⟨by kernel_rfl, ?_⟩) (by assumption) ?_
            rotate_left
            · intro wS hSw
              try dsimp only at hSw
              go_simp
              first | done | with_reducible rfl
            try simp only [Act.put, zzd, zze, zzf, zza, zzb, zzc]
            refine wpAnyH_take (i := 15) (v := ?_) rfl (by kernel_rfl) (by kernel_rfl) (by kernel_rfl) (fun _ _ _ h => h) (Or.inl ⟨by kernel_rfl, ?_⟩) (by assumption) ?_
            rotate_left
            · intro wS hSw
              try dsimp only at hSw
              go_simp
              first | done | with_reducible rfl
            try simp only [Act.put, zzd, zze, zzf, zza, zzb, zzc]
            refine wpAnyH_ready (rs := [16]) (by kernel_rfl) (by simp) ?_
            refine AllReadyH.cons rfl (fun K hK => ?_) AllReadyH.nil
            go_simp
            refine (KG.out _ HB3.out).mono ?_
            rintro e w4 ⟨⟨b4, rfl⟩, hb4⟩
            have HB4 := zzh (HB3.out.trans (hb4.mono HB3.out.size))
            obtain ⟨y0, y1, y2, y3, y4, y5, y6, y7, y8, y9⟩ := HFx.out w4 HB4.out
            clear hb4 z0 z1 z2 z3 z4 z5 z6 z7 z8 z9
            refine hK.out _ _ ?_ (fun hHeld => ?_)
            · go_keep
            clear hK K
            try simp only [Act.put, zzd, zze, zzf, zza, zzb, zzc]
            refine wpAnyH_take (i := 17) (v := ?_) rfl (by kernel_rfl) (by kernel_rfl) (by kernel_rfl) (fun _ _ _ h => h) (Or.inl ⟨by kernel_rfl, ?_⟩) (by assumption) ?_
            rotate_left
            · intro wS hSw
              try dsimp only at hSw
              go_simp
              first | done | with_reducible rfl
            try simp only [Act.put, zzd, zze, zzf, zza, zzb, zzc]
            refine wpAnyH_take (i := 18) (v := ?_) rfl (by kernel_rfl) (by kernel_rfl) (by kernel_rfl) (fun _ _ _ h => h) (Or.inl ⟨by kernel_rfl, ?_⟩) (by assumption) ?_
            rotate_left
            · intro wS hSw
              try dsimp only at hSw
              go_simp
              first | done | with_reducible rfl
            try simp only [Act.put, zzd, zze, zzf, zza, zzb, zzc]
            refine wpAnyH_done (by kernel_rfl) ?_ _
            cases b4 with
            | false =>
              go_wp2
              go_ret
              exact CkIs.bad (HB0.out.trans ((HC.out.bel.trans (HB4.out.mono HC.out.bel.size)).mono HB0.out.size))
            | true =>
              have HD4 := zzh (HB4.out.trans ((below_drewN (Below.refl w4.heap.size w4) 1).mono HB4.out.size))
              obtain ⟨z0, z1, z2, z3, z4, z5, z6, z7, z8, z9⟩ := HFx.out (w4.alloc (.cells #[.string nm, .int .i64 len, .int .i64 a0, .int .i64 a1, .int .i64 a2, .int .i64 res] 149)) (HB4.out.alloc HB4.out.size _)
              have HSz4 : Hid (ob < w4.drew.heap.size) := zzh (Nat.lt_of_lt_of_le HSz.out HD4.out.size)
              have HK4 := zzh (HKb.out _ HD4.out)
              go_upto_region 15 with fail
              go_region_law (refine step_push _ rfl (.tmp 76) (.tmp 82) 23 rfl (ob + 1) 149 i1 (.agg #[.string { data := #[] }, .int .i64 0, .int .i64 0, .int .i64 0, .int .i64 0, .int .i64 0]) 6 56 Tryz.underlying23 ji0 jz0 jz1 jz2 rfl (by decide) (.slice A1 i c1) i ((g.funs.take i).flatMap FnM.cells) rfl (own_kept (HO.out _ HD4.out) ((Kept.refl (fun _ => False) w4.drew).alloc _) (fun _ _ e => e)) w4.heap.size #[.string nm, .int .i64 len, .int .i64 a0, .int .i64 a1, .int .i64 a2, .int .i64 res] rfl (Blk.new _ _ _) rfl (by simp [Value.oneCell']) (by omega) (by omega) HSz4.out (fun g3 cap3 w5 hown hgrow hat hlt1 => ?_); have HO5 := zzh hown; have HG5 := zzh hgrow; have hb5 := (HK4.out.alloc (.cells #[.string nm, .int .i64 len, .int .i64 a0, .int .i64 a1, .int .i64 a2, .int .i64 res] 149)).grown hgrow (fun e => by have := ((HO.out _ HD4.out).lt ob e.symm).1; omega); have q2 : w5.cell? ⟨ob, 1, none⟩ = some (.slice A1 i c1) := hb5.cell 1; have q3 := hb5.frozen 1; clear hown hgrow hat hlt1 hb5)
              all_goals
                have HP := zzh (HPush.out _ _ _ _ HD4.out HG5.out HO5.out)
                go_wp2
                go_roundg gk
                case measure => omega
                case rel => exact ⟨i + 1, by omega, by go_num, _, HP.out⟩
        | zero =>
          obtain rfl : n1 = i := by omega
          have d1 : decide ((n1 : Int) < (n1 : Int)) = false := by simp
          obtain ⟨B1, dd1, hvB⟩ := own_slice HC.out.o1
          subst hvB
          go_wp2
          go_loopg [6] n2 (fun gg v wr => ∃ i : Nat, i + gg = n2 ∧ v = .int .i64 i ∧ ∃ vq, CkI w0 ob n0 n1 i g (.slice B0 n0 dd0) (.slice B1 n1 dd1) vq wr)
          case atStart => exact ⟨0, by omega, rfl, _, HC.out⟩
          case round =>
            obtain ⟨i, hig, rfl, vq, hc⟩ := hrel
            clear HC
            have HC := zzh hc
            obtain ⟨x0, x1, x2⟩ := HX.out wr hc.bel
            clear hc
            cases gk with
            | succ gk =>
              have hlt : i < n2 := by omega
              have d1 : decide ((i : Int) < (n2 : Int)) = true := decide_eq_true (by omega)
              have t1 : (0 : Int) ≤ (i : Int) := by omega
              have t2 : (i : Int) < (n2 : Int) := by omega
              have hls : i < g.macs.length := by rw [HN2.out]; exact hlt
              obtain ⟨b, off, hA, hb, hcell⟩ := H.out.m i hls
              obtain ⟨_, _, A1, c1, A2, c2, _, hv1, hv2, hsig, hcells⟩ := HC.out.sig HWf.out HL.out
              have KF := zzh (fun W (hW : Below wr.heap.size wr W) => lfree_ok (hsig.below hW) g.macs[i].nm false)
              have KG := zzh (fun W (hW : Below wr.heap.size wr W) => lmacOk_ok (hsig.below hW) ((HD.out _ (List.getElem_mem hls)).below (HC.out.bel.trans (hW.mono HC.out.bel.size))) (HWf.out.m _ (List.getElem_mem hls)))
              rw [hcells, hv2] at KF KG
              rw [hv2] at HC
              have HFx : Hid (∀ W, Below wr.heap.size wr W → W.cell? ⟨w.heap.size, 2, none⟩ = some (.slice g.A2 n2 g.c2) ∧ W.cell? ⟨b, off + i * 6, none⟩ = some (.string g.macs[i].nm) ∧ W.cell? ⟨b, off + i * 6 + 1, none⟩ = some (.slice g.macs[i].P g.macs[i].np g.macs[i].cp) ∧ W.cell? ⟨b, off + i * 6 + 2, none⟩ = some (.int .i64 g.macs[i].res) ∧ W.cell? ⟨b, off + i * 6 + 3, none⟩ = some (.int .i8 g.macs[i].y.k) ∧ W.cell? ⟨b, off + i * 6 + 4, none⟩ = some (.string g.macs[i].y.t) ∧ W.cell? ⟨b, off + i * 6 + 5, none⟩ = some (.slice g.macs[i].y.A g.macs[i].y.n g.macs[i].y.c) ∧ W.cell? ⟨ob, 0, none⟩ = some (.slice B0 n0 dd0) ∧ W.cell? ⟨ob, 1, none⟩ = some (.slice B1 n1 dd1) ∧ W.cell? ⟨ob, 2, none⟩ = some (.slice A2 i c2)) := zzh (fun W hW => by
                have h2 := HC.out.blk.below hW HC.out.blk.lt
                have h3 := HC.out.bel.trans (hW.mono HC.out.bel.size)
                have h4 := hcell.below h3 hb
                obtain ⟨_, e1, e2⟩ := HX.out W h3
                exact ⟨e2, h4.c0, h4.c1, h4.c2, h4.c3, h4.c4, h4.c5, h2.cell 0, h2.cell 1, h2.cell 2⟩)
              have HPush := zzh (fun (W W3 : World) (o : Obj) v (hW : Below wr.heap.size wr W) (hg : (W.alloc o).grownBy W3 (.slice A2 i c2 : Value).ownBlock) (ho : W3.ownsRow (ob + 1) 81 6 v (i + 1) ((g.macs.take i).flatMap MacM.cells ++ g.macs[i].cells)) => (HC.out.below hW).push2 hls hg ho)
              have HO := zzh (fun (W : World) (hW : Below wr.heap.size wr W) => (HC.out.below hW).o2)
              have HKb := zzh (fun (W : World) (hW : Below wr.heap.size wr W) => (HC.out.below hW).blk)
              have HSz := zzh HC.out.blk.lt
              generalize g.macs[i] = m at *
              obtain ⟨nm, P, np, cp, res, ⟨yk, yt, yA, yn, yc⟩⟩ := m
              unfold MacM.agg at KG
              simp only at KF KG HFx HPush hA
              rw [hA] at HFx
              have HD1 := zzh (below_drewN (Below.refl wr.heap.size wr) 1)
              clear hcell hsig hcells hv1 hv2 hb x0 x1
              rw [hA] at x2
              clear hA
              obtain ⟨y0, y1, y2, y3, y4, y5, y6, y7, y8, y9⟩ := HFx.out wr.drew HD1.out
              have KF1 := zzh (KF.out _ HD1.out)
              go_upto_region 19 with fail
              refine wp_region_held_drew (S := (fun w' => w'.cell? ⟨w.heap.size, 2, none⟩ = some (.slice (some ⟨b, off, none⟩) n2 g.c2) ∧ w'.cell? ⟨b, off + i * 6, none⟩ = some (.string nm) ∧ w'.cell? ⟨b, off + i * 6 + 1, none⟩ = some (.slice P np cp) ∧ w'.cell? ⟨b, off + i * 6 + 2, none⟩ = some (.int .i64 res) ∧ w'.cell? ⟨b, off + i * 6 + 3, none⟩ = some (.int .i8 yk) ∧ w'.cell? ⟨b, off + i * 6 + 4, none⟩ = some (.string yt) ∧ w'.cell? ⟨b, off + i * 6 + 5, none⟩ = some (.slice yA yn yc) ∧ w'.cell? ⟨ob, 0, none⟩ = some (.slice B0 n0 dd0) ∧ w'.cell? ⟨ob, 1, none⟩ = some (.slice B1 n1 dd1) ∧ w'.cell? ⟨ob, 2, none⟩ = some (.slice A2 i c2))) (by kernel_rfl) ?_ (fun hHeld => ?_)
              · go_keep
              refine wpAnyH_take (i := 0) (v := ?_) rfl (by kernel_rfl) (by kernel_rfl) (by kernel_rfl) (fun _ _ _ h => h) (Or.inl ⟨by kernel_rfl, ?_⟩) (by assumption) ?_
              rotate_left
              · intro wS hSw
                try dsimp only at hSw
                go_simp
                first | done | with_reducible rfl
              try simp only [Act.put, zzd, zze, zza, zzb, zzc]
              refine wpAnyH_take (i := 1) (v := ?_) rfl (by kernel_rfl) (by kernel_rfl) (by kernel_rfl) (fun _ _ _ h => h) (Or.inl ⟨by kernel_rfl, ?_⟩) (by assumption) ?_
              rotate_left
              · intro wS hSw
                try dsimp only at hSw
                go_simp
                first | done | with_reducible rfl
              try simp only [Act.put, zzd, zze, zzf, zza, zzb, zzc]
              refine wpAnyH_take (i := 2) (v := ?_) rfl (by kernel_rfl) (by kernel_rfl) (by kernel_rfl) (fun _ _ _ h => h) (Or.inl ⟨by kernel_rfl, ?_⟩) (by assumption) ?_
              rotate_left
              · intro wS hSw
                try dsimp only at hSw
                go_simp
                first | done | with_reducible rfl
              try simp only [Act.put, zzd, zze, zzf, zza, zzb, zzc]
              refine wpAnyH_take (i := 3) (v := ?_) rfl (by kernel_rfl) (by kernel_rfl) (by kernel_rfl) (fun _ _ _ h => h) (Or.inl ⟨by kernel_rfl, ?_⟩) (by assumption) ?_
              rotate_left
              · intro wS hSw
                try dsimp only at hSw
                go_simp
                first | done | with_reducible rfl
              try simp only [Act.put, zzd, zze, zzf, zza, zzb, zzc]
              refine wpAnyH_take (i := 4) (v := ?_) rfl (by kernel_rfl) (by kernel_rfl) (by kernel_rfl) (fun _ _ _ h => h) (Or.inl ⟨by kernel_rfl, ?_⟩) (by assumption) ?_
              rotate_left
              · intro wS hSw
                try dsimp only at hSw
                go_simp
                first | done | with_reducible rfl
              try simp only [Act.put, zzd, zze, zzf, zza, zzb, zzc]
              refine wpAnyH_take (i := 5) (v := ?_) rfl (by kernel_rfl) (by kernel_rfl) (by kernel_rfl) (fun _ _ _ h => h) (Or.inl ⟨by kernel_rfl, ?_⟩) (by assumption) ?_
              rotate_left
              · intro wS hSw
                try dsimp only at hSw
                go_simp
                first | done | with_reducible rfl
              try simp only [Act.put, zzd, zze, zzf, zza, zzb, zzc]
              refine wpAnyH_take (i := 6) (v := ?_) rfl (by kernel_rfl) (by kernel_rfl) (by kernel_rfl) (fun _ _ _ h => h) (Or.inl ⟨by kernel_rfl, ?_⟩) (by assumption) ?_
              rotate_left
              · intro wS hSw
                try dsimp only at hSw
                go_simp
                first | done | with_reducible rfl
              try simp only [Act.put, zzd, zze, zzf, zza, zzb, zzc]
              refine wpAnyH_ready (rs := [7]) (by kernel_rfl) (by simp) ?_
              refine AllReadyH.cons rfl (fun K hK => ?_) AllReadyH.nil
              go_simp
              refine KF1.out.mono ?_
              rintro e w3 ⟨⟨r, rfl⟩, hb3⟩
              have HB3 := zzh (HD1.out.trans (hb3.mono HD1.out.size))
              obtain ⟨z0, z1, z2, z3, z4, z5, z6, z7, z8, z9⟩ := HFx.out w3 HB3.out
              clear hb3 y0 y1 y2 y3 y4 y5 y6 y7 y8 y9
              refine hK.out _ _ ?_ (fun hHeld => ?_)
              · go_keep
              clear hK K
              try simp only [Act.put, zzd, zze, zzf, zza, zzb, zzc]
              by_cases hr : r = 0
              rotate_left
              · have e1 : (r != 0) = true := bne_iff_ne.2 hr
                clear hr
                refine wpAnyH_take (i := 8) (v := ?_) rfl (by kernel_rfl) (by kernel_rfl) (by kernel_rfl) (fun _ _ _ h => h) (Or.inl ⟨by kernel_rfl, ?_⟩) (by assumption) ?_
                rotate_left
                · intro wS hSw
                  try dsimp only at hSw
                  go_simp
                  first | done | with_reducible rfl
                try simp only [Act.put, zzd, zze, zzf, zza, zzb, zzc]
                refine wpAnyH_take (i := 9) (v := ?_) rfl (by kernel_rfl) (by kernel_rfl) (by kernel_rfl) (fun _ _ _ h => h) (Or.inl ⟨by kernel_rfl, ?_⟩) (by assumption) ?_
                rotate_left
                · intro wS hSw
                  try dsimp only at hSw
                  go_simp
                  first | done | with_reducible rfl
                try simp only [Act.put, zzd, zze, zzf, zza, zzb, zzc]
                refine wpAnyH_take (i := 10) (v := undef) rfl (by kernel_rfl) (by kernel_rfl) (by kernel_rfl) (fun _ _ _ h => h) (Or.inr ⟨by kernel_rfl, rfl⟩) (by assumption) ?_
                try simp only [Act.put, zzd, zze, zzf, zza, zzb, zzc]
                refine wpAnyH_take (i := 11) (v := undef) rfl (by kernel_rfl) (by kernel_rfl) (by kernel_rfl) (fun _ _ _ h => h) (Or.inr ⟨by kernel_rfl, rfl⟩) (by assumption) ?_
                try simp only [Act.put, zzd, zze, zzf, zza, zzb, zzc]
                refine wpAnyH_take (i := 12) (v := undef) rfl (by kernel_rfl) (by kernel_rfl) (by kernel_rfl) (fun _ _ _ h => h) (Or.inr ⟨by kernel_rfl, rfl⟩) (by assumption) ?_
                try simp only [Act.put, zzd, zze, zzf, zza, zzb, zzc]
                refine wpAnyH_take (i := 13) (v := undef) rfl (by kernel_rfl) (by kernel_rfl) (by kernel_rfl) (fun _ _ _ h => h) (Or.inr ⟨by kernel_rfl, rfl⟩) (by assumption) ?_
                try simp only [Act.put, zzd, zze, zzf, zza, zzb, zzc]
                refine wpAnyH_take (i := 14) (v := undef) rfl (by kernel_rfl) (by kernel_rfl) (by kernel_rfl) (fun _ _ _ h => h) (Or.inr ⟨by kernel_rfl, rfl⟩) (by assumption) ?_
                try simp only [Act.put, zzd, zze, zzf, zza, zzb, zzc]
                refine wpAnyH_take (i := 15) (v := undef) rfl (by kernel_rfl) (by kernel_rfl) (by kernel_rfl) (fun _ _ _ h => h) (Or.inr ⟨by kernel_rfl, rfl⟩) (by assumption) ?_
                try simp only [Act.put, zzd, zze, zzf, zza, zzb, zzc]
                refine wpAnyH_take (i := 16) (v := undef) rfl (by kernel_rfl) (by kernel_rfl) (by kernel_rfl) (fun _ _ _ h => h) (Or.inr ⟨by kernel_rfl, rfl⟩) (by assumption) ?_
                try simp only [Act.put, zzd, zze, zzf, zza, zzb, zzc]
                refine wpAnyH_take (i := 17) (v := undef) rfl (by kernel_rfl) (by kernel_rfl) (by kernel_rfl) (fun _ _ _ h => h) (Or.inr ⟨by kernel_rfl, rfl⟩) (by assumption) ?_
                try simp only [Act.put, zzd, zze, zzf, zza, zzb, zzc]
                refine wpAnyH_take (i := 18) (v := ?_) rfl (by kernel_rfl) (by kernel_rfl) (by kernel_rfl) (fun _ _ _ h => h) (Or.inl ⟨by kernel_rfl, ?_⟩) (by assumption) ?_
                rotate_left
                · intro wS hSw
                  try dsimp only at hSw
                  go_simp
                  first | done | with_reducible rfl
                try simp only [Act.put, zzd, zze, zzf, zza, zzb, zzc]
                refine wpAnyH_done (by kernel_rfl) ?_ _
                go_wp2
                go_ret
                exact CkIs.bad (HB0.out.trans ((HC.out.bel.trans (HB3.out.mono HC.out.bel.size)).mono HB0.out.size))
              · have e1 : (r != 0) = false := by rw [hr]; rfl
                clear hr
                refine wpAnyH_take (i := 8) (v := ?_) rfl (by kernel_rfl) (by kernel_rfl) (by kernel_rfl) (fun _ _ _ h => h) (Or.inl ⟨by kernel_rfl, ?_⟩) (by assumption) ?_
                rotate_left
                · intro wS hSw
                  try dsimp only at hSw
                  go_simp
                  first | done | with_reducible rfl
                try simp only [Act.put, zzd, zze, zzf, zza, zzb, zzc]
                refine wpAnyH_take (i := 9) (v := ?_) rfl (by kernel_rfl) (by kernel_rfl) (by kernel_rfl) (fun _ _ _ h => h) (Or.inl ⟨by kernel_rfl, ?_⟩) (by assumption) ?_
                rotate_left
                · intro wS hSw
                  try dsimp only at hSw
                  go_simp
                  first | done | with_reducible rfl
                try simp only [Act.put, zzd, zze, zzf, zza, zzb, zzc]
                refine wpAnyH_take (i := 10) (v := ?_) rfl (by kernel_rfl) (by kernel_rfl) (by kernel_rfl) (fun _ _ _ h => h) (Or.inl ⟨by kernel_rfl, ?_⟩) (by assumption) ?_
                rotate_left
                · intro wS hSw
                  try dsimp only at hSw
                  go_simp
                  first | done | with_reducible rfl
                try simp only [Act.put, zzd, zze, zzf, zza, zzb, zzc]
                refine wpAnyH_take (i := 11) (v := ?_) rfl (by kernel_rfl) (by kernel_rfl) (by kernel_rfl) (fun _ _ _ h => h) (Or.inl ⟨by kernel_rfl, ?_⟩) (by assumption) ?_
                rotate_left
                · intro wS hSw
                  try dsimp only at hSw
                  go_simp
                  first | done | with_reducible rfl
                try simp only [Act.put, zzd, zze, zzf, zza, zzb, zzc]
                refine wpAnyH_take (i := 12) (v := ?_) rfl (by kernel_rfl) (by kernel_rfl) (by kernel_rfl) (fun _ _ _ h => h) (Or.inl ⟨by kernel_rfl, ?_⟩) (by assumption) ?_
                rotate_left
                · intro wS hSw
                  try dsimp only at hSw
                  go_simp
                  first | done | with_reducible rfl
                try simp only [Act.put, zzd, zze, zzf, zza, zzb, zzc]
                refine wpAnyH_take (i := 13) (v := ?_) rfl (by kernel_rfl) (by kernel_rfl) (by kernel_rfl) (fun _ _ _ h => h) (Or.inl ⟨by kernel_rfl, ?_⟩) (by assumption) ?_
                rotate_left
                · intro wS hSw
                  try dsimp only at hSw
                  go_simp
                  first | done | with_reducible rfl
                try simp only [Act.put, zzd, zze, zzf, zza, zzb, zzc]
                refine wpAnyH_take (i := 14) (v := ?_) rfl (by kernel_rfl) (by kernel_rfl) (by kernel_rfl) (fun _ _ _ h => h) (Or.inl ⟨by kernel_rfl, ?_⟩) (by assumption) ?_
                rotate_left
                · intro wS hSw
                  try dsimp only at hSw
                  go_simp
                  first | done | with_reducible rfl
                try simp only [Act.put, zzd, zze, zzf, zza, zzb, zzc]
                refine wpAnyH_take (i := 15) (v := ?_) rfl (by kernel_rfl) (by kernel_rfl) (by kernel_rfl) (fun _ _ _ h => h) (Or.inl ⟨by kernel_rfl, ?_⟩) (by assumption) ?_
                rotate_left
                · intro wS hSw
                  try dsimp only at hSw
                  go_simp
                  first | done | with_reducible rfl
                try simp only [Act.put, zzd, zze, zzf, zza, zzb, zzc]
                refine wpAnyH_ready (rs := [16]) (by kernel_rfl) (by simp) ?_
                refine AllReadyH.cons rfl (fun K hK => ?_) AllReadyH.nil
                go_simp
                refine (KG.out _ HB3.out).mono ?_
                rintro e w4 ⟨⟨b4, rfl⟩, hb4⟩
                have HB4 := zzh (HB3.out.trans (hb4.mono HB3.out.size))
                obtain ⟨y0, y1, y2, y3, y4, y5, y6, y7, y8, y9⟩ := HFx.out w4 HB4.out
                clear hb4 z0 z1 z2 z3 z4 z5 z6 z7 z8 z9
                refine hK.out _ _ ?_ (fun hHeld => ?_)
                · go_keep
                clear hK K
                try simp only [Act.put, zzd, zze, zzf, zza, zzb, zzc]
                refine wpAnyH_take (i := 17) (v := ?_) rfl (by kernel_rfl) (by kernel_rfl) (by kernel_rfl) (fun _ _ _ h => h) (Or.inl ⟨by kernel_rfl, ?_⟩) (by assumption) ?_
                rotate_left
                · intro wS hSw
                  try dsimp only at hSw
                  go_simp
                  first | done | with_reducible rfl
                try simp only [Act.put, zzd, zze, zzf, zza, zzb, zzc]
                refine wpAnyH_take (i := 18) (v := ?_) rfl (by kernel_rfl) (by kernel_rfl) (by kernel_rfl) (fun _ _ _ h => h) (Or.inl ⟨by kernel_rfl, ?_⟩) (by assumption) ?_
                rotate_left
                · intro wS hSw
                  try dsimp only at hSw
                  go_simp
                  first | done | with_reducible rfl
                try simp only [Act.put, zzd, zze, zzf, zza, zzb, zzc]
                refine wpAnyH_done (by kernel_rfl) ?_ _
                cases b4 with
                | false =>
                  go_wp2
                  go_ret
                  exact CkIs.bad (HB0.out.trans ((HC.out.bel.trans (HB4.out.mono HC.out.bel.size)).mono HB0.out.size))
                | true =>
                  have HD4 := zzh (HB4.out.trans ((below_drewN (Below.refl w4.heap.size w4) 1).mono HB4.out.size))
                  obtain ⟨z0, z1, z2, z3, z4, z5, z6, z7, z8, z9⟩ := HFx.out (w4.alloc (.cells #[.string nm, .slice P np cp, .int .i64 res, .int .i8 yk, .string yt, .slice yA yn yc] 81)) (HB4.out.alloc HB4.out.size _)
                  have HSz4 : Hid (ob < w4.drew.heap.size) := zzh (Nat.lt_of_lt_of_le HSz.out HD4.out.size)
                  have HK4 := zzh (HKb.out _ HD4.out)
                  go_upto_region 21 with fail
                  go_region_law (refine step_push _ rfl (.tmp 112) (.tmp 118) 24 rfl (ob + 1) 81 i2 (.agg #[.string { data := #[] }, .slice none 0 0, .int .i64 0, .int .i8 0, .string { data := #[] }, .slice none 0 0]) 6 96 Tryz.underlying24 ki0 kz0 kz1 kz2 rfl (by decide) (.slice A2 i c2) i ((g.macs.take i).flatMap MacM.cells) rfl (own_kept (HO.out _ HD4.out) ((Kept.refl (fun _ => False) w4.drew).alloc _) (fun _ _ e => e)) w4.heap.size #[.string nm, .slice P np cp, .int .i64 res, .int .i8 yk, .string yt, .slice yA yn yc] rfl (Blk.new _ _ _) rfl (by simp [Value.oneCell']) (by omega) (by omega) HSz4.out (fun g3 cap3 w5 hown hgrow hat hlt1 => ?_); have HO5 := zzh hown; have HG5 := zzh hgrow; have hb5 := (HK4.out.alloc (.cells #[.string nm, .slice P np cp, .int .i64 res, .int .i8 yk, .string yt, .slice yA yn yc] 81)).grown hgrow (fun e => by have := ((HO.out _ HD4.out).lt ob e.symm).1; omega); have q2 : w5.cell? ⟨ob, 2, none⟩ = some (.slice A2 i c2) := hb5.cell 2; have q3 := hb5.frozen 2; clear hown hgrow hat hlt1 hb5)
                  all_goals
                    have HP := zzh (HPush.out _ _ _ _ HD4.out HG5.out HO5.out)
                    go_wp2
                    go_roundg gk
                    case measure => omega
                    case rel => exact ⟨i + 1, by omega, by go_num, _, HP.out⟩
            | zero =>
              obtain rfl : n2 = i := by omega
              have d1 : decide ((n2 : Int) < (n2 : Int)) = false := by simp
              go_wp2
              go_ret
              exact ⟨0, rfl, fun _ => HL.out, HB0.out.trans (HC.out.bel.mono HB0.out.size)⟩
structure RwM where
  a0 : Int
  a1 : Int
  a2 : Int
  val : Int
def RwM.arg (r : RwM) (i : Nat) : Int := if i = 0 then r.a0 else if i = 1 then r.a1 else r.a2
structure FvM where
  R : Option Addr
  rc : Nat
  rows : List RwM
  els : Int
structure WldV where
  A0 : Option Addr
  c0 : Nat
  sizes : List Int
  A1 : Option Addr
  c1 : Nat
  funs : List FvM
def WldV.cells (v : WldV) : Array Value := #[.slice v.A0 v.sizes.length v.c0, .slice v.A1 v.funs.length v.c1]
structure RwAt (w : World) (b o : Nat) (r : RwM) : Prop where
  c0 : w.cell? ⟨b, o, none⟩ = some (.int .i64 r.a0)
  c1 : w.cell? ⟨b, o + 1, none⟩ = some (.int .i64 r.a1)
  c2 : w.cell? ⟨b, o + 2, none⟩ = some (.int .i64 r.a2)
  c3 : w.cell? ⟨b, o + 3, none⟩ = some (.int .i64 r.val)
  w0 : I64 r.a0
  w1 : I64 r.a1
  w2 : I64 r.a2
structure WldAt (w : World) (v : WldV) : Prop where
  n0 : v.sizes.length ≤ 9223372036854775807
  n1 : v.funs.length ≤ 9223372036854775807
  s : ∀ i (hi : i < v.sizes.length), ∃ b off, v.A0 = some ⟨b, off, none⟩ ∧ b < w.heap.size ∧ w.cell? ⟨b, off + i, none⟩ = some (.int .i64 v.sizes[i])
  f : ∀ i (hi : i < v.funs.length), ∃ b off, v.A1 = some ⟨b, off, none⟩ ∧ b < w.heap.size ∧ w.cell? ⟨b, off + i * 2, none⟩ = some (.slice v.funs[i].R v.funs[i].rows.length v.funs[i].rc) ∧ w.cell? ⟨b, off + i * 2 + 1, none⟩ = some (.int .i64 v.funs[i].els)
  r : ∀ f ∈ v.funs, f.rows.length ≤ 9223372036854775807 ∧ ∀ k (hk : k < f.rows.length), ∃ b off, f.R = some ⟨b, off, none⟩ ∧ b < w.heap.size ∧ RwAt w b (off + k * 4) f.rows[k]
theorem RwAt.below {w w' : World} {b o : Nat} {r : RwM} (h : RwAt w b o r) (hb : Below w.heap.size w w') (hlt : b < w.heap.size) : RwAt w' b o r :=
  ⟨(hb.cell (p := ⟨b, o, none⟩) hlt).trans h.c0, (hb.cell (p := ⟨b, o + 1, none⟩) hlt).trans h.c1, (hb.cell (p := ⟨b, o + 2, none⟩) hlt).trans h.c2, (hb.cell (p := ⟨b, o + 3, none⟩) hlt).trans h.c3, h.w0, h.w1, h.w2⟩
theorem WldAt.below {w w' : World} {v : WldV} (h : WldAt w v) (hb : Below w.heap.size w w') : WldAt w' v := by
  refine ⟨h.n0, h.n1, fun i hi => ?_, fun i hi => ?_, fun f hf => ⟨(h.r f hf).1, fun k hk => ?_⟩⟩
  · obtain ⟨b, off, e, hlt, h0⟩ := h.s i hi
    exact ⟨b, off, e, Nat.lt_of_lt_of_le hlt hb.size, (hb.cell (p := ⟨b, off + i, none⟩) hlt).trans h0⟩
  · obtain ⟨b, off, e, hlt, h0, h1⟩ := h.f i hi
    exact ⟨b, off, e, Nat.lt_of_lt_of_le hlt hb.size, (hb.cell (p := ⟨b, off + i * 2, none⟩) hlt).trans h0, (hb.cell (p := ⟨b, off + i * 2 + 1, none⟩) hlt).trans h1⟩
  · obtain ⟨b, off, e, hlt, h0⟩ := (h.r f hf).2 k hk
    exact ⟨b, off, e, Nat.lt_of_lt_of_le hlt hb.size, h0.below hb hlt⟩
def mayN (v : Int) : Bool := decide (-4611686018427387904 ≤ v ∧ v ≤ 4611686018427387904)
def isM (n : Nat) (sizes : List Int) (sort v : Int) : Bool :=
  if sizes.length ≠ n ∨ sort < 0 ∨ (n : Int) + 2 ≤ sort then false
  else if sort = 0 then decide (v = 0 ∨ v = 1) else if sort = 1 then mayN v else decide (0 ≤ v ∧ v < sizes.getD (sort - 2).toNat 0)
theorem may01_ok (v : Int) (w : World) : Calls Tryz.prog 111 #[.int .i64 v] w fun e w' => e = .returned (.bool (mayN v)) ∧ w = w' := by
  have e : mayN v = (decide ((-4611686018427387904 : Int) ≤ v) && decide (v ≤ 4611686018427387904)) := by unfold mayN; rw [Bool.decide_and]
  rw [e]
  clear e
  by_cases h1 : (-4611686018427387904 : Int) ≤ v
  · have d1 : decide ((-4611686018427387904 : Int) ≤ v) = true := decide_eq_true h1
    have d1' : decide (v ≥ (-4611686018427387904 : Int)) = true := decide_eq_true h1
    rw [d1]
    clear h1
    go_enter Tryz.func111, Tryz.ntmps111
    go_wp2
    go_ret
    exact ⟨by simp, rfl⟩
  · have d1 : decide ((-4611686018427387904 : Int) ≤ v) = false := decide_eq_false h1
    have d1' : decide (v ≥ (-4611686018427387904 : Int)) = false := decide_eq_false h1
    rw [d1]
    clear h1
    go_enter Tryz.func111, Tryz.ntmps111
    go_wp2
    go_ret
    exact ⟨by simp, rfl⟩
theorem wld_blk {w : World} {v : WldV} {b : Nat} (h : Blk w b 30 v.cells) : w.cell? ⟨b, 0, none⟩ = some (.slice v.A0 v.sizes.length v.c0) ∧ w.cell? ⟨b, 1, none⟩ = some (.slice v.A1 v.funs.length v.c1) := ⟨h.cell 0, h.cell 1⟩
set_option maxRecDepth 100000 in
set_option maxHeartbeats 4000000 in
theorem is09_ok {w : World} (g : SigV) {wl : WldV} (hw : WldAt w wl) (hg : g.sorts.length ≤ 9223372036854775800) (sort v : Int) (hs : I64 sort) :
    Calls Tryz.prog 99 #[.agg g.cells, .agg wl.cells, .int .i64 sort, .int .i64 v] w fun e w' => e = .returned (.bool (isM g.sorts.length wl.sizes sort v)) ∧ Below w.heap.size w w' := by
  obtain ⟨w0, hw0⟩ : ∃ w0, (w.alloc (.cells g.cells 26)).alloc (.cells wl.cells 30) = w0 := ⟨_, rfl⟩
  have HB0 : Hid (Below w.heap.size w w0) := zzh (by rw [← hw0]; exact (sig_box w g).alloc (sig_box w g).size _)
  have HG0 : Hid (Blk w0 w.heap.size 26 g.cells) := zzh (by rw [← hw0]; exact (Blk.new w 26 g.cells).alloc _)
  have HF0 : Hid (Blk w0 (w.heap.size + 1) 30 wl.cells) := zzh (by rw [← hw0]; exact Blk.new_at (by simp) _ _)
  have H := zzh (hw.below HB0.out)
  obtain ⟨x0, x1, x2⟩ := sig_blk HG0.out
  obtain ⟨y0, y1⟩ := wld_blk HF0.out
  have hn := hw.n0
  obtain ⟨hs0, hs1⟩ := hs
  clear hw
  have HV : Hid (isM g.sorts.length wl.sizes sort v = if wl.sizes.length ≠ g.sorts.length ∨ sort < 0 ∨ (g.sorts.length : Int) + 2 ≤ sort then false else if sort = 0 then decide (v = 0 ∨ v = 1) else if sort = 1 then mayN v else decide (0 ≤ v ∧ v < wl.sizes.getD (sort - 2).toNat 0)) := zzh rfl
  obtain ⟨A0, c0, S, A1, c1, F, A2, c2, M⟩ := g
  obtain ⟨B0, d0, Z, B1, d1, V⟩ := wl
  unfold SigV.cells WldV.cells at *
  simp only at *
  obtain ⟨R, hR⟩ : ∃ R, isM S.length Z sort v = R := ⟨_, rfl⟩
  rw [hR] at HV ⊢
  have HW0 := zzh hw0
  clear hR hw0 HG0 HF0
  have hwr : IntKind.i64.wrap (2 + (S.length : Int)) = 2 + (S.length : Int) := by unfold IntKind.wrap; simp [IntKind.bits, IntKind.signed]; omega
  go_enter Tryz.func99, Tryz.ntmps99
  go_upto_region 1 with fail
  rw [HW0.out]
  clear HW0
  by_cases h1 : Z.length = S.length
  rotate_left
  · have e1 : ((Z.length : Int) != (S.length : Int)) = true := bne_iff_ne.2 (by omega)
    have HE : Hid (R = false) := zzh (by rw [HV.out, if_pos (.inl h1)])
    clear h1 hs0 hs1
    go_wp2
    go_ret
    exact ⟨by rw [HE.out]; rfl, HB0.out⟩
  have e1 : ((Z.length : Int) != (S.length : Int)) = false := by rw [h1]; simp
  by_cases h2 : sort < 0
  · have e2 : decide (sort < 0) = true := decide_eq_true h2
    have HE : Hid (R = false) := zzh (by rw [HV.out, if_pos (.inr (.inl h2))])
    clear h1 h2 hs0 hs1
    go_wp2
    go_ret
    exact ⟨by rw [HE.out]; rfl, HB0.out⟩
  have e2 : decide (sort < 0) = false := decide_eq_false h2
  by_cases h3 : 2 + (S.length : Int) ≤ sort
  · have e3 : decide (2 + (S.length : Int) ≤ sort) = true := decide_eq_true h3
    have e3' : decide (sort ≥ 2 + (S.length : Int)) = true := decide_eq_true h3
    have HE : Hid (R = false) := zzh (by rw [HV.out, if_pos (.inr (.inr (by omega)))])
    clear h1 h2 h3 hs0 hs1
    go_wp2
    go_ret
    exact ⟨by rw [HE.out]; rfl, HB0.out⟩
  have e3 : decide (2 + (S.length : Int) ≤ sort) = false := decide_eq_false h3
  have e3' : decide (sort ≥ 2 + (S.length : Int)) = false := decide_eq_false h3
  have HE : Hid (R = if sort = 0 then decide (v = 0 ∨ v = 1) else if sort = 1 then mayN v else decide (0 ≤ v ∧ v < Z.getD (sort - 2).toNat 0)) := zzh (by rw [HV.out, if_neg (by omega)])
  by_cases h4 : sort = 0
  · have e4 : (sort == 0) = true := beq_iff_eq.2 h4
    have HE2 : Hid (R = (v == 0 || v == 1)) := zzh (by rw [HE.out, if_pos h4, Bool.decide_or]; rfl)
    clear h1 h2 h3 h4 hs0 hs1 HE
    by_cases h5 : v = 0
    · have e5 : (v == 0) = true := beq_iff_eq.2 h5
      rw [e5] at HE2
      clear h5
      go_wp2
      go_ret
      exact ⟨by rw [HE2.out]; rfl, HB0.out⟩
    · have e5 : (v == 0) = false := beq_eq_false_iff_ne.2 h5
      rw [e5] at HE2
      clear h5
      go_wp2
      go_ret
      exact ⟨by rw [HE2.out]; rfl, HB0.out⟩
  have e4 : (sort == 0) = false := beq_eq_false_iff_ne.2 h4
  by_cases h5 : sort = 1
  · have e5 : (sort == 1) = true := beq_iff_eq.2 h5
    have HE2 : Hid (R = mayN v) := zzh (by rw [HE.out, if_neg h4, if_pos h5])
    clear h1 h2 h3 h4 h5 hs0 hs1 HE
    go_wp2_with (go_at_call 111; refine (may01_ok v _).mono ?_; rintro e w1 ⟨rfl, rfl⟩)
    go_ret
    exact ⟨by rw [HE2.out]; rfl, HB0.out⟩
  have e5 : (sort == 1) = false := beq_eq_false_iff_ne.2 h5
  obtain ⟨k, hk⟩ : ∃ k : Nat, sort = (k : Int) + 2 := ⟨(sort - 2).toNat, by omega⟩
  subst hk
  have hkz : k < Z.length := by omega
  have HE2 : Hid (R = decide (0 ≤ v ∧ v < Z[k])) := zzh (by rw [HE.out, if_neg h4, if_neg h5, show ((k : Int) + 2 - 2).toNat = k by omega, List.getD_eq_getElem?_getD, List.getElem?_eq_getElem hkz]; rfl)
  have hw2 : IntKind.i64.wrap ((k : Int) + 2 - 2) = (k : Int) := by unfold IntKind.wrap; simp [IntKind.bits, IntKind.signed]; omega
  have t1 : (0 : Int) ≤ (k : Int) := by omega
  have t2 : (k : Int) < (Z.length : Int) := by omega
  obtain ⟨b, off, hA, hb, z0⟩ := H.out.s k hkz
  dsimp only at hA z0
  subst hA
  generalize Z[k] = q at *
  clear h1 h2 h3 h4 h5 hs0 hs1 HE
  by_cases h6 : 0 ≤ v
  · have e6 : decide ((0 : Int) ≤ v) = true := decide_eq_true h6
    have e6' : decide (v ≥ (0 : Int)) = true := decide_eq_true h6
    have HE3 : Hid (R = decide (v < q)) := zzh (by rw [HE2.out]; exact decide_eq_decide.2 (by omega))
    clear h6 HE2
    go_wp2
    go_ret
    exact ⟨by rw [HE3.out]; rfl, HB0.out⟩
  · have e6 : decide ((0 : Int) ≤ v) = false := decide_eq_false h6
    have e6' : decide (v ≥ (0 : Int)) = false := decide_eq_false h6
    have HE3 : Hid (R = false) := zzh (by rw [HE2.out]; exact decide_eq_false (by omega))
    clear h6 HE2
    go_wp2
    go_ret
    exact ⟨by rw [HE3.out]; rfl, HB0.out⟩
end Go.Proofs.YtlipnnibagidiaaGreat
namespace Go.Proofs.YtlipnnibagidiaaGreat
open Go.RowKit Go.Lib
open Go.Maps (Keyed)
def triV (a b c : Int) : Value := .agg #[.int .i64 a, .int .i64 b, .int .i64 c]
theorem tri_at : Tryz.prog.keyTypeAt 4 49 = true := by kernel_rfl
theorem tri_wide : (match Tryz.prog.underlying 49 with | some (.array _ _) | some (.struct _) => true | _ => false) = true := by kernel_rfl
set_option maxRecDepth 100000 in
theorem tri_key : Keyed Tryz.prog 49 := Keyed.of_law (deep_law_laid laidOut (m := 4) (by omega) (of_decide_eq_true (by kernel_rfl)) tri_at tri_wide)
theorem tri_keyT : Tryz.prog.keyType 49 = true := by kernel_rfl
theorem tri_cells : Tryz.prog.cellsOf 49 = 3 := by kernel_rfl
set_option maxRecDepth 100000 in
theorem tri_lits (m : Nat) {a b c : Int} (ha : I64 a) (hb : I64 b) (hc : I64 c) : ∃ L, Tryz.prog.keyLits (m + 3 + 1) 49 [.int .i64 a, .int .i64 b, .int .i64 c] = some L := by
  have w2 := int_wf ha.1 ha.2
  have w3 := int_wf hb.1 hb.2
  have w4 := int_wf hc.1 hc.2
  have hr : List.range 3 = [0, 1, 2] := rfl
  unfold Program.keyLits
  rw [Tryz.underlying49]
  simp [cells_int, cells_arr3, Program.keyLits, Tryz.underlying3, w2, w3, w4, hr]
theorem tri_keyOf {a b c : Int} (ha : I64 a) (hb : I64 b) (hc : I64 c) : ∃ kl, keyOf Tryz.prog 49 (triV a b c) = some kl := by
  obtain ⟨m, hm⟩ := types_size3
  obtain ⟨L, hL⟩ := tri_lits m ha hb hc
  unfold keyOf
  rw [Tryz.underlying49]
  simp only
  rw [hm, if_pos (by rw [tri_keyT]; simp [Value.formed, triV, Tryz.underlying49, tri_cells])]
  refine ⟨.string (keyBytes L), ?_⟩
  have : (triV a b c).cells.toList = [.int .i64 a, .int .i64 b, .int .i64 c] := rfl
  rw [this, hL]
  rfl
theorem triV_inj {a b c a' b' c' : Int} (h : triV a b c = triV a' b' c') : a = a' ∧ b = b' ∧ c = c' := by
  simp [triV] at h
  exact h
set_option maxRecDepth 100000 in
theorem tri_eq {a b c a' b' c' : Int} (ha : I64 a) (hb : I64 b) (hc : I64 c) (ha' : I64 a') (hb' : I64 b') (hc' : I64 c') : ∃ r : Bool, (r = true ↔ a = a' ∧ b = b' ∧ c = c') ∧ ∀ w, (Op.equal 49 (triV a b c) (triV a' b' c')).run Tryz.prog w = .ok r w := by
  obtain ⟨l1, e1⟩ := tri_keyOf ha hb hc
  obtain ⟨l2, e2⟩ := tri_keyOf ha' hb' hc'
  have key : ∀ w, ∃ r : Bool, (Op.equal 49 (triV a b c) (triV a' b' c')).run Tryz.prog w = .ok r w ∧ (r = true ↔ l1 = l2) := fun w => run_equal_deep w (m := 4) (by omega) tri_at tri_wide e1 e2
  have hl : l1 = l2 ↔ (a = a' ∧ b = b' ∧ c = c') := ⟨fun e => triV_inj (tri_key.inj e1 (e ▸ e2)), fun ⟨x, y, z⟩ => by subst x y z; rw [e1] at e2; exact Option.some.inj e2⟩
  by_cases hn : a = a' ∧ b = b' ∧ c = c'
  · refine ⟨true, ⟨fun _ => hn, fun _ => rfl⟩, fun w => ?_⟩
    obtain ⟨r, h1, h2⟩ := key w
    rw [h1, h2.2 (hl.2 hn)]
  · refine ⟨false, ⟨fun e => (by cases e), fun e => absurd e hn⟩, fun w => ?_⟩
    obtain ⟨r, h1, h2⟩ := key w
    cases r with
    | false => exact h1
    | true => exact absurd (hl.1 (h2.1 rfl)) hn
theorem tri_guardT : Tryz.prog.eqGuardType Tryz.prog.depth 49 = false := by kernel_rfl
theorem tri_guard (op : BinOp) (x y : Operand) (xs ys : Array Value) (w : World) : (eqGuard op 49 x y (.agg xs) (.agg ys)).run Tryz.prog w = .ok () w := run_eqGuard_agg w op _ x y xs ys tri_guardT
theorem tri_eql {r : Bool} {xs ys : Array Value} (h : ∀ w, (Op.equal 49 (.agg xs) (.agg ys)).run Tryz.prog w = .ok r w) (w : World) : (binOp .eql 49 (.agg xs) (.agg ys)).run Tryz.prog w = .ok (.bool r) w := by
  simp only [binOp, Sem.run_bind, h, Result.andThen_ok, Sem.run_pure]
def okA (n : Nat) (sizes : List Int) (f : FnM) (r : RwM) (i : Nat) : Bool := if (i : Int) < f.len then isM n sizes (f.arg i) (r.arg i) else r.arg i == 0
def fitsM (n : Nat) (sizes : List Int) (f : FnM) (r : RwM) : Bool := (List.range 3).all (okA n sizes f r)
def RwM.tri (r : RwM) : Array Value := #[.int .i64 r.a0, .int .i64 r.a1, .int .i64 r.a2]
theorem RwM.tri_arg (r : RwM) {i : Nat} (h : i < 3) : r.tri[i]? = some (.int .i64 (r.arg i)) := by
  match i, h with
  | 0, _ => rfl
  | 1, _ => rfl
  | 2, _ => rfl
set_option maxRecDepth 100000 in
set_option maxHeartbeats 8000000 in
theorem fits09_ok {w : World} (g : SigV) {wl : WldV} {f : FnM} (r : RwM) (hw : WldAt w wl) (hg : g.sorts.length ≤ 9223372036854775800) (hf : f.Wf) :
    Calls Tryz.prog 100 #[.agg g.cells, .agg wl.cells, .agg f.agg, .agg r.tri] w fun e w' => e = .returned (.bool (fitsM g.sorts.length wl.sizes f r)) ∧ Below w.heap.size w w' := by
  obtain ⟨w0, hw0⟩ : ∃ w0, (((w.alloc (.cells g.cells 26)).alloc (.cells wl.cells 30)).alloc (.cells f.agg 149)).alloc (.cells r.tri 49) = w0 := ⟨_, rfl⟩
  have HB0 : Hid (Below w.heap.size w w0) := zzh (by rw [← hw0]; exact ((((Below.refl _ w).alloc (Nat.le_refl _) _).alloc (by simp) _).alloc (by simp; omega) _).alloc (by simp; omega) _)
  have HG0 : Hid (Blk w0 w.heap.size 26 g.cells) := zzh (by rw [← hw0]; exact (((Blk.new w 26 g.cells).alloc _).alloc _).alloc _)
  have HV0 : Hid (Blk w0 (w.heap.size + 1) 30 wl.cells) := zzh (by rw [← hw0]; exact ((Blk.new_at (by simp) _ _).alloc _).alloc _)
  have HF0 : Hid (Blk w0 (w.heap.size + 1 + 1) 149 f.agg) := zzh (by rw [← hw0]; exact (Blk.new_at (by simp) _ _).alloc _)
  have HA0 : Hid (Blk w0 (w.heap.size + 1 + 1 + 1) 49 r.tri) := zzh (by rw [← hw0]; exact Blk.new_at (by simp) _ _)
  have H := zzh (hw.below HB0.out)
  have HX : Hid (∀ W, Below w0.heap.size w0 W → (W.cell? ⟨w.heap.size, 0, none⟩ = some (.slice g.A0 g.sorts.length g.c0) ∧ W.cell? ⟨w.heap.size, 1, none⟩ = some (.slice g.A1 g.funs.length g.c1) ∧ W.cell? ⟨w.heap.size, 2, none⟩ = some (.slice g.A2 g.macs.length g.c2)) ∧ (W.cell? ⟨w.heap.size + 1, 0, none⟩ = some (.slice wl.A0 wl.sizes.length wl.c0) ∧ W.cell? ⟨w.heap.size + 1, 1, none⟩ = some (.slice wl.A1 wl.funs.length wl.c1)) ∧ W.cell? ⟨w.heap.size + 1 + 1, 1, none⟩ = some (.int .i64 f.len) ∧ ∀ i, i < 3 → W.cell? ⟨w.heap.size + 1 + 1, 2 + i, none⟩ = some (.int .i64 (f.arg i)) ∧ W.cell? ⟨w.heap.size + 1 + 1 + 1, i, none⟩ = some (.int .i64 (r.arg i))) := zzh (fun W hW => by
    have h2 := HF0.out.below hW HF0.out.lt
    have h3 := HA0.out.below hW HA0.out.lt
    exact ⟨sig_blk (HG0.out.below hW HG0.out.lt), wld_blk (HV0.out.below hW HV0.out.lt), h2.cell 1, fun i hi => ⟨by rw [h2.cell]; exact FnM.agg_arg f hi, by rw [h3.cell]; exact RwM.tri_arg r hi⟩⟩)
  have KT := zzh (fun W (hW : Below w0.heap.size w0 W) (s v : Int) (hs : I64 s) => is09_ok g (H.out.below hW) hg s v hs)
  have HWf := zzh hf
  have HOk : Hid (fitsM g.sorts.length wl.sizes f r = (List.range 3).all (okA g.sorts.length wl.sizes f r)) := zzh rfl
  have HOi := zzh (fun i => show okA g.sorts.length wl.sizes f r i = (if (i : Int) < f.len then isM g.sorts.length wl.sizes (f.arg i) (r.arg i) else r.arg i == 0) from rfl)
  obtain ⟨R, hR⟩ : ∃ R, fitsM g.sorts.length wl.sizes f r = R := ⟨_, rfl⟩
  rw [hR] at HOk ⊢
  generalize okA g.sorts.length wl.sizes f r = ok at *
  clear hw hf hR
  obtain ⟨A0, c0, S, A1, c1, F, A2, c2, M⟩ := g
  obtain ⟨B0, d0, Z, B1, d1, V⟩ := wl
  obtain ⟨nm, len, a0, a1, a2, res⟩ := f
  unfold SigV.cells WldV.cells FnM.agg RwM.tri at *
  simp only at *
  have HW0 := zzh hw0
  clear hw0 HG0 HF0 HV0 HA0 H
  go_enter Tryz.func100, Tryz.ntmps100
  go_upto_region 1 with fail
  rw [HW0.out]
  clear HW0
  have HZ := zzh (Below.refl w0.heap.size w0)
  go_wp2
  go_loopg [9] 3 (fun g v wr => ∃ i : Nat, i + g = 3 ∧ v = .int .i64 i ∧ (∀ k, k < i → ok k = true) ∧ Below w0.heap.size w0 wr)
  case atStart => exact ⟨0, by omega, rfl, fun k hk => absurd hk (Nat.not_lt_zero _), HZ.out⟩
  case round =>
    obtain ⟨i, hig, rfl, hall, hb⟩ := hrel
    have HB := zzh hb
    have HAll := zzh hall
    clear hb hall
    cases gk with
    | zero =>
      obtain rfl : i = 3 := by omega
      have HE : Hid (R = true) := zzh (by rw [HOk.out, List.all_eq_true]; exact fun k hk => HAll.out k (List.mem_range.1 hk))
      go_wp2
      go_ret
      exact ⟨by rw [HE.out]; rfl, HB0.out.trans (HB.out.mono HB0.out.size)⟩
    | succ gk =>
      have hi3 : i < 3 := by omega
      have d2 : decide ((i : Int) < 3) = true := decide_eq_true (by omega)
      have t1 : (0 : Int) ≤ (i : Int) := by omega
      have t2 : (i : Int) < (3 : Int) := by omega
      have hai := HWf.out.arg i
      have HNext : Hid (ok i = true → ∀ k, k < i + 1 → ok k = true) := zzh (fun e k hk => by
        by_cases hki : k = i
        · rw [hki]; exact e
        · exact HAll.out k (by omega))
      have HBad : Hid (ok i = false → R = false) := zzh (fun e => by
        rw [HOk.out]
        rcases hq : (List.range 3).all ok with _ | _
        · rfl
        · rw [List.all_eq_true.1 hq i (List.mem_range.2 hi3)] at e; cases e)
      have hoi := HOi.out i
      have HFx : Hid (∀ W, Below wr.heap.size wr W → W.cell? ⟨w.heap.size, 0, none⟩ = some (.slice A0 S.length c0) ∧ W.cell? ⟨w.heap.size, 1, none⟩ = some (.slice A1 F.length c1) ∧ W.cell? ⟨w.heap.size, 2, none⟩ = some (.slice A2 M.length c2) ∧ W.cell? ⟨w.heap.size + 1, 0, none⟩ = some (.slice B0 Z.length d0) ∧ W.cell? ⟨w.heap.size + 1, 1, none⟩ = some (.slice B1 V.length d1) ∧ W.cell? ⟨w.heap.size + 1 + 1, 1, none⟩ = some (.int .i64 len) ∧ W.cell? ⟨w.heap.size + 1 + 1, 2 + i, none⟩ = some (.int .i64 (FnM.arg ⟨nm, len, a0, a1, a2, res⟩ i)) ∧ W.cell? ⟨w.heap.size + 1 + 1 + 1, i, none⟩ = some (.int .i64 (r.arg i))) := zzh (fun W hW => by
        obtain ⟨⟨k0, k1, k2⟩, ⟨k3, k4⟩, k5, k6⟩ := HX.out W (HB.out.trans (hW.mono HB.out.size))
        exact ⟨k0, k1, k2, k3, k4, k5, (k6 i hi3).1, (k6 i hi3).2⟩)
      have KI := zzh (fun W (hW : Below wr.heap.size wr W) => KT.out W (HB.out.trans (hW.mono HB.out.size)) _ (r.arg i) hai)
      generalize FnM.arg ⟨nm, len, a0, a1, a2, res⟩ i = ai at *
      generalize r.arg i = ri at *
      obtain ⟨q, hq⟩ : ∃ q, isM S.length Z ai ri = q := ⟨_, rfl⟩
      rw [hq] at KI hoi
      have HOi1 := zzh hoi
      clear hai hq hoi
      go_upto_region 4 with fail
      by_cases hil : (i : Int) < len
      · have d3 : decide ((i : Int) < len) = true := decide_eq_true hil
        have d4 : decide ((i : Int) ≥ len) = false := decide_eq_false (by omega)
        have d4' : decide (len ≤ (i : Int)) = false := decide_eq_false (by omega)
        have HO2 : Hid (ok i = q) := zzh (by rw [HOi1.out, if_pos hil])
        clear hil
        cases q with
        | true =>
          have HN := zzh (HNext.out HO2.out)
          refine wp_region_quiet (C := fun w' => Below wr.heap.size wr w') (by kernel_rfl) (by kernel_rfl) (⟨rfl, rfl, rfl, Nat.le_refl _, fun _ _ => rfl⟩) ?_
          refine QW.lit ?_
          refine qw_want rfl ?_ (fun w' hw' => ?_) ?_
          rotate_left
          · unfold Oper.quietAt
            go_simp
            exact rfl
          simp only [Act.put, zza, zzc, zzb]
          refine qw_want rfl ?_ (fun w' hw' => ?_) ?_
          rotate_left
          · unfold Oper.quietAt
            go_simp
            exact rfl
          simp only [Act.put, zza, zzc, zzb]
          refine qw_want rfl ?_ (fun w' hw' => ?_) ?_
          rotate_left
          · obtain ⟨k0, k1, k2, k3, k4, k5, k6, k7⟩ := HFx.out w' hw'
            unfold Oper.quietAt
            go_simp
            exact rfl
          simp only [Act.put, zza, zzc, zzb]
          refine qw_want rfl ?_ (fun w' hw' => ?_) ?_
          rotate_left
          · unfold Oper.quietAt
            go_simp
            exact rfl
          simp only [Act.put, zza, zzc, zzb]
          refine qw_want rfl ?_ (fun w' hw' => ?_) ?_
          rotate_left
          · unfold Oper.quietAt
            go_simp
            exact rfl
          simp only [Act.put, zza, zzc, zzb]
          refine qw_want rfl ?_ (fun w' hw' => ?_) ?_
          rotate_left
          · obtain ⟨k0, k1, k2, k3, k4, k5, k6, k7⟩ := HFx.out w' hw'
            unfold Oper.quietAt
            go_simp
            exact rfl
          simp only [Act.put, zza, zzc, zzb]
          refine qw_want rfl ?_ (fun w' hw' => ?_) ?_
          rotate_left
          · obtain ⟨k0, k1, k2, k3, k4, k5, k6, k7⟩ := HFx.out w' hw'
            unfold Oper.quietAt
            go_simp
            exact rfl
          simp only [Act.put, zza, zzc, zzb]
          refine qw_want rfl ?_ (fun w' hw' => ?_) ?_
          rotate_left
          · unfold Oper.quietAt
            go_simp
            exact rfl
          simp only [Act.put, zza, zzc, zzb]
          refine qw_want rfl ?_ (fun w' hw' => ?_) ?_
          rotate_left
          · unfold Oper.quietAt
            go_simp
            exact rfl
          simp only [Act.put, zza, zzc, zzb]
          refine qw_want rfl ?_ (fun w' hw' => ?_) ?_
          rotate_left
          · unfold Oper.quietAt
            go_simp
            exact rfl
          simp only [Act.put, zza, zzc, zzb]
          refine qw_want rfl ?_ (fun w' hw' => ?_) ?_
          rotate_left
          · obtain ⟨k0, k1, k2, k3, k4, k5, k6, k7⟩ := HFx.out w' hw'
            unfold Oper.quietAt
            go_simp
            exact rfl
          simp only [Act.put, zza, zzc, zzb]
          refine qw_want rfl ?_ (fun w' hw' => ?_) ?_
          rotate_left
          · unfold Oper.quietAt
            go_simp
            exact rfl
          simp only [Act.put, zza, zzc, zzb]
          refine qw_want rfl ?_ (fun w' hw' => ?_) ?_
          rotate_left
          · unfold Oper.quietAt
            go_simp
            exact rfl
          simp only [Act.put, zza, zzc, zzb]
          refine qw_want rfl ?_ (fun w' hw' => ?_) ?_
          rotate_left
          · obtain ⟨k0, k1, k2, k3, k4, k5, k6, k7⟩ := HFx.out w' hw'
            unfold Oper.quietAt
            go_simp
            exact rfl
          simp only [Act.put, zza, zzc, zzb]
          refine qw_want rfl (.bool true) (fun w' hw' => ?_) ?_
          · unfold Oper.quietAt
            go_simp
            refine (KI.out w' hw').mono ?_
            rintro e w2 ⟨rfl, hb⟩
            have hz := below_then hw' (Nat.le_refl _) hb
            exact ⟨rfl, by simpa using hz⟩
          simp only [Act.put, zza, zzc, zzb]
          refine qw_want rfl ?_ (fun w' hw' => ?_) ?_
          rotate_left
          · unfold Oper.quietAt
            go_simp
            exact rfl
          simp only [Act.put, zza, zzc, zzb]
          refine qw_want rfl ?_ (fun w' hw' => ?_) ?_
          rotate_left
          · unfold Oper.quietAt
            go_simp
            exact rfl
          simp only [Act.put, zza, zzc, zzb]
          refine qw_want rfl ?_ (fun w' hw' => ?_) ?_
          rotate_left
          · unfold Oper.quietAt
            go_simp
            exact rfl
          simp only [Act.put, zza, zzc, zzb]
          refine qw_want rfl ?_ (fun w' hw' => ?_) ?_
          rotate_left
          · unfold Oper.quietAt
            go_simp
            exact rfl
          simp only [Act.put, zza, zzc, zzb]
          refine qw_want rfl ?_ (fun w' hw' => ?_) ?_
          rotate_left
          · unfold Oper.quietAt
            go_simp
            exact rfl
          simp only [Act.put, zza, zzc, zzb]
          refine qw_want rfl ?_ (fun w' hw' => ?_) ?_
          rotate_left
          · obtain ⟨k0, k1, k2, k3, k4, k5, k6, k7⟩ := HFx.out w' hw'
            unfold Oper.quietAt
            go_simp
            exact rfl
          simp only [Act.put, zza, zzc, zzb]
          refine qw_want rfl ?_ (fun w' hw' => ?_) ?_
          rotate_left
          · unfold Oper.quietAt
            go_simp
            exact rfl
          simp only [Act.put, zza, zzc, zzb]
          refine qw_want rfl ?_ (fun w' hw' => ?_) ?_
          rotate_left
          · unfold Oper.quietAt
            go_simp
            exact rfl
          simp only [Act.put, zza, zzc, zzb]
          refine qw_skip (by rfl) ?_
          simp only [Act.put, zza, zzc, zzb]
          refine qw_skip (by rfl) ?_
          simp only [Act.put, zza, zzc, zzb]
          refine qw_skip (by rfl) ?_
          simp only [Act.put, zza, zzc, zzb]
          refine qw_skip (by rfl) ?_
          simp only [Act.put, zza, zzc, zzb]
          refine qw_want rfl ?_ (fun w' hw' => ?_) ?_
          rotate_left
          · unfold Oper.quietAt
            go_simp
            exact rfl
          simp only [Act.put, zza, zzc, zzb]
          refine qw_want rfl ?_ (fun w' hw' => ?_) ?_
          rotate_left
          · unfold Oper.quietAt
            go_simp
            exact rfl
          simp only [Act.put, zza, zzc, zzb]
          refine qw_end (fun w5 hb5 => ?_)
          have HB5 := zzh (HB.out.trans (hb5.mono HB.out.size))
          clear hb5
          go_wp2
          go_roundg gk
          case measure => omega
          case rel => exact ⟨i + 1, by omega, by go_num, HN.out, HB5.out⟩
        | false =>
          have HE := zzh (HBad.out HO2.out)
          refine wp_region_quiet (C := fun w' => Below wr.heap.size wr w') (by kernel_rfl) (by kernel_rfl) (⟨rfl, rfl, rfl, Nat.le_refl _, fun _ _ => rfl⟩) ?_
          refine QW.lit ?_
          refine qw_want rfl ?_ (fun w' hw' => ?_) ?_
          rotate_left
          · unfold Oper.quietAt
            go_simp
            exact rfl
          simp only [Act.put, zza, zzc, zzb]
          refine qw_want rfl ?_ (fun w' hw' => ?_) ?_
          rotate_left
          · unfold Oper.quietAt
            go_simp
            exact rfl
          simp only [Act.put, zza, zzc, zzb]
          refine qw_want rfl ?_ (fun w' hw' => ?_) ?_
          rotate_left
          · obtain ⟨k0, k1, k2, k3, k4, k5, k6, k7⟩ := HFx.out w' hw'
            unfold Oper.quietAt
            go_simp
            exact rfl
          simp only [Act.put, zza, zzc, zzb]
          refine qw_want rfl ?_ (fun w' hw' => ?_) ?_
          rotate_left
          · unfold Oper.quietAt
            go_simp
            exact rfl
          simp only [Act.put, zza, zzc, zzb]
          refine qw_want rfl ?_ (fun w' hw' => ?_) ?_
          rotate_left
          · unfold Oper.quietAt
            go_simp
            exact rfl
          simp only [Act.put, zza, zzc, zzb]
          refine qw_want rfl ?_ (fun w' hw' => ?_) ?_
          rotate_left
          · obtain ⟨k0, k1, k2, k3, k4, k5, k6, k7⟩ := HFx.out w' hw'
            unfold Oper.quietAt
            go_simp
            exact rfl
          simp only [Act.put, zza, zzc, zzb]
          refine qw_want rfl ?_ (fun w' hw' => ?_) ?_
          rotate_left
          · obtain ⟨k0, k1, k2, k3, k4, k5, k6, k7⟩ := HFx.out w' hw'
            unfold Oper.quietAt
            go_simp
            exact rfl
          simp only [Act.put, zza, zzc, zzb]
          refine qw_want rfl ?_ (fun w' hw' => ?_) ?_
          rotate_left
          · unfold Oper.quietAt
            go_simp
            exact rfl
          simp only [Act.put, zza, zzc, zzb]
          refine qw_want rfl ?_ (fun w' hw' => ?_) ?_
          rotate_left
          · unfold Oper.quietAt
            go_simp
            exact rfl
          simp only [Act.put, zza, zzc, zzb]
          refine qw_want rfl ?_ (fun w' hw' => ?_) ?_
          rotate_left
          · unfold Oper.quietAt
            go_simp
            exact rfl
          simp only [Act.put, zza, zzc, zzb]
          refine qw_want rfl ?_ (fun w' hw' => ?_) ?_
          rotate_left
          · obtain ⟨k0, k1, k2, k3, k4, k5, k6, k7⟩ := HFx.out w' hw'
            unfold Oper.quietAt
            go_simp
            exact rfl
          simp only [Act.put, zza, zzc, zzb]
          refine qw_want rfl ?_ (fun w' hw' => ?_) ?_
          rotate_left
          · unfold Oper.quietAt
            go_simp
            exact rfl
          simp only [Act.put, zza, zzc, zzb]
          refine qw_want rfl ?_ (fun w' hw' => ?_) ?_
          rotate_left
          · unfold Oper.quietAt
            go_simp
            exact rfl
          simp only [Act.put, zza, zzc, zzb]
          refine qw_want rfl ?_ (fun w' hw' => ?_) ?_
          rotate_left
          · obtain ⟨k0, k1, k2, k3, k4, k5, k6, k7⟩ := HFx.out w' hw'
            unfold Oper.quietAt
            go_simp
            exact rfl
          simp only [Act.put, zza, zzc, zzb]
          refine qw_want rfl (.bool false) (fun w' hw' => ?_) ?_
          · unfold Oper.quietAt
            go_simp
            refine (KI.out w' hw').mono ?_
            rintro e w2 ⟨rfl, hb⟩
            have hz := below_then hw' (Nat.le_refl _) hb
            exact ⟨rfl, by simpa using hz⟩
          simp only [Act.put, zza, zzc, zzb]
          refine qw_want rfl ?_ (fun w' hw' => ?_) ?_
          rotate_left
          · unfold Oper.quietAt
            go_simp
            exact rfl
          simp only [Act.put, zza, zzc, zzb]
          refine qw_want rfl ?_ (fun w' hw' => ?_) ?_
          rotate_left
          · unfold Oper.quietAt
            go_simp
            exact rfl
          simp only [Act.put, zza, zzc, zzb]
          refine qw_want rfl ?_ (fun w' hw' => ?_) ?_
          rotate_left
          · unfold Oper.quietAt
            go_simp
            exact rfl
          simp only [Act.put, zza, zzc, zzb]
          refine qw_skip (by rfl) ?_
          simp only [Act.put, zza, zzc, zzb]
          refine qw_skip (by rfl) ?_
          simp only [Act.put, zza, zzc, zzb]
          refine qw_skip (by rfl) ?_
          simp only [Act.put, zza, zzc, zzb]
          refine qw_skip (by rfl) ?_
          simp only [Act.put, zza, zzc, zzb]
          refine qw_skip (by rfl) ?_
          simp only [Act.put, zza, zzc, zzb]
          refine qw_skip (by rfl) ?_
          simp only [Act.put, zza, zzc, zzb]
          refine qw_skip (by rfl) ?_
          simp only [Act.put, zza, zzc, zzb]
          refine qw_skip (by rfl) ?_
          simp only [Act.put, zza, zzc, zzb]
          refine qw_skip (by rfl) ?_
          simp only [Act.put, zza, zzc, zzb]
          refine qw_skip (by rfl) ?_
          simp only [Act.put, zza, zzc, zzb]
          refine qw_want rfl ?_ (fun w' hw' => ?_) ?_
          rotate_left
          · unfold Oper.quietAt
            go_simp
            exact rfl
          simp only [Act.put, zza, zzc, zzb]
          refine qw_end (fun w5 hb5 => ?_)
          have HB5 := zzh (HB.out.trans (hb5.mono HB.out.size))
          clear hb5
          go_wp2
          go_ret
          exact ⟨by rw [HE.out]; rfl, HB0.out.trans (HB5.out.mono HB0.out.size)⟩
      · have d3 : decide ((i : Int) < len) = false := decide_eq_false hil
        have d4 : decide ((i : Int) ≥ len) = true := decide_eq_true (by omega)
        have d4' : decide (len ≤ (i : Int)) = true := decide_eq_true (by omega)
        have HO2 : Hid (ok i = (ri == 0)) := zzh (by rw [HOi1.out, if_neg hil])
        clear hil
        cases hz : (ri != 0) with
        | false =>
          have HN := zzh (HNext.out (by rw [HO2.out]; simpa using hz))
          refine wp_region_quiet (C := fun w' => Below wr.heap.size wr w') (by kernel_rfl) (by kernel_rfl) (⟨rfl, rfl, rfl, Nat.le_refl _, fun _ _ => rfl⟩) ?_
          refine QW.lit ?_
          refine qw_want rfl ?_ (fun w' hw' => ?_) ?_
          rotate_left
          · unfold Oper.quietAt
            go_simp
            exact rfl
          simp only [Act.put, zza, zzc, zzb]
          refine qw_want rfl ?_ (fun w' hw' => ?_) ?_
          rotate_left
          · unfold Oper.quietAt
            go_simp
            exact rfl
          simp only [Act.put, zza, zzc, zzb]
          refine qw_want rfl ?_ (fun w' hw' => ?_) ?_
          rotate_left
          · obtain ⟨k0, k1, k2, k3, k4, k5, k6, k7⟩ := HFx.out w' hw'
            unfold Oper.quietAt
            go_simp
            exact rfl
          simp only [Act.put, zza, zzc, zzb]
          refine qw_want rfl ?_ (fun w' hw' => ?_) ?_
          rotate_left
          · unfold Oper.quietAt
            go_simp
            exact rfl
          simp only [Act.put, zza, zzc, zzb]
          refine qw_want rfl ?_ (fun w' hw' => ?_) ?_
          rotate_left
          · unfold Oper.quietAt
            go_simp
            exact rfl
          simp only [Act.put, zza, zzc, zzb]
          refine qw_skip (by rfl) ?_
          simp only [Act.put, zza, zzc, zzb]
          refine qw_skip (by rfl) ?_
          simp only [Act.put, zza, zzc, zzb]
          refine qw_skip (by rfl) ?_
          simp only [Act.put, zza, zzc, zzb]
          refine qw_skip (by rfl) ?_
          simp only [Act.put, zza, zzc, zzb]
          refine qw_skip (by rfl) ?_
          simp only [Act.put, zza, zzc, zzb]
          refine qw_skip (by rfl) ?_
          simp only [Act.put, zza, zzc, zzb]
          refine qw_skip (by rfl) ?_
          simp only [Act.put, zza, zzc, zzb]
          refine qw_skip (by rfl) ?_
          simp only [Act.put, zza, zzc, zzb]
          refine qw_skip (by rfl) ?_
          simp only [Act.put, zza, zzc, zzb]
          refine qw_skip (by rfl) ?_
          simp only [Act.put, zza, zzc, zzb]
          refine qw_skip (by rfl) ?_
          simp only [Act.put, zza, zzc, zzb]
          refine qw_want rfl ?_ (fun w' hw' => ?_) ?_
          rotate_left
          · unfold Oper.quietAt
            go_simp
            exact rfl
          simp only [Act.put, zza, zzc, zzb]
          refine qw_want rfl ?_ (fun w' hw' => ?_) ?_
          rotate_left
          · unfold Oper.quietAt
            go_simp
            exact rfl
          simp only [Act.put, zza, zzc, zzb]
          refine qw_want rfl ?_ (fun w' hw' => ?_) ?_
          rotate_left
          · unfold Oper.quietAt
            go_simp
            exact rfl
          simp only [Act.put, zza, zzc, zzb]
          refine qw_want rfl ?_ (fun w' hw' => ?_) ?_
          rotate_left
          · unfold Oper.quietAt
            go_simp
            exact rfl
          simp only [Act.put, zza, zzc, zzb]
          refine qw_want rfl ?_ (fun w' hw' => ?_) ?_
          rotate_left
          · obtain ⟨k0, k1, k2, k3, k4, k5, k6, k7⟩ := HFx.out w' hw'
            unfold Oper.quietAt
            go_simp
            exact rfl
          simp only [Act.put, zza, zzc, zzb]
          refine qw_want rfl ?_ (fun w' hw' => ?_) ?_
          rotate_left
          · unfold Oper.quietAt
            go_simp
            exact rfl
          simp only [Act.put, zza, zzc, zzb]
          refine qw_want rfl ?_ (fun w' hw' => ?_) ?_
          rotate_left
          · unfold Oper.quietAt
            go_simp
            exact rfl
          simp only [Act.put, zza, zzc, zzb]
          refine qw_want rfl ?_ (fun w' hw' => ?_) ?_
          rotate_left
          · unfold Oper.quietAt
            go_simp
            exact rfl
          simp only [Act.put, zza, zzc, zzb]
          refine qw_want rfl ?_ (fun w' hw' => ?_) ?_
          rotate_left
          · unfold Oper.quietAt
            go_simp
            exact rfl
          simp only [Act.put, zza, zzc, zzb]
          refine qw_want rfl ?_ (fun w' hw' => ?_) ?_
          rotate_left
          · obtain ⟨k0, k1, k2, k3, k4, k5, k6, k7⟩ := HFx.out w' hw'
            unfold Oper.quietAt
            go_simp
            exact rfl
          simp only [Act.put, zza, zzc, zzb]
          refine qw_want rfl ?_ (fun w' hw' => ?_) ?_
          rotate_left
          · unfold Oper.quietAt
            go_simp
            exact rfl
          simp only [Act.put, zza, zzc, zzb]
          refine qw_want rfl ?_ (fun w' hw' => ?_) ?_
          rotate_left
          · unfold Oper.quietAt
            go_simp
            exact rfl
          simp only [Act.put, zza, zzc, zzb]
          refine qw_want rfl ?_ (fun w' hw' => ?_) ?_
          rotate_left
          · unfold Oper.quietAt
            go_simp
            exact rfl
          simp only [Act.put, zza, zzc, zzb]
          refine qw_end (fun w5 hb5 => ?_)
          have HB5 := zzh (HB.out.trans (hb5.mono HB.out.size))
          clear hb5
          go_wp2
          go_roundg gk
          case measure => omega
          case rel => exact ⟨i + 1, by omega, by go_num, HN.out, HB5.out⟩
        | true =>
          have HE := zzh (HBad.out (by rw [HO2.out]; simpa using hz))
          refine wp_region_quiet (C := fun w' => Below wr.heap.size wr w') (by kernel_rfl) (by kernel_rfl) (⟨rfl, rfl, rfl, Nat.le_refl _, fun _ _ => rfl⟩) ?_
          refine QW.lit ?_
          refine qw_want rfl ?_ (fun w' hw' => ?_) ?_
          rotate_left
          · unfold Oper.quietAt
            go_simp
            exact rfl
          simp only [Act.put, zza, zzc, zzb]
          refine qw_want rfl ?_ (fun w' hw' => ?_) ?_
          rotate_left
          · unfold Oper.quietAt
            go_simp
            exact rfl
          simp only [Act.put, zza, zzc, zzb]
          refine qw_want rfl ?_ (fun w' hw' => ?_) ?_
          rotate_left
          · obtain ⟨k0, k1, k2, k3, k4, k5, k6, k7⟩ := HFx.out w' hw'
            unfold Oper.quietAt
            go_simp
            exact rfl
          simp only [Act.put, zza, zzc, zzb]
          refine qw_want rfl ?_ (fun w' hw' => ?_) ?_
          rotate_left
          · unfold Oper.quietAt
            go_simp
            exact rfl
          simp only [Act.put, zza, zzc, zzb]
          refine qw_want rfl ?_ (fun w' hw' => ?_) ?_
          rotate_left
          · unfold Oper.quietAt
            go_simp
            exact rfl
          simp only [Act.put, zza, zzc, zzb]
          refine qw_skip (by rfl) ?_
          simp only [Act.put, zza, zzc, zzb]
          refine qw_skip (by rfl) ?_
          simp only [Act.put, zza, zzc, zzb]
          refine qw_skip (by rfl) ?_
          simp only [Act.put, zza, zzc, zzb]
          refine qw_skip (by rfl) ?_
          simp only [Act.put, zza, zzc, zzb]
          refine qw_skip (by rfl) ?_
          simp only [Act.put, zza, zzc, zzb]
          refine qw_skip (by rfl) ?_
          simp only [Act.put, zza, zzc, zzb]
          refine qw_skip (by rfl) ?_
          simp only [Act.put, zza, zzc, zzb]
          refine qw_skip (by rfl) ?_
          simp only [Act.put, zza, zzc, zzb]
          refine qw_skip (by rfl) ?_
          simp only [Act.put, zza, zzc, zzb]
          refine qw_skip (by rfl) ?_
          simp only [Act.put, zza, zzc, zzb]
          refine qw_skip (by rfl) ?_
          simp only [Act.put, zza, zzc, zzb]
          refine qw_want rfl ?_ (fun w' hw' => ?_) ?_
          rotate_left
          · unfold Oper.quietAt
            go_simp
            exact rfl
          simp only [Act.put, zza, zzc, zzb]
          refine qw_want rfl ?_ (fun w' hw' => ?_) ?_
          rotate_left
          · unfold Oper.quietAt
            go_simp
            exact rfl
          simp only [Act.put, zza, zzc, zzb]
          refine qw_want rfl ?_ (fun w' hw' => ?_) ?_
          rotate_left
          · unfold Oper.quietAt
            go_simp
            exact rfl
          simp only [Act.put, zza, zzc, zzb]
          refine qw_want rfl ?_ (fun w' hw' => ?_) ?_
          rotate_left
          · unfold Oper.quietAt
            go_simp
            exact rfl
          simp only [Act.put, zza, zzc, zzb]
          refine qw_want rfl ?_ (fun w' hw' => ?_) ?_
          rotate_left
          · obtain ⟨k0, k1, k2, k3, k4, k5, k6, k7⟩ := HFx.out w' hw'
            unfold Oper.quietAt
            go_simp
            exact rfl
          simp only [Act.put, zza, zzc, zzb]
          refine qw_want rfl ?_ (fun w' hw' => ?_) ?_
          rotate_left
          · unfold Oper.quietAt
            go_simp
            exact rfl
          simp only [Act.put, zza, zzc, zzb]
          refine qw_want rfl ?_ (fun w' hw' => ?_) ?_
          rotate_left
          · unfold Oper.quietAt
            go_simp
            exact rfl
          simp only [Act.put, zza, zzc, zzb]
          refine qw_want rfl ?_ (fun w' hw' => ?_) ?_
          rotate_left
          · unfold Oper.quietAt
            go_simp
            exact rfl
          simp only [Act.put, zza, zzc, zzb]
          refine qw_want rfl ?_ (fun w' hw' => ?_) ?_
          rotate_left
          · unfold Oper.quietAt
            go_simp
            exact rfl
          simp only [Act.put, zza, zzc, zzb]
          refine qw_want rfl ?_ (fun w' hw' => ?_) ?_
          rotate_left
          · obtain ⟨k0, k1, k2, k3, k4, k5, k6, k7⟩ := HFx.out w' hw'
            unfold Oper.quietAt
            go_simp
            exact rfl
          simp only [Act.put, zza, zzc, zzb]
          refine qw_want rfl ?_ (fun w' hw' => ?_) ?_
          rotate_left
          · unfold Oper.quietAt
            go_simp
            exact rfl
          simp only [Act.put, zza, zzc, zzb]
          refine qw_want rfl ?_ (fun w' hw' => ?_) ?_
          rotate_left
          · unfold Oper.quietAt
            go_simp
            exact rfl
          simp only [Act.put, zza, zzc, zzb]
          refine qw_want rfl ?_ (fun w' hw' => ?_) ?_
          rotate_left
          · unfold Oper.quietAt
            go_simp
            exact rfl
          simp only [Act.put, zza, zzc, zzb]
          refine qw_end (fun w5 hb5 => ?_)
          have HB5 := zzh (HB.out.trans (hb5.mono HB.out.size))
          clear hb5
          go_wp2
          go_ret
          exact ⟨by rw [HE.out]; rfl, HB0.out.trans (HB5.out.mono HB0.out.size)⟩
theorem bit_ok (b : Bool) (w : World) : Calls Tryz.prog 102 #[.bool b] w fun e w' => e = .returned (.int .i64 (if b then 1 else 0)) ∧ w = w' := by
  cases b with
  | true =>
    go_enter Tryz.func102, Tryz.ntmps102
    go_wp2
    go_ret
    exact ⟨rfl, rfl⟩
  | false =>
    go_enter Tryz.func102, Tryz.ntmps102
    go_wp2
    go_ret
    exact ⟨rfl, rfl⟩
end Go.Proofs.YtlipnnibagidiaaGreat
namespace Go.Proofs.YtlipnnibagidiaaGreat
open Go.RowKit Go.Lib
theorem and_one_any (n : Int) : bits .and .i64 n 1 = n % 2 := by
  have h127 : (BitVec.ofInt 64 1).toNat = 2 ^ 1 - 1 := by decide
  have key : (BitVec.ofInt 64 n &&& BitVec.ofInt 64 1).toNat = (n % ((2 ^ 64 : Nat) : Int)).toNat % 2 ^ 1 := by
    rw [BitVec.toNat_and, BitVec.toNat_ofInt, h127, Nat.and_two_pow_sub_one_eq_mod]
  show IntKind.i64.wrap ((BitVec.ofInt 64 n &&& BitVec.ofInt 64 1).toNat : Nat) = n % 2
  rw [key, IntKind.wrap_i64]
  omega
theorem fits10_ok (v : Int) (w : World) : Calls Tryz.prog 104 #[.int .i64 v] w fun e w' => e = .returned (.bool (mayN v)) ∧ w = w' := by
  have e : mayN v = (decide ((-4611686018427387904 : Int) ≤ v) && decide (v ≤ 4611686018427387904)) := by unfold mayN; rw [Bool.decide_and]
  rw [e]
  clear e
  by_cases h1 : (-4611686018427387904 : Int) ≤ v
  · have d1 : decide ((-4611686018427387904 : Int) ≤ v) = true := decide_eq_true h1
    have d1' : decide (v ≥ (-4611686018427387904 : Int)) = true := decide_eq_true h1
    rw [d1]
    clear h1
    go_enter Tryz.func104, Tryz.ntmps104
    go_wp2
    go_ret
    exact ⟨by simp, rfl⟩
  · have d1 : decide ((-4611686018427387904 : Int) ≤ v) = false := decide_eq_false h1
    have d1' : decide (v ≥ (-4611686018427387904 : Int)) = false := decide_eq_false h1
    rw [d1]
    clear h1
    go_enter Tryz.func104, Tryz.ntmps104
    go_wp2
    go_ret
    exact ⟨by simp, rfl⟩
def atMostM (a b n : Int) : Bool := mayN a && mayN b && mayN n && decide (a - b ≤ n)
set_option maxHeartbeats 2000000 in
theorem atMost_ok (a b n : Int) (w : World) : Calls Tryz.prog 103 #[.int .i64 a, .int .i64 b, .int .i64 n] w fun e w' => e = .returned (.bool (atMostM a b n)) ∧ w = w' := by
  have ht : atMostM a b n = (mayN a && mayN b && mayN n && decide (a - b ≤ n)) := rfl
  cases ha : mayN a with
  | false =>
    have HE : Hid (atMostM a b n = false) := zzh (by rw [ht, ha]; simp)
    have HA := zzh ha
    clear ht ha
    go_enter Tryz.func103, Tryz.ntmps103
    go_wp2_with (go_at_call 104; refine (fits10_ok a _).mono ?_; rintro e w1 ⟨rfl, rfl⟩; rw [HA.out])
    go_ret
    exact ⟨by rw [HE.out]; rfl, rfl⟩
  | true =>
  cases hb : mayN b with
  | false =>
    have HE : Hid (atMostM a b n = false) := zzh (by rw [ht, ha, hb]; simp)
    have HA := zzh ha
    have HB := zzh hb
    clear ht ha hb
    go_enter Tryz.func103, Tryz.ntmps103
    go_wp2_with fail
    refine (fits10_ok a _).mono ?_
    rintro e w1 ⟨rfl, rfl⟩
    rw [HA.out]
    go_wp2_with fail
    refine (fits10_ok b _).mono ?_
    rintro e w1 ⟨rfl, rfl⟩
    rw [HB.out]
    go_wp2
    go_ret
    exact ⟨by rw [HE.out]; rfl, rfl⟩
  | true =>
  cases hn : mayN n with
  | false =>
    have HE : Hid (atMostM a b n = false) := zzh (by rw [ht, ha, hb, hn]; simp)
    have HA := zzh ha
    have HB := zzh hb
    have HN := zzh hn
    clear ht ha hb hn
    go_enter Tryz.func103, Tryz.ntmps103
    go_wp2_with fail
    refine (fits10_ok a _).mono ?_
    rintro e w1 ⟨rfl, rfl⟩
    rw [HA.out]
    go_wp2_with fail
    refine (fits10_ok b _).mono ?_
    rintro e w1 ⟨rfl, rfl⟩
    rw [HB.out]
    go_wp2_with fail
    refine (fits10_ok n _).mono ?_
    rintro e w1 ⟨rfl, rfl⟩
    rw [HN.out]
    go_wp2
    go_ret
    exact ⟨by rw [HE.out]; rfl, rfl⟩
  | true =>
    have HE : Hid (atMostM a b n = decide (a - b ≤ n)) := zzh (by rw [ht, ha, hb, hn]; simp)
    have HA := zzh ha
    have HB := zzh hb
    have HN := zzh hn
    have ra := of_decide_eq_true ha
    have rb := of_decide_eq_true hb
    have rn := of_decide_eq_true hn
    clear ht ha hb hn
    go_enter Tryz.func103, Tryz.ntmps103
    go_wp2_with fail
    refine (fits10_ok a _).mono ?_
    rintro e w1 ⟨rfl, rfl⟩
    rw [HA.out]
    go_wp2_with fail
    refine (fits10_ok b _).mono ?_
    rintro e w1 ⟨rfl, rfl⟩
    rw [HB.out]
    go_wp2_with fail
    refine (fits10_ok n _).mono ?_
    rintro e w1 ⟨rfl, rfl⟩
    rw [HN.out]
    have e1 := and_one_any a
    have e2 := and_one_any b
    have e3 := and_one_any n
    have e4 : wrap64 (a % 2 - b % 2) = a % 2 - b % 2 := by unfold wrap64; omega
    have e5 : wrap64 (a % 2 - b % 2 - n % 2) = a % 2 - b % 2 - n % 2 := by unfold wrap64; omega
    go_upto_region 5 with fail
    clear e1 e2 e3 e4 e5
    have HM : Hid (∀ z : Int, z = max (min (a / 2 - b / 2 - n / 2) 4) (-4) → (a - b ≤ n ↔ 2 * z + (a % 2 - b % 2 - n % 2) ≤ 0)) := zzh (fun z hz => by omega)
    obtain ⟨x, hx⟩ : ∃ x, a / 2 - b / 2 - n / 2 = x := ⟨_, rfl⟩
    obtain ⟨y, hy⟩ : ∃ y, a % 2 - b % 2 - n % 2 = y := ⟨_, rfl⟩
    have hy2 : -2 ≤ y ∧ y ≤ 1 := by omega
    rw [hx, hy] at HM ⊢
    clear ra rb rn hx hy
    by_cases h1 : 4 < x
    · have hif : (if 4 < x then (4 : Int) else x) = 4 := if_pos h1
      have HE2 : Hid (atMostM a b n = decide (8 + y ≤ 0)) := zzh (by rw [HE.out]; exact decide_eq_decide.2 ((HM.out 4 (by omega)).trans (by omega)))
      have hw : wrap64 (8 + y) = 8 + y := by unfold wrap64; omega
      go_wp2_with fail
      all_goals first
        | omega
        | (go_ret; exact ⟨by rw [HE2.out]; rfl, rfl⟩)
    · have hif : (if 4 < x then (4 : Int) else x) = x := if_neg h1
      by_cases h2 : -4 ≤ x
      · have hif2 : (if -4 ≤ x then x else (-4 : Int)) = x := if_pos h2
        have HE2 : Hid (atMostM a b n = decide (2 * x + y ≤ 0)) := zzh (by rw [HE.out]; exact decide_eq_decide.2 (HM.out x (by omega)))
        have hw0 : wrap64 (2 * x) = 2 * x := by unfold wrap64; omega
        have hw : wrap64 (2 * x + y) = 2 * x + y := by unfold wrap64; omega
        go_wp2_with fail
        all_goals first
          | omega
          | (go_ret; exact ⟨by rw [HE2.out]; rfl, rfl⟩)
      · have hif2 : (if -4 ≤ x then x else (-4 : Int)) = -4 := if_neg h2
        have HE2 : Hid (atMostM a b n = decide (-8 + y ≤ 0)) := zzh (by rw [HE.out]; exact decide_eq_decide.2 ((HM.out (-4) (by omega)).trans (by omega)))
        have hw : wrap64 (-8 + y) = -8 + y := by unfold wrap64; omega
        go_wp2_with fail
        all_goals first
          | omega
          | (go_ret; exact ⟨by rw [HE2.out]; rfl, rfl⟩)
end Go.Proofs.YtlipnnibagidiaaGreat

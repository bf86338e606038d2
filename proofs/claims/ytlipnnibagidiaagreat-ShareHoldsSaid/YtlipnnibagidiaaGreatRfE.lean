/- The document's Le: gantryref11.Le. -/
import Derived.Test.YtlipnnibagidiaaGreatRfC
namespace Go.Proofs.YtlipnnibagidiaaGreat
open Go.RowKit Go.Lib
theorem OwnN.push {w : World} {B : Nat} {v : Value} {T : List Nd} {n : Nd} (h : w.ownsRow B 51 8 v (T.length + 1) (T.flatMap nodeCells ++ nodeCells n)) : OwnN w B v (T ++ [n]) := by
  unfold OwnN
  rw [List.length_append, List.flatMap_append]
  simpa using h
set_option maxRecDepth 100000 in
set_option maxHeartbeats 8000000 in
theorem rput_ok {T : List Nd} {w : World} {A : Option Addr} (c : Nat) (n : Nd) (hwn : NdWf n) (most : Int) (hcl : T.length ≤ c) (h : Tab w A T) (hl : T.length < 100000) :
    Calls Tryz.prog 123 #[.agg #[.slice A T.length c], nodeVal n, .int .i64 most] w (PutIs A T (putT T n most) w) := by
  obtain ⟨i0, hi0, hz0, hz1, hz2⟩ := info_parts node_info
  obtain ⟨w0, hw0⟩ : ∃ w0, ((w.alloc (.cells #[.slice A T.length c] 33)).alloc (.cells (nodeCells n).toArray 51)).alloc (.cells #[.slice none 0 0] 33) = w0 := ⟨_, rfl⟩
  have HS0 : Hid (w0.heap.size = w.heap.size + 3) := zzh (by rw [← hw0]; simp)
  have HB0 : Hid (Below w.heap.size w w0) := zzh (by rw [← hw0]; exact (((Below.refl _ w).alloc (Nat.le_refl _) _).alloc (by simp) _).alloc (by simp; omega) _)
  have HT0 : Hid (Blk w0 w.heap.size 33 #[.slice A T.length c]) := zzh (by rw [← hw0]; exact ((Blk.new w _ _).alloc _).alloc _)
  have HN0 : Hid (Blk w0 (w.heap.size + 1) 51 (nodeCells n).toArray) := zzh (by rw [← hw0]; exact (Blk.new_at (by simp) _ _).alloc _)
  have HR0 : Hid (Blk w0 (w.heap.size + 1 + 1) 33 #[.slice none 0 0]) := zzh (by rw [← hw0]; exact Blk.new_at (by simp) _ _)
  have KS := zzh (fun W => rstands_ok n hwn T.length W)
  have KF := zzh (fun (W : World) (hW : Below w.heap.size w W) => rfind_ok c n hwn (h.below hW))
  have H := zzh h
  have HW := zzh hwn
  have HCL := zzh hcl
  have HL := zzh hl
  have a0 := HT0.out.cell 0
  simp only [zzg, zzi] at a0
  clear h hwn hl hcl
  simp only [nodeVal, nodeCells] at hw0 HN0 KF ⊢
  go_enter Tryz.func123, Tryz.ntmps123
  go_wp2_with fail
  refine (rcheck_ok c (H.out.below HB0.out)).mono ?_
  rintro e w1 ⟨r, rfl, hr, hb⟩
  have HB1 := zzh (HB0.out.trans (hb.mono HB0.out.size))
  have HT1 := zzh (HT0.out.below hb HT0.out.lt)
  have HN1 := zzh (HN0.out.below hb HN0.out.lt)
  have HR1 := zzh (HR0.out.below hb HR0.out.lt)
  have HSZ1 : Hid (w.heap.size + 3 ≤ w1.heap.size) := zzh (by rw [← HS0.out]; exact hb.size)
  have HR := zzh hr
  have a1 := HT1.out.cell 0
  have b1 := HR1.out.cell 0
  have f1 := HR1.out.frozen 0
  simp only [zzg, zzi] at a1 b1
  clear hb hr a0 hw0
  cases r with
  | false =>
    have HP : Hid (putT T n most = ⟨[], 0, 2⟩) := zzh (by
      unfold putT
      rw [if_neg (by rw [Bool.and_eq_true, tabB_iff]; exact fun h => by have := HR.out.2 h.1; cases this)])
    go_wp2
    refine bodyPost_ret (v := .tuple #[.agg #[.slice none 0 0], .int .i64 0, .int .i64 2]) ?_ rfl ?_
    · have c1 := (HR1.out.set_ 0 (.slice none 0 0)).cell 0
      simp only [zzg, zzi, zza, zzb] at c1
      simp [results, Tryz.results123, go_sem, c1]
    · rw [HP.out]
      exact ⟨none, 0, rfl, ⟨by simp, .inl rfl⟩, Nat.le_refl _, Fr.none, HB1.out.setCell (by simp; omega) _⟩
  | true =>
  have HT := zzh (HR.out.1 rfl)
  have HC : Hid (A = none → c = 0) := zzh (fun e => by
    have := HT.out.len
    obtain ⟨b, off, e2, _⟩ := H.out.at_.resolve_left (by omega)
    rw [e] at e2
    cases e2)
  have n0 := HN1.out.cell 0
  have n1 := HN1.out.cell 1
  have n2 := HN1.out.cell 2
  have n3 := HN1.out.cell 3
  have n4 := HN1.out.cell 4
  have n5 := HN1.out.cell 5
  have n6 := HN1.out.cell 6
  have n7 := HN1.out.cell 7
  simp only [zzg, zzi, zzj] at n0 n1 n2 n3 n4 n5 n6 n7
  go_wp2_with fail
  refine (KS.out _).mono ?_
  rintro e w2 ⟨r, rfl, hr, hb⟩
  have HB2 := zzh (HB1.out.trans (hb.mono HB1.out.size))
  have HT2 := zzh (HT1.out.below hb HT1.out.lt)
  have HN2 := zzh (HN1.out.below hb HN1.out.lt)
  have HR2 := zzh (HR1.out.below hb HR1.out.lt)
  have HSZ2 : Hid (w.heap.size + 3 ≤ w2.heap.size) := zzh (Nat.le_trans HSZ1.out hb.size)
  have HRS := zzh hr
  have a2 := HT2.out.cell 0
  have b2 := HR2.out.cell 0
  have f2 := HR2.out.frozen 0
  simp only [zzg, zzi] at a2 b2
  clear hb hr a1 b1 f1 n0 n1 n2 n3 n4 n5 n6 n7
  cases r with
  | false =>
    have HP : Hid (putT T n most = ⟨[], 0, 2⟩) := zzh (by
      unfold putT
      rw [if_neg (by rw [Bool.and_eq_true, standsB_iff]; exact fun h => by have := HRS.out.2 h.2; cases this)])
    go_wp2
    refine bodyPost_ret (v := .tuple #[.agg #[.slice none 0 0], .int .i64 0, .int .i64 2]) ?_ rfl ?_
    · have c1 := (HR2.out.set_ 0 (.slice none 0 0)).cell 0
      simp only [zzg, zzi, zza, zzb] at c1
      simp [results, Tryz.results123, go_sem, c1]
    · rw [HP.out]
      exact ⟨none, 0, rfl, ⟨by simp, .inl rfl⟩, Nat.le_refl _, Fr.none, HB2.out.setCell (by simp; omega) _⟩
  | true =>
  have HG : Hid (putT T n most = if n ∈ T then ⟨T, (T.idxOf n : Nat), 0⟩ else if most ≤ T.length then ⟨[], 0, 40⟩ else ⟨T ++ [n], T.length, 0⟩) := zzh (by
    unfold putT
    rw [if_pos (by rw [Bool.and_eq_true, tabB_iff, standsB_iff]; exact ⟨HT.out, HRS.out.1 rfl⟩)])
  have n0 := HN2.out.cell 0
  have n1 := HN2.out.cell 1
  have n2 := HN2.out.cell 2
  have n3 := HN2.out.cell 3
  have n4 := HN2.out.cell 4
  have n5 := HN2.out.cell 5
  have n6 := HN2.out.cell 6
  have n7 := HN2.out.cell 7
  simp only [zzg, zzi, zzj] at n0 n1 n2 n3 n4 n5 n6 n7
  go_wp2_with fail
  refine (KF.out _ HB2.out).mono ?_
  rintro e w3 ⟨fi, r, rfl, hr, hi1, hi2, hb⟩
  have HB3 := zzh (HB2.out.trans (hb.mono HB2.out.size))
  have HT3 := zzh (HT2.out.below hb HT2.out.lt)
  have HN3 := zzh (HN2.out.below hb HN2.out.lt)
  have HR3 := zzh (HR2.out.below hb HR2.out.lt)
  have HSZ3 : Hid (w.heap.size + 3 ≤ w3.heap.size) := zzh (Nat.le_trans HSZ2.out hb.size)
  have HRI := zzh hr
  have HI1 := zzh hi1
  have a3 := HT3.out.cell 0
  have b3 := HR3.out.cell 0
  have f3 := HR3.out.frozen 0
  have m0 := HN3.out.cell 0
  have m1 := HN3.out.cell 1
  have m2 := HN3.out.cell 2
  have m3 := HN3.out.cell 3
  have m4 := HN3.out.cell 4
  have m5 := HN3.out.cell 5
  have m6 := HN3.out.cell 6
  have m7 := HN3.out.cell 7
  simp only [zzg, zzi, zzj] at a3 b3 m0 m1 m2 m3 m4 m5 m6 m7
  clear hb hr hi1 hi2 a2 b2 f2 n0 n1 n2 n3 n4 n5 n6 n7
  cases r with
  | true =>
    have HM := zzh (HRI.out.1 rfl)
    have HP : Hid (putT T n most = ⟨T, fi, 0⟩) := zzh (by rw [HG.out, if_pos HM.out, HI1.out HM.out])
    go_wp2
    refine bodyPost_ret (v := .tuple #[.agg #[.slice A T.length c], .int .i64 fi, .int .i64 0]) ?_ rfl ?_
    · have c1 := (HR3.out.set_ 0 (.slice A T.length c)).cell 0
      simp only [zzg, zzi, zza, zzb] at c1
      simp [results, Tryz.results123, go_sem, c1]
    · rw [HP.out]
      have h4 := HB3.out.setCell (p := ⟨w.heap.size + 1 + 1, 0, none⟩) (by simp; omega) (.slice A T.length c)
      exact ⟨A, c, rfl, H.out.below h4, HCL.out, fun b e => .inl ⟨e, by have := HT.out.len; omega⟩, h4⟩
  | false =>
  have HM : Hid (n ∉ T) := zzh fun hm => by have := HRI.out.2 hm; cases this
  by_cases hk : most ≤ T.length
  · have HP : Hid (putT T n most = ⟨[], 0, 40⟩) := zzh (by rw [HG.out, if_neg HM.out, if_pos hk])
    have d1 := decide_eq_true hk
    clear hk
    go_wp2
    refine bodyPost_ret (v := .tuple #[.agg #[.slice none 0 0], .int .i64 0, .int .i64 40]) ?_ rfl ?_
    · have c1 := (HR3.out.set_ 0 (.slice none 0 0)).cell 0
      simp only [zzg, zzi, zza, zzb] at c1
      simp [results, Tryz.results123, go_sem, c1]
    · rw [HP.out]
      exact ⟨none, 0, rfl, ⟨by simp, .inl rfl⟩, Nat.le_refl _, Fr.none, HB3.out.setCell (by simp; omega) _⟩
  have HP : Hid (putT T n most = ⟨T ++ [n], T.length, 0⟩) := zzh (by rw [HG.out, if_neg HM.out, if_neg hk])
  have d1 := decide_eq_false hk
  have HTW := zzh (H.out.below HB3.out)
  have HWF := zzh H.out.wfs
  clear hk
  go_wp2_with (at_builtin; go_loud (refine list_append_nodes w3 rfl (.tmp 39) (.tmp 41) rfl w3.heap.size (.slice none 0 0) [] rfl (World.ownsRow_nil _ _ _ _) A c T rfl HTW.out HC.out (by have := HL.out; simp; omega) (Nat.le_refl _) ?_); intro v4 w4 hv4 hg4; have HV4 := zzh hv4; have HG4 := zzh (Below.grown (Below.refl w3.heap.size w3) hg4 (Nat.le_refl _) (fun k e => by cases e)); clear hv4 hg4)
  obtain ⟨A4, c4, rfl⟩ := own_slice HV4.out
  have HT4 := zzh (HT3.out.below HG4.out HT3.out.lt)
  have HN4 := zzh (HN3.out.below HG4.out HN3.out.lt)
  have HR4 := zzh (HR3.out.below HG4.out HR3.out.lt)
  have a4 := HT4.out.cell 0
  have b4 := HR4.out.cell 0
  have f4 := HR4.out.frozen 0
  have k0 := HN4.out.cell 0
  have k1 := HN4.out.cell 1
  have k2 := HN4.out.cell 2
  have k3 := HN4.out.cell 3
  have k4 := HN4.out.cell 4
  have k5 := HN4.out.cell 5
  have k6 := HN4.out.cell 6
  have k7 := HN4.out.cell 7
  simp only [zzg, zzi, zzj] at a4 b4 k0 k1 k2 k3 k4 k5 k6 k7
  clear a3 b3 f3 m0 m1 m2 m3 m4 m5 m6 m7
  have HOW : Hid ((w4.alloc (.cells #[.int .i8 n.op, .int .i8 n.len, .int .i64 n.a0, .int .i64 n.a1, .int .i64 n.a2, .int .i64 n.sort, .int .i64 n.fn, .int .i64 n.num] 51)).drew.ownsRow w3.heap.size 51 8 (.slice A4 T.length c4) T.length (T.flatMap nodeCells)) := zzh (own_drew (own_kept (by have := HV4.out; unfold OwnN at this; simpa using this) (Kept.of_below (S := fun _ => False) ((Below.refl _ w4).alloc (Nat.le_refl _) _)) (fun _ _ h => h)))
  have HOB : Hid (∀ k, (Value.slice A4 T.length c4).ownBlock = some k → w3.heap.size ≤ k) := zzh (fun k hk => (HOW.out.lt k hk).1)
  have HB4 : Hid (Below w.heap.size w w4) := zzh (HB3.out.trans (HG4.out.mono HB3.out.size))
  have h1c : Hid (∀ u ∈ (#[.int .i8 n.op, .int .i8 n.len, .int .i64 n.a0, .int .i64 n.a1, .int .i64 n.a2, .int .i64 n.sort, .int .i64 n.fn, .int .i64 n.num] : Array Value).toList, u.oneCell' = true) := zzh (by intro u hu; simp only [List.mem_cons, List.not_mem_nil, or_false] at hu; rcases hu with rfl | rfl | rfl | rfl | rfl | rfl | rfl | rfl <;> rfl)
  have hll := HL.out
  have hge := HG4.out.size
  have X1 : (T.length + 1) * 56 ≤ 140737488355328 := by omega
  have a4b : (w4.alloc (.cells #[.int .i8 n.op, .int .i8 n.len, .int .i64 n.a0, .int .i64 n.a1, .int .i64 n.a2, .int .i64 n.sort, .int .i64 n.fn, .int .i64 n.num] 51)).cell? ⟨w.heap.size, 0, none⟩ = some (.slice A T.length c) := (((Below.refl w4.heap.size w4).alloc (Nat.le_refl _) (.cells #[.int .i8 n.op, .int .i8 n.len, .int .i64 n.a0, .int .i64 n.a1, .int .i64 n.a2, .int .i64 n.sort, .int .i64 n.fn, .int .i64 n.num] 51)).cell (p := ⟨w.heap.size, 0, none⟩) (by have := HSZ3.out; show w.heap.size < _; omega)).trans a4
  clear hll
  go_region_law (refine step_push _ rfl (.tmp 43) (.tmp 45) 31 rfl w3.heap.size 51 i0 (.agg #[.int .i8 0, .int .i8 0, .int .i64 0, .int .i64 0, .int .i64 0, .int .i64 0, .int .i64 0, .int .i64 0]) 8 56 Tryz.underlying31 hi0 hz0 hz1 hz2 rfl (by decide) (.slice A4 T.length c4) T.length (T.flatMap nodeCells) rfl HOW.out w4.heap.size #[.int .i8 n.op, .int .i8 n.len, .int .i64 n.a0, .int .i64 n.a1, .int .i64 n.a2, .int .i64 n.sort, .int .i64 n.fn, .int .i64 n.num] rfl (Blk.new w4 _ _) rfl h1c.out X1 (by decide) hge (fun g cap w5 hown hgrow hat hlt => ?_); have HO5 := zzh hown; have HB5 := zzh (Below.grown (B := w3.heap.size) ((below_drewN (Below.refl w3.heap.size w4) 0).alloc hge (.cells #[.int .i8 n.op, .int .i8 n.len, .int .i64 n.a0, .int .i64 n.a1, .int .i64 n.a2, .int .i64 n.sort, .int .i64 n.fn, .int .i64 n.num] 51)) (grown_undrew hgrow) (by simp; omega) HOB.out); have HR5 := zzh (HR4.out.below HB5.out HR3.out.lt); have HT5 := zzh (HT4.out.below HB5.out HT3.out.lt); have b5 := HR5.out.cell 0; have f5 := HR5.out.frozen 0; have a5 := HT5.out.cell 0; simp only [zzg, zzi] at a5 b5; clear hown hgrow hat hlt)
  all_goals go_wp2
  all_goals
    refine bodyPost_ret (v := .tuple #[.agg #[.slice (some ⟨g, 0, none⟩) (T.length + 1) cap], .int .i64 T.length, .int .i64 0]) ?_ rfl ?_
    · have c1 := (HR5.out.set_ 0 (.slice (some ⟨g, 0, none⟩) (T.length + 1) cap)).cell 0
      simp only [zzg, zzi, zza, zzb] at c1
      simp [results, Tryz.results123, go_sem, c1]
    · rw [HP.out]
      have hown := OwnN.push (n := n) HO5.out
      obtain ⟨A', c', e1, htab, hcap, _⟩ := hown.tab (by have := HL.out; rw [List.length_append]; simp; omega) (fun m hm => (List.mem_append.1 hm).elim (HWF.out m) fun e => by rw [List.mem_singleton.1 e]; exact HW.out)
      have hlen : (T ++ [n]).length = T.length + 1 := by simp
      rw [hlen] at e1 hcap
      injection e1 with e2 _ e3
      subst e2 e3
      have hg3 := (HO5.out.lt g rfl).1
      have hs3 := HSZ3.out
      have hs5 := HB5.out.size
      refine ⟨some ⟨g, 0, none⟩, cap, by rw [hlen], htab.kept1 (Kept.set1 w5 (w.heap.size + 1 + 1) 0 _) (fun b e => by injection e with e; subst e; simp only; omega), by rw [hlen]; exact hcap, fun b e => .inr (by injection e with e; subst e; simp only; omega), ?_⟩
      exact (HB4.out.trans (HB5.out.mono (by have := HB4.out.size; omega))).setCell (by simp; omega) _
set_option maxRecDepth 100000 in
set_option maxHeartbeats 4000000 in
theorem rle_ok {T : List Nd} {w : World} {A : Option Addr} (k : Nat) (a b c most : Int) (ha : In64 a) (hb : In64 b) (hk : T.length ≤ k) (h : Tab w A T) (hl : T.length < 100000) (ho : TabOk T → ordB T = true) :
    Calls Tryz.prog 155 #[.agg #[.slice A T.length k], .int .i64 a, .int .i64 b, .int .i64 c, .int .i64 most] w (LeIs A T (leT T a b c most) w) := by
  obtain ⟨w0, hw0⟩ : ∃ w0, (w.alloc (.cells #[.slice A T.length k] 33)).alloc (.cells #[.slice none 0 0] 33) = w0 := ⟨_, rfl⟩
  have HS0 : Hid (w0.heap.size = w.heap.size + 2) := zzh (by rw [← hw0]; simp)
  have HT0 : Hid (Blk w0 w.heap.size 33 #[.slice A T.length k]) := zzh (by rw [← hw0]; exact (Blk.new w _ _).alloc _)
  have HR0 : Hid (Blk w0 (w.heap.size + 1) 33 #[.slice none 0 0]) := zzh (by rw [← hw0]; exact Blk.new_at (by simp) _ _)
  have HB0 : Hid (Below w.heap.size w w0) := zzh (by rw [← hw0]; exact ((Below.refl _ w).alloc (Nat.le_refl _) _).alloc (by simp) _)
  have KD := zzh (fun (W : World) (hw : Below w.heap.size w W) => rdiff_ok k a b c ha hb (h.below hw) ho)
  have KP := zzh (fun (W : World) (hw : Below w.heap.size w W) (n : Nd) (hn : NdWf n) => rput_ok k n hn most hk (h.below hw) hl)
  have HIN := zzh (fun he => diffT_in h.wfs ha hb (c := c) he)
  have HG := zzh (leT_R T a b c most)
  have HLE := zzh (fun (he : (diffT T a b c).e = 0) => diffT_pos he)
  have H := zzh h
  have HK := zzh hk
  have z0 := HT0.out.cell 0
  simp only [zzg, zzi] at z0
  clear h ho hk ha hb hl
  go_enter Tryz.func155, Tryz.ntmps155
  go_wp2_with fail
  refine (KD.out _ HB0.out).mono ?_
  rintro e w1 ⟨rfl, hb⟩
  generalize diffT T a b c = p at *
  obtain ⟨x, y, d, e⟩ := p
  have HT1 := zzh (HT0.out.below hb HT0.out.lt)
  have HR1 := zzh (HR0.out.below hb HR0.out.lt)
  have HSZ1 : Hid (w.heap.size + 2 ≤ w1.heap.size) := zzh (by rw [← HS0.out]; exact hb.size)
  have HB1 : Hid (Below w.heap.size w w1) := zzh (HB0.out.trans (hb.mono HB0.out.size))
  have a0 := HT1.out.cell 0
  have b0 := HR1.out.cell 0
  have f0 := HR1.out.frozen 0
  simp only [zzg, zzi] at a0 b0
  clear hb hw0 z0
  by_cases t1 : e = 0
  rotate_left
  · have d1 : (e == 0) = false := by simp [t1]
    have HS : Hid (leT T a b c most = ⟨[], 0, false, e⟩) := zzh (by rw [HG.out]; unfold leR; rw [if_pos t1])
    clear t1
    go_wp2
    refine bodyPost_ret (v := .tuple #[.agg #[.slice none 0 0], .int .i64 0, .bool false, .int .i64 e]) ?_ rfl ?_
    · have c1 := (HR1.out.set_ 0 (.slice none 0 0)).cell 0
      simp only [zzg, zzi, zza, zzb] at c1
      simp [results, Tryz.results155, go_sem, c1]
    · rw [HS.out]
      exact ⟨none, 0, rfl, ⟨by simp, .inl rfl⟩, Nat.le_refl _, Fr.none, HB1.out.setCell (by simp) _⟩
  subst t1
  have hin := HIN.out rfl
  have HPos := zzh (HLE.out rfl)
  by_cases t2 : x = y
  · have d2 : (x == y) = true := by simp [t2]
    by_cases t3 : 0 ≤ d
    · have d3 := decide_eq_true t3
      have HS : Hid (leT T a b c most = ⟨T, 0, false, 0⟩) := zzh (by rw [HG.out]; simp [leR, t2, t3])
      clear t3 hin t2
      go_wp2
      refine bodyPost_ret (v := .tuple #[.agg #[.slice A T.length k], .int .i64 0, .bool false, .int .i64 0]) ?_ rfl ?_
      · have c1 := (HR1.out.set_ 0 (.slice A T.length k)).cell 0
        simp only [zzg, zzi, zza, zzb] at c1
        simp [results, Tryz.results155, go_sem, c1]
      · rw [HS.out]
        have h4 := HB1.out.setCell (p := ⟨w.heap.size + 1, 0, none⟩) (by simp) (.slice A T.length k)
        exact ⟨A, k, rfl, H.out.below h4, HK.out, fun b e => .inl ⟨e, HPos.out⟩, h4⟩
    · have d3 := decide_eq_false t3
      have HS : Hid (leT T a b c most = ⟨(putT T (notNd 0) most).T, (putT T (notNd 0) most).id, false, (putT T (notNd 0) most).e⟩) := zzh (by rw [HG.out]; simp [leR, t2, t3])
      have KP1 := zzh (KP.out _ HB1.out (notNd 0) notNd_wf)
      clear t3 hin t2
      generalize putT T (notNd 0) most = r at *
      obtain ⟨T', id', e'⟩ := r
      simp only [nodeVal, nodeCells, notNd] at KP1
      go_wp2_with fail
      refine KP1.out.mono ?_
      rintro e w2 ⟨A2, c2, rfl, ht, hc2, hf, hb⟩
      have HT2 := zzh ht
      have HC2 := zzh hc2
      have HF2 := zzh hf
      have HR2 := zzh (HR1.out.below hb HR1.out.lt)
      have HB2 := zzh (HB1.out.trans (hb.mono HB1.out.size))
      have HSZ2 : Hid (w.heap.size + 2 ≤ w2.heap.size) := zzh (Nat.le_trans HSZ1.out hb.size)
      have b2 := HR2.out.cell 0
      have f2 := HR2.out.frozen 0
      have hlt2 := HR2.out.lt
      simp only [zzg, zzi] at b2
      clear ht hc2 hf hb a0 b0 f0
      have HRA := zzh (HR2.out.alloc (.cells #[.slice A2 T'.length c2] 33))
      have b3 := HRA.out.cell 0
      have f3 := HRA.out.frozen 0
      simp only [zzg, zzi] at b3
      go_wp2
      refine bodyPost_ret (v := .tuple #[.agg #[.slice A2 T'.length c2], .int .i64 id', .bool false, .int .i64 e']) ?_ rfl ?_
      · have c1 := ((HR2.out.set_ 0 (.slice A2 T'.length c2)).alloc (.cells #[.slice A2 T'.length c2] 33)).cell 0
        simp only [zzg, zzi, zza, zzb] at c1
        simp [results, Tryz.results155, go_sem, c1]
      · rw [HS.out]
        have hb4 := (HB2.out.setCell (p := ⟨w.heap.size + 1, 0, none⟩) (by simp) (.slice A2 T'.length c2)).alloc (by simpa using HB2.out.size) (.cells #[.slice A2 T'.length c2] 33)
        refine ⟨A2, c2, rfl, ?_, HC2.out, fun b e => (HF2.out b e).imp id fun h => Nat.le_trans (Nat.le_trans (by omega) HSZ1.out) h, hb4⟩
        refine Tab.alloc (HT2.out.kept1 (Kept.set1 w2 (w.heap.size + 1) 0 _) fun b e => ?_) _
        rcases HF2.out b e with ⟨e1, h0⟩ | h1
        · have := Tab.lt (e1 ▸ H.out) h0
          omega
        · have := HSZ1.out
          omega
  · have d2 : (x == y) = false := by simp [t2]
    have HS : Hid (leT T a b c most = ⟨(putT T (diffNd x y d) most).T, (putT T (diffNd x y d) most).id, decide ((putT T (diffNd x y d) most).e = 0), (putT T (diffNd x y d) most).e⟩) := zzh (by rw [HG.out]; simp [leR, t2])
    have KP1 := zzh (KP.out _ HB1.out (diffNd x y d) (diffNd_wf hin.1 hin.2.1 hin.2.2))
    clear hin t2
    generalize putT T (diffNd x y d) most = r at *
    obtain ⟨T', id', e'⟩ := r
    simp only [nodeVal, nodeCells, diffNd] at KP1
    go_wp2_with fail
    refine KP1.out.mono ?_
    rintro e w2 ⟨A2, c2, rfl, ht, hc2, hf, hb⟩
    have HT2 := zzh ht
    have HC2 := zzh hc2
    have HF2 := zzh hf
    have HR2 := zzh (HR1.out.below hb HR1.out.lt)
    have HB2 := zzh (HB1.out.trans (hb.mono HB1.out.size))
    have HSZ2 : Hid (w.heap.size + 2 ≤ w2.heap.size) := zzh (Nat.le_trans HSZ1.out hb.size)
    have b2 := HR2.out.cell 0
    have f2 := HR2.out.frozen 0
    have hlt2 := HR2.out.lt
    simp only [zzg, zzi] at b2
    clear ht hc2 hf hb a0 b0 f0
    have HRA := zzh (HR2.out.alloc (.cells #[.slice A2 T'.length c2] 33))
    have b3 := HRA.out.cell 0
    have f3 := HRA.out.frozen 0
    simp only [zzg, zzi] at b3
    by_cases te : e' = 0
    · subst te
      go_wp2
      refine bodyPost_ret (v := .tuple #[.agg #[.slice A2 T'.length c2], .int .i64 id', .bool true, .int .i64 0]) ?_ rfl ?_
      · have c1 := ((HR2.out.set_ 0 (.slice A2 T'.length c2)).alloc (.cells #[.slice A2 T'.length c2] 33)).cell 0
        simp only [zzg, zzi, zza, zzb] at c1
        simp [results, Tryz.results155, go_sem, c1]
      · rw [HS.out]
        have hb4 := (HB2.out.setCell (p := ⟨w.heap.size + 1, 0, none⟩) (by simp) (.slice A2 T'.length c2)).alloc (by simpa using HB2.out.size) (.cells #[.slice A2 T'.length c2] 33)
        refine ⟨A2, c2, rfl, ?_, HC2.out, fun b e => (HF2.out b e).imp id fun h => Nat.le_trans (Nat.le_trans (by omega) HSZ1.out) h, hb4⟩
        refine Tab.alloc (HT2.out.kept1 (Kept.set1 w2 (w.heap.size + 1) 0 _) fun b e => ?_) _
        rcases HF2.out b e with ⟨e1, h0⟩ | h1
        · have := Tab.lt (e1 ▸ H.out) h0
          omega
        · have := HSZ1.out
          omega
    · have de : (e' == 0) = false := by simp [te]
      have HDE : Hid (decide (e' = 0) = false) := zzh (decide_eq_false te)
      clear te
      go_wp2
      refine bodyPost_ret (v := .tuple #[.agg #[.slice A2 T'.length c2], .int .i64 id', .bool false, .int .i64 e']) ?_ rfl ?_
      · have c1 := ((HR2.out.set_ 0 (.slice A2 T'.length c2)).alloc (.cells #[.slice A2 T'.length c2] 33)).cell 0
        simp only [zzg, zzi, zza, zzb] at c1
        simp [results, Tryz.results155, go_sem, c1]
      · rw [HS.out]
        try dsimp only
        rw [HDE.out]
        have hb4 := (HB2.out.setCell (p := ⟨w.heap.size + 1, 0, none⟩) (by simp) (.slice A2 T'.length c2)).alloc (by simpa using HB2.out.size) (.cells #[.slice A2 T'.length c2] 33)
        refine ⟨A2, c2, rfl, ?_, HC2.out, fun b e => (HF2.out b e).imp id fun h => Nat.le_trans (Nat.le_trans (by omega) HSZ1.out) h, hb4⟩
        refine Tab.alloc (HT2.out.kept1 (Kept.set1 w2 (w.heap.size + 1) 0 _) fun b e => ?_) _
        rcases HF2.out b e with ⟨e1, h0⟩ | h1
        · have := Tab.lt (e1 ▸ H.out) h0
          omega
        · have := HSZ1.out
          omega
end Go.Proofs.YtlipnnibagidiaaGreat

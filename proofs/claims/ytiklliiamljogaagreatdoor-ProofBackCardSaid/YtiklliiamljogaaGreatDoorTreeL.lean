/- one at a leaf. -/
import Derived.Test.YtiklliiamljogaaGreatDoorTreeM
namespace Go.Proofs.YtiklliiamljogaaGreatDoor
open Go.RowKit


set_option maxHeartbeats 1000000 in
set_option maxRecDepth 100000 in
theorem one_name (s : ByteArray) (a : Int) (w : World) (gr : Nat) (hg : Blk w gr 108 #[.string s, .int .i64 a, .int .i64 0]) (hs : s.size ≤ 1000000) (n : Nat) (hn : startI s a = n) (r : Raw) (ht : tok ((byts s).drop n) = some r) (hk : r.k = 2) :
    Calls Tryz.prog 78 #[.pointer (some ⟨gr, 0, none⟩)] w fun e w' => (e = .returned (.agg #[.int .i8 (leafK r.k), .string ⟨r.t.toArray⟩, .slice none 0 0]) ∧ Blk w' gr 108 #[.string s, .int .i64 (n + r.n : Nat), .int .i64 0]) ∧ Kept (fun i => i = gr) w w' := by
  rw [Int.natCast_add]
  have hlk : leafK r.k = 0 := by rw [hk]; rfl
  rw [hlk]
  obtain ⟨m, hm⟩ : ∃ m : Int, (n : Int) + r.n = m := ⟨_, rfl⟩
  rw [hm]
  have hb0 := Blk.new w 28 #[.int .i8 0, .string ⟨#[]⟩, .slice none 0 0]
  have hB0 : Below w.heap.size w (w.alloc (.cells #[.int .i8 0, .string ⟨#[]⟩, .slice none 0 0] 28)) := (Below.refl _ w).alloc (Nat.le_refl _) _
  have hlt0 := hg.lt
  have hg0 := hg.alloc (.cells #[.int .i8 0, .string ⟨#[]⟩, .slice none 0 0] 28)
  obtain ⟨r0, r1, r2, _⟩ := blk3 hg0
  have e1 : gr ≠ w.heap.size + 1 := by omega
  have e2 := e1.symm
  have HG := Lib.hid hg
  have HG0 := Lib.hid hg0
  have HR0 := Lib.hid hb0
  have HB0 := Lib.hid hB0
  clear hg hg0 hb0 hB0
  go_enter Tryz.func78, Tryz.ntmps78
  go_upto_region 1 with fail
  go_cut [3, 4, 5] from 10 to 22 (fun p okv ev wx => okv = .bool true ∧ ev = .int .i64 0 ∧ TokAt (w.alloc (.cells #[.int .i8 0, .string ⟨#[]⟩, .slice none 0 0] 28)) wx #[.int .i8 2, .string ⟨r.t.toArray⟩, .int .i64 n, .int .i64 m] p)
  case first =>
    go_region_held3 (fun w' => w'.cell? ⟨gr, 0, none⟩ = some (.string s) ∧ w'.cell? ⟨gr, 1, none⟩ = some (.int .i64 a)) (go_keep) (first | (go_at_call 91; refine (next_tokK s a _ hs n hn r ht 2 (by rw [hk]; rfl) m hm).mono ?_; rintro e w1 ⟨rfl, hb1⟩; have e3 : gr ≠ w1.heap.size := Nat.ne_of_lt (Nat.lt_of_lt_of_le (by simp; omega) hb1.size); have e4 := e3.symm; have k0 := hb1.cell (p := ⟨gr, 0, none⟩) (by simp; omega); have k1 := hb1.cell (p := ⟨gr, 1, none⟩) (by simp; omega); have hT0 : Blk w1 (w.heap.size + 1) 118 #[.int .i8 0, .string ⟨#[]⟩, .int .i64 0, .int .i64 0] := (hb1.block _ (by simp)).trans (Blk.new_at (by simp) _ _); obtain ⟨c0, c1, c2, c3⟩ := blk4 hT0; have c4 := hT0.frozen 0; have c5 := hT0.frozen 1; have c6 := hT0.frozen 2; have c7 := hT0.frozen 3) | (go_at_call 91; refine (next_tokK s a _ hs n hn r ht 2 (by rw [hk]; rfl) m hm).mono ?_; rintro e w1 ⟨rfl, hb1⟩; have e3 : gr ≠ w1.heap.size := Nat.ne_of_lt (Nat.lt_of_lt_of_le (by simp; omega) hb1.size); have e4 := e3.symm; have k0 := hb1.cell (p := ⟨gr, 0, none⟩) (by simp; omega); have k1 := hb1.cell (p := ⟨gr, 1, none⟩) (by simp; omega)))
    all_goals go_wp2
    all_goals go_meet
    · exact ⟨rfl, rfl, TokAt.late (below_undrew hb1) _⟩
    · have hq := below_undrew2 hb1
      exact ⟨rfl, rfl, TokAt.early hq (by simp) hT0 _ _ _ _⟩
  case rest =>
    obtain ⟨rfl, rfl, tb, rfl, hT, hBx, htb⟩ := hcut
    have hGc := HG0.out.below hBx HG0.out.lt
    have hRc := HR0.out.below hBx HR0.out.lt
    obtain ⟨x0, x1, x2, f0, f1, f2⟩ := blk3 hRc
    obtain ⟨z0, z1, z2, z3⟩ := blk4 hT
    obtain ⟨g0, g1, g2, g3, g4, g5⟩ := blk3 hGc
    have hgR : w.heap.size ≠ gr := by omega
    have hgR2 := hgR.symm
    have hsz : w.heap.size + 1 ≤ tb := by simpa using htb
    have htR : tb ≠ w.heap.size := by omega
    have htR2 := htR.symm
    have htg : tb ≠ gr := by omega
    have htg2 := htg.symm
    have HBX := Lib.hid hBx
    have HT := Lib.hid hT
    have HRC := Lib.hid hRc
    have HGC := Lib.hid hGc
    clear hBx hT hRc hGc
    go_wp2


    go_loopw [] (fun wx => Blk wx w.heap.size 28 #[.int .i8 0, .string ⟨r.t.toArray⟩, .slice none 0 0] ∧ Blk wx gr 108 #[.string s, .int .i64 m, .int .i64 0] ∧ Kept (fun i => i = gr) w wx) (fun _ => 0)
    case atStart =>
      have hk0 := (Kept.of_below (S := fun i => i = gr) HB0.out).trans (Kept.of_below (HBX.out.mono (B := (w.alloc (.cells #[.int .i8 0, .string ⟨#[]⟩, .slice none 0 0] 28)).heap.size) (Nat.le_refl _)))
      exact ⟨(HRC.out.set_ 1 (.string ⟨r.t.toArray⟩)).far (p := ⟨gr, 1, none⟩) hgR _, (HGC.out.far (p := ⟨w.heap.size, 1, none⟩) hgR2 _).set_ 1 (.int .i64 m), (hk0.setCell (p := ⟨w.heap.size, 1, none⟩) (.inr (Nat.le_refl _)) _).setCell (p := ⟨gr, 1, none⟩) (.inl rfl) _⟩
    case round =>
      obtain ⟨hR, hGr, hK⟩ := hrel
      obtain ⟨y0, y1, y2, _⟩ := blk3 hR
      go_wp2
      have hR3 := hR.set3 (.int .i8 0) (.string ⟨r.t.toArray⟩) (.slice none 0 0)
      obtain ⟨y0, y1, y2, _⟩ := blk3 hR3
      refine bodyPost_ret (v := .agg #[.int .i8 0, .string ⟨r.t.toArray⟩, .slice none 0 0]) ?_ rfl ⟨⟨rfl, ((hGr.far (p := ⟨w.heap.size, 0, none⟩) hgR2 _).far (p := ⟨w.heap.size, 1, none⟩) hgR2 _).far (p := ⟨w.heap.size, 2, none⟩) hgR2 _⟩, ((hK.setCell (p := ⟨w.heap.size, 0, none⟩) (.inr (Nat.le_refl _)) _).setCell (p := ⟨w.heap.size, 1, none⟩) (.inr (Nat.le_refl _)) _).setCell (p := ⟨w.heap.size, 2, none⟩) (.inr (Nat.le_refl _)) _⟩
      simp [results, Tryz.results78, go_sem, y0, y1, y2]

set_option maxHeartbeats 1000000 in
set_option maxRecDepth 100000 in
theorem one_num (s : ByteArray) (a : Int) (w : World) (gr : Nat) (hg : Blk w gr 108 #[.string s, .int .i64 a, .int .i64 0]) (hs : s.size ≤ 1000000) (n : Nat) (hn : startI s a = n) (r : Raw) (ht : tok ((byts s).drop n) = some r) (hk : r.k = 3) :
    Calls Tryz.prog 78 #[.pointer (some ⟨gr, 0, none⟩)] w fun e w' => (e = .returned (.agg #[.int .i8 (leafK r.k), .string ⟨r.t.toArray⟩, .slice none 0 0]) ∧ Blk w' gr 108 #[.string s, .int .i64 (n + r.n : Nat), .int .i64 0]) ∧ Kept (fun i => i = gr) w w' := by
  rw [Int.natCast_add]
  have hlk : leafK r.k = 1 := by rw [hk]; rfl
  rw [hlk]
  obtain ⟨m, hm⟩ : ∃ m : Int, (n : Int) + r.n = m := ⟨_, rfl⟩
  rw [hm]
  have hb0 := Blk.new w 28 #[.int .i8 0, .string ⟨#[]⟩, .slice none 0 0]
  have hB0 : Below w.heap.size w (w.alloc (.cells #[.int .i8 0, .string ⟨#[]⟩, .slice none 0 0] 28)) := (Below.refl _ w).alloc (Nat.le_refl _) _
  have hlt0 := hg.lt
  have hg0 := hg.alloc (.cells #[.int .i8 0, .string ⟨#[]⟩, .slice none 0 0] 28)
  obtain ⟨r0, r1, r2, _⟩ := blk3 hg0
  have e1 : gr ≠ w.heap.size + 1 := by omega
  have e2 := e1.symm
  have HG := Lib.hid hg
  have HG0 := Lib.hid hg0
  have HR0 := Lib.hid hb0
  have HB0 := Lib.hid hB0
  clear hg hg0 hb0 hB0
  go_enter Tryz.func78, Tryz.ntmps78
  go_upto_region 1 with fail
  go_cut [3, 4, 5] from 10 to 22 (fun p okv ev wx => okv = .bool true ∧ ev = .int .i64 0 ∧ TokAt (w.alloc (.cells #[.int .i8 0, .string ⟨#[]⟩, .slice none 0 0] 28)) wx #[.int .i8 3, .string ⟨r.t.toArray⟩, .int .i64 n, .int .i64 m] p)
  case first =>
    go_region_held3 (fun w' => w'.cell? ⟨gr, 0, none⟩ = some (.string s) ∧ w'.cell? ⟨gr, 1, none⟩ = some (.int .i64 a)) (go_keep) (first | (go_at_call 91; refine (next_tokK s a _ hs n hn r ht 3 (by rw [hk]; rfl) m hm).mono ?_; rintro e w1 ⟨rfl, hb1⟩; have e3 : gr ≠ w1.heap.size := Nat.ne_of_lt (Nat.lt_of_lt_of_le (by simp; omega) hb1.size); have e4 := e3.symm; have k0 := hb1.cell (p := ⟨gr, 0, none⟩) (by simp; omega); have k1 := hb1.cell (p := ⟨gr, 1, none⟩) (by simp; omega); have hT0 : Blk w1 (w.heap.size + 1) 118 #[.int .i8 0, .string ⟨#[]⟩, .int .i64 0, .int .i64 0] := (hb1.block _ (by simp)).trans (Blk.new_at (by simp) _ _); obtain ⟨c0, c1, c2, c3⟩ := blk4 hT0; have c4 := hT0.frozen 0; have c5 := hT0.frozen 1; have c6 := hT0.frozen 2; have c7 := hT0.frozen 3) | (go_at_call 91; refine (next_tokK s a _ hs n hn r ht 3 (by rw [hk]; rfl) m hm).mono ?_; rintro e w1 ⟨rfl, hb1⟩; have e3 : gr ≠ w1.heap.size := Nat.ne_of_lt (Nat.lt_of_lt_of_le (by simp; omega) hb1.size); have e4 := e3.symm; have k0 := hb1.cell (p := ⟨gr, 0, none⟩) (by simp; omega); have k1 := hb1.cell (p := ⟨gr, 1, none⟩) (by simp; omega)))
    all_goals go_wp2
    all_goals go_meet
    · exact ⟨rfl, rfl, TokAt.late (below_undrew hb1) _⟩
    · have hq := below_undrew2 hb1
      exact ⟨rfl, rfl, TokAt.early hq (by simp) hT0 _ _ _ _⟩
  case rest =>
    obtain ⟨rfl, rfl, tb, rfl, hT, hBx, htb⟩ := hcut
    have hGc := HG0.out.below hBx HG0.out.lt
    have hRc := HR0.out.below hBx HR0.out.lt
    obtain ⟨x0, x1, x2, f0, f1, f2⟩ := blk3 hRc
    obtain ⟨z0, z1, z2, z3⟩ := blk4 hT
    obtain ⟨g0, g1, g2, g3, g4, g5⟩ := blk3 hGc
    have hgR : w.heap.size ≠ gr := by omega
    have hgR2 := hgR.symm
    have hsz : w.heap.size + 1 ≤ tb := by simpa using htb
    have htR : tb ≠ w.heap.size := by omega
    have htR2 := htR.symm
    have htg : tb ≠ gr := by omega
    have htg2 := htg.symm
    have HBX := Lib.hid hBx
    have HT := Lib.hid hT
    have HRC := Lib.hid hRc
    have HGC := Lib.hid hGc
    clear hBx hT hRc hGc
    go_wp2


    go_loopw [] (fun wx => Blk wx w.heap.size 28 #[.int .i8 1, .string ⟨r.t.toArray⟩, .slice none 0 0] ∧ Blk wx gr 108 #[.string s, .int .i64 m, .int .i64 0] ∧ Kept (fun i => i = gr) w wx) (fun _ => 0)
    case atStart =>
      have hk0 := (Kept.of_below (S := fun i => i = gr) HB0.out).trans (Kept.of_below (HBX.out.mono (B := (w.alloc (.cells #[.int .i8 0, .string ⟨#[]⟩, .slice none 0 0] 28)).heap.size) (Nat.le_refl _)))
      exact ⟨((HRC.out.set_ 0 (.int .i8 1)).set_ 1 (.string ⟨r.t.toArray⟩)).far (p := ⟨gr, 1, none⟩) hgR _, ((HGC.out.far (p := ⟨w.heap.size, 0, none⟩) hgR2 _).far (p := ⟨w.heap.size, 1, none⟩) hgR2 _).set_ 1 (.int .i64 m), ((hk0.setCell (p := ⟨w.heap.size, 0, none⟩) (.inr (Nat.le_refl _)) _).setCell (p := ⟨w.heap.size, 1, none⟩) (.inr (Nat.le_refl _)) _).setCell (p := ⟨gr, 1, none⟩) (.inl rfl) _⟩
    case round =>
      obtain ⟨hR, hGr, hK⟩ := hrel
      obtain ⟨y0, y1, y2, _⟩ := blk3 hR
      go_wp2
      have hR3 := hR.set3 (.int .i8 1) (.string ⟨r.t.toArray⟩) (.slice none 0 0)
      obtain ⟨y0, y1, y2, _⟩ := blk3 hR3
      refine bodyPost_ret (v := .agg #[.int .i8 1, .string ⟨r.t.toArray⟩, .slice none 0 0]) ?_ rfl ⟨⟨rfl, ((hGr.far (p := ⟨w.heap.size, 0, none⟩) hgR2 _).far (p := ⟨w.heap.size, 1, none⟩) hgR2 _).far (p := ⟨w.heap.size, 2, none⟩) hgR2 _⟩, ((hK.setCell (p := ⟨w.heap.size, 0, none⟩) (.inr (Nat.le_refl _)) _).setCell (p := ⟨w.heap.size, 1, none⟩) (.inr (Nat.le_refl _)) _).setCell (p := ⟨w.heap.size, 2, none⟩) (.inr (Nat.le_refl _)) _⟩
      simp [results, Tryz.results78, go_sem, y0, y1, y2]

set_option maxHeartbeats 1000000 in
set_option maxRecDepth 100000 in
theorem one_key (s : ByteArray) (a : Int) (w : World) (gr : Nat) (hg : Blk w gr 108 #[.string s, .int .i64 a, .int .i64 0]) (hs : s.size ≤ 1000000) (n : Nat) (hn : startI s a = n) (r : Raw) (ht : tok ((byts s).drop n) = some r) (hk : r.k = 4) :
    Calls Tryz.prog 78 #[.pointer (some ⟨gr, 0, none⟩)] w fun e w' => (e = .returned (.agg #[.int .i8 (leafK r.k), .string ⟨r.t.toArray⟩, .slice none 0 0]) ∧ Blk w' gr 108 #[.string s, .int .i64 (n + r.n : Nat), .int .i64 0]) ∧ Kept (fun i => i = gr) w w' := by
  rw [Int.natCast_add]
  have hlk : leafK r.k = 2 := by rw [hk]; rfl
  rw [hlk]
  obtain ⟨m, hm⟩ : ∃ m : Int, (n : Int) + r.n = m := ⟨_, rfl⟩
  rw [hm]
  have hb0 := Blk.new w 28 #[.int .i8 0, .string ⟨#[]⟩, .slice none 0 0]
  have hB0 : Below w.heap.size w (w.alloc (.cells #[.int .i8 0, .string ⟨#[]⟩, .slice none 0 0] 28)) := (Below.refl _ w).alloc (Nat.le_refl _) _
  have hlt0 := hg.lt
  have hg0 := hg.alloc (.cells #[.int .i8 0, .string ⟨#[]⟩, .slice none 0 0] 28)
  obtain ⟨r0, r1, r2, _⟩ := blk3 hg0
  have e1 : gr ≠ w.heap.size + 1 := by omega
  have e2 := e1.symm
  have HG := Lib.hid hg
  have HG0 := Lib.hid hg0
  have HR0 := Lib.hid hb0
  have HB0 := Lib.hid hB0
  clear hg hg0 hb0 hB0
  go_enter Tryz.func78, Tryz.ntmps78
  go_upto_region 1 with fail
  go_cut [3, 4, 5] from 10 to 22 (fun p okv ev wx => okv = .bool true ∧ ev = .int .i64 0 ∧ TokAt (w.alloc (.cells #[.int .i8 0, .string ⟨#[]⟩, .slice none 0 0] 28)) wx #[.int .i8 4, .string ⟨r.t.toArray⟩, .int .i64 n, .int .i64 m] p)
  case first =>
    go_region_held3 (fun w' => w'.cell? ⟨gr, 0, none⟩ = some (.string s) ∧ w'.cell? ⟨gr, 1, none⟩ = some (.int .i64 a)) (go_keep) (first | (go_at_call 91; refine (next_tokK s a _ hs n hn r ht 4 (by rw [hk]; rfl) m hm).mono ?_; rintro e w1 ⟨rfl, hb1⟩; have e3 : gr ≠ w1.heap.size := Nat.ne_of_lt (Nat.lt_of_lt_of_le (by simp; omega) hb1.size); have e4 := e3.symm; have k0 := hb1.cell (p := ⟨gr, 0, none⟩) (by simp; omega); have k1 := hb1.cell (p := ⟨gr, 1, none⟩) (by simp; omega); have hT0 : Blk w1 (w.heap.size + 1) 118 #[.int .i8 0, .string ⟨#[]⟩, .int .i64 0, .int .i64 0] := (hb1.block _ (by simp)).trans (Blk.new_at (by simp) _ _); obtain ⟨c0, c1, c2, c3⟩ := blk4 hT0; have c4 := hT0.frozen 0; have c5 := hT0.frozen 1; have c6 := hT0.frozen 2; have c7 := hT0.frozen 3) | (go_at_call 91; refine (next_tokK s a _ hs n hn r ht 4 (by rw [hk]; rfl) m hm).mono ?_; rintro e w1 ⟨rfl, hb1⟩; have e3 : gr ≠ w1.heap.size := Nat.ne_of_lt (Nat.lt_of_lt_of_le (by simp; omega) hb1.size); have e4 := e3.symm; have k0 := hb1.cell (p := ⟨gr, 0, none⟩) (by simp; omega); have k1 := hb1.cell (p := ⟨gr, 1, none⟩) (by simp; omega)))
    all_goals go_wp2
    all_goals go_meet
    · exact ⟨rfl, rfl, TokAt.late (below_undrew hb1) _⟩
    · have hq := below_undrew2 hb1
      exact ⟨rfl, rfl, TokAt.early hq (by simp) hT0 _ _ _ _⟩
  case rest =>
    obtain ⟨rfl, rfl, tb, rfl, hT, hBx, htb⟩ := hcut
    have hGc := HG0.out.below hBx HG0.out.lt
    have hRc := HR0.out.below hBx HR0.out.lt
    obtain ⟨x0, x1, x2, f0, f1, f2⟩ := blk3 hRc
    obtain ⟨z0, z1, z2, z3⟩ := blk4 hT
    obtain ⟨g0, g1, g2, g3, g4, g5⟩ := blk3 hGc
    have hgR : w.heap.size ≠ gr := by omega
    have hgR2 := hgR.symm
    have hsz : w.heap.size + 1 ≤ tb := by simpa using htb
    have htR : tb ≠ w.heap.size := by omega
    have htR2 := htR.symm
    have htg : tb ≠ gr := by omega
    have htg2 := htg.symm
    have HBX := Lib.hid hBx
    have HT := Lib.hid hT
    have HRC := Lib.hid hRc
    have HGC := Lib.hid hGc
    clear hBx hT hRc hGc
    go_wp2
    go_region
    go_wp2
    go_loopw [] (fun wx => Blk wx w.heap.size 28 #[.int .i8 2, .string ⟨r.t.toArray⟩, .slice none 0 0] ∧ Blk wx gr 108 #[.string s, .int .i64 m, .int .i64 0] ∧ Kept (fun i => i = gr) w wx) (fun _ => 0)
    case atStart =>
      have hk0 := (Kept.of_below (S := fun i => i = gr) HB0.out).trans (Kept.of_below (HBX.out.mono (B := (w.alloc (.cells #[.int .i8 0, .string ⟨#[]⟩, .slice none 0 0] 28)).heap.size) (Nat.le_refl _)))
      have q1 := (((HRC.out.set_ 0 (.int .i8 2)).set_ 1 (.string ⟨r.t.toArray⟩)).far (p := ⟨gr, 1, none⟩) hgR (.int .i64 m)).drew
      have q2 := (((HGC.out.far (p := ⟨w.heap.size, 0, none⟩) hgR2 (.int .i8 2)).far (p := ⟨w.heap.size, 1, none⟩) hgR2 (.string ⟨r.t.toArray⟩)).set_ 1 (.int .i64 m)).drew
      have q3 := (((hk0.setCell (p := ⟨w.heap.size, 0, none⟩) (.inr (Nat.le_refl _)) (.int .i8 2)).setCell (p := ⟨w.heap.size, 1, none⟩) (.inr (Nat.le_refl _)) (.string ⟨r.t.toArray⟩)).setCell (p := ⟨gr, 1, none⟩) (.inl rfl) (.int .i64 m)).drew
      exact ⟨q1, q2, q3⟩
    case round =>
      obtain ⟨hR, hGr, hK⟩ := hrel
      obtain ⟨y0, y1, y2, _⟩ := blk3 hR
      go_wp2
      have hR3 := hR.set3 (.int .i8 2) (.string ⟨r.t.toArray⟩) (.slice none 0 0)
      obtain ⟨y0, y1, y2, _⟩ := blk3 hR3
      refine bodyPost_ret (v := .agg #[.int .i8 2, .string ⟨r.t.toArray⟩, .slice none 0 0]) ?_ rfl ⟨⟨rfl, ((hGr.far (p := ⟨w.heap.size, 0, none⟩) hgR2 _).far (p := ⟨w.heap.size, 1, none⟩) hgR2 _).far (p := ⟨w.heap.size, 2, none⟩) hgR2 _⟩, ((hK.setCell (p := ⟨w.heap.size, 0, none⟩) (.inr (Nat.le_refl _)) _).setCell (p := ⟨w.heap.size, 1, none⟩) (.inr (Nat.le_refl _)) _).setCell (p := ⟨w.heap.size, 2, none⟩) (.inr (Nat.le_refl _)) _⟩
      simp [results, Tryz.results78, go_sem, y0, y1, y2]
end Go.Proofs.YtiklliiamljogaaGreatDoor

/- read, whole. -/
namespace Go.Proofs.YtiklliiamljogaaGreatDoor
open Go.RowKit

theorem byts_drop_nil {s : ByteArray} {n : Nat} (h : (byts s).drop n = []) (hn : n ≤ s.size) : n = s.size := by
  have := congrArg List.length h
  rw [List.length_drop, byts_len] at this
  simp at this
  omega
theorem read_at (s : ByteArray) (hs : s.size ≤ 1000000) : ∀ m, ReadAt s m := by
  intro m
  induction m using Nat.strongRecOn with
  | ind m ih =>
  intro a p w hst hp hf
  obtain ⟨m, rfl⟩ : ∃ m', m = m' + 1 := ⟨m - 1, by omega⟩
  have hle := startL_le (byts s) p (by rw [byts_len]; exact hp)
  have hge := startL_ge (byts s) p
  rw [byts_len] at hle
  unfold readF
  obtain ⟨n, hn⟩ : ∃ n, startL (byts s) p = n := ⟨_, rfl⟩
  rw [hn] at hst hle hge ⊢
  by_cases he : (byts s).drop n = []
  · rw [if_pos he, byts_len]
    exact read_eof s a w hs n hst he
  · rw [if_neg he]
    cases ht : tok ((byts s).drop n) with
    | none => exact read_bad s a w hs n hst he ht
    | some r =>
      dsimp only
      have hl := tok_len ht
      rw [List.length_drop, byts_len] at hl
      by_cases h1 : r.k = 1
      · rw [if_pos h1]
        exact read_close s a w hs n hst r ht h1
      · rw [if_neg h1]
        by_cases h0 : r.k = 0
        · rw [if_pos h0]
          exact read_list s (m + 1) ih a w hs n hst r ht h0 (n + r.n) m rfl (by omega) (by omega) (by omega)
        · rw [if_neg h0]
          exact (read_leaf s a w hs n hst r ht h0 h1).mono fun e w' h => ⟨⟨_, Lies.leaf _ _ _ _, h.1⟩, h.2⟩
end Go.Proofs.YtiklliiamljogaaGreatDoor

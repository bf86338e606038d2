/- one, where no list begins. -/
import Derived.Test.YtephhendkmhggaaTreeL
import Derived.Deep.RegionHeld3
namespace Go.Proofs.Ytephhendkmhggaa
open Go.RowKit

theorem below_undrew {a w1 : World} (h : Below a.drew.heap.size a.drew w1) : Below a.heap.size a w1 := ⟨h.os, h.tape, h.output, h.size, h.block⟩
theorem below_undrew2 {a w1 : World} {o : Obj} (h : Below (a.alloc o).drew.heap.size (a.alloc o).drew w1) : Below (a.heap.size + 1) (a.alloc o) w1 := ⟨h.os, h.tape, h.output, h.size, fun k hk => h.block k (by simpa using hk)⟩
/-- A token's box behind a region in which it was made. -/
def TokAt (W0 wx : World) (T : Array Value) (p : Value) : Prop := ∃ tb, p = .pointer (some ⟨tb, 0, none⟩) ∧ Blk wx tb 62 T ∧ Below W0.heap.size W0 wx ∧ W0.heap.size ≤ tb
theorem TokAt.late {W0 w1 : World} (hb : Below W0.heap.size W0 w1) (T : Array Value) : TokAt W0 (w1.alloc (.cells T 62)) T (.pointer (some ⟨w1.heap.size, 0, none⟩)) :=
  ⟨_, rfl, Blk.new _ _ _, hb.alloc hb.size _, hb.size⟩
theorem TokAt.early {W0 w1 : World} {o : Obj} {c0 c1 c2 c3 : Value} (hb : Below (W0.heap.size + 1) (W0.alloc o) w1) {n : Nat} (hn : W0.heap.size = n) (hT : Blk w1 n 62 #[c0, c1, c2, c3]) (d0 d1 d2 d3 : Value) :
    TokAt W0 ((((w1.setCell ⟨n, 0, none⟩ d0).setCell ⟨n, 1, none⟩ d1).setCell ⟨n, 2, none⟩ d2).setCell ⟨n, 3, none⟩ d3) #[d0, d1, d2, d3] (.pointer (some ⟨n, 0, none⟩)) := by
  subst hn
  refine ⟨_, rfl, (((hT.set_ 0 d0).set_ 1 d1).set_ 2 d2).set_ 3 d3, ?_, Nat.le_refl _⟩
  have h0 : Below W0.heap.size W0 (W0.alloc o) := (Below.refl _ W0).alloc (Nat.le_refl _) _
  exact ((((h0.trans (hb.mono (Nat.le_succ _))).setCell (p := ⟨W0.heap.size, 0, none⟩) (Nat.le_refl _) _).setCell (p := ⟨W0.heap.size, 1, none⟩) (Nat.le_refl _) _).setCell (p := ⟨W0.heap.size, 2, none⟩) (Nat.le_refl _) _).setCell (p := ⟨W0.heap.size, 3, none⟩) (Nat.le_refl _) _

set_option maxHeartbeats 1000000 in
set_option maxRecDepth 100000 in
theorem one_eof (s : ByteArray) (a : Int) (w : World) (gr : Nat) (hg : Blk w gr 45 #[.string s, .int .i64 a, .int .i64 0]) (hs : s.size ≤ 1000000) (n : Nat) (hn : startI s a = n) (h : (byts s).drop n = []) :
    Calls Try.prog 25 #[.pointer (some ⟨gr, 0, none⟩)] w fun e w' => (e = .returned (.agg #[.int .i8 0, .string ⟨#[]⟩, .slice none 0 0]) ∧ Blk w' gr 45 #[.string s, .int .i64 s.size, .int .i64 21]) ∧ Kept (fun i => i = gr) w w' := by
  have hb0 := Blk.new w 26 #[.int .i8 0, .string ⟨#[]⟩, .slice none 0 0]
  have hB0 : Below w.heap.size w (w.alloc (.cells #[.int .i8 0, .string ⟨#[]⟩, .slice none 0 0] 26)) := (Below.refl _ w).alloc (Nat.le_refl _) _
  have hlt0 := hg.lt
  have hg0 := hg.alloc (.cells #[.int .i8 0, .string ⟨#[]⟩, .slice none 0 0] 26)
  obtain ⟨r0, r1, r2, _⟩ := blk3 hg0
  have e1 : gr ≠ w.heap.size + 1 := by omega
  have e2 := e1.symm
  have HG := Lib.hid hg
  have HG0 := Lib.hid hg0
  have HR0 := Lib.hid hb0
  have HB0 := Lib.hid hB0
  clear hg hg0 hb0 hB0
  go_enter Try.func25, Try.ntmps25
  go_upto_region 1 with fail
  go_cut [3, 4, 5] from 10 to 22 (fun p okv ev wx => okv = .bool false ∧ ev = .int .i64 0 ∧ TokAt (w.alloc (.cells #[.int .i8 0, .string ⟨#[]⟩, .slice none 0 0] 26)) wx #[.int .i8 0, .string ⟨#[]⟩, .int .i64 0, .int .i64 0] p)
  case first =>
    go_region_held3 (fun w' => w'.cell? ⟨gr, 0, none⟩ = some (.string s) ∧ w'.cell? ⟨gr, 1, none⟩ = some (.int .i64 a)) (go_keep) (first | (go_at_call 37; refine (next_eof s a _ hs n hn h).mono ?_; rintro e w1 ⟨rfl, hb1⟩; have e3 : gr ≠ w1.heap.size := Nat.ne_of_lt (Nat.lt_of_lt_of_le (by simp; omega) hb1.size); have e4 := e3.symm; have k0 := hb1.cell (p := ⟨gr, 0, none⟩) (by simp; omega); have k1 := hb1.cell (p := ⟨gr, 1, none⟩) (by simp; omega); have hT0 : Blk w1 (w.heap.size + 1) 62 #[.int .i8 0, .string ⟨#[]⟩, .int .i64 0, .int .i64 0] := (hb1.block _ (by simp)).trans (Blk.new_at (by simp) _ _); obtain ⟨c0, c1, c2, c3⟩ := blk4 hT0; have c4 := hT0.frozen 0; have c5 := hT0.frozen 1; have c6 := hT0.frozen 2; have c7 := hT0.frozen 3) | (go_at_call 37; refine (next_eof s a _ hs n hn h).mono ?_; rintro e w1 ⟨rfl, hb1⟩; have e3 : gr ≠ w1.heap.size := Nat.ne_of_lt (Nat.lt_of_lt_of_le (by simp; omega) hb1.size); have e4 := e3.symm; have k0 := hb1.cell (p := ⟨gr, 0, none⟩) (by simp; omega); have k1 := hb1.cell (p := ⟨gr, 1, none⟩) (by simp; omega)))
    all_goals go_wp2
    all_goals go_meet
    · exact ⟨rfl, rfl, TokAt.late (below_undrew hb1) _⟩
    · have hq := below_undrew2 hb1
      exact ⟨rfl, rfl, TokAt.early hq (by simp) hT0 _ _ _ _⟩
  case rest =>
    obtain ⟨rfl, rfl, tb, rfl, hT, hBx, htb⟩ := hcut
    have hGc := HG0.out.below hBx HG0.out.lt
    have hRc := HR0.out.below hBx HR0.out.lt
    obtain ⟨x0, x1, x2, f0, f1, f2⟩ := blk3 hRc
    obtain ⟨z0, z1, z2, z3⟩ := blk4 hT
    obtain ⟨g0, g1, g2, _⟩ := blk3 hGc
    have hgR : w.heap.size ≠ gr := by omega
    have HBX := Lib.hid hBx
    have HT := Lib.hid hT
    have HRC := Lib.hid hRc
    have HGC := Lib.hid hGc
    clear hBx hT hRc hGc
    go_wp2_with (go_at_call 38; refine (stop_ok HGC.out 21 s.size).mono ?_; rintro e w2 ⟨rfl, hb2, hk2⟩; have hR2 := HRC.out.kept hk2 hgR; obtain ⟨x0, x1, x2, f0, f1, f2⟩ := blk3 hR2)
    have hb3 := hR2.set3 (.int .i8 0) (.string ⟨#[]⟩) (.slice none 0 0)
    obtain ⟨y0, y1, y2, _⟩ := blk3 hb3
    have hk := (((((Kept.of_below (S := fun i => i = gr) HB0.out).trans (Kept.of_below (HBX.out.mono (B := (w.alloc (.cells #[.int .i8 0, .string ⟨#[]⟩, .slice none 0 0] 26)).heap.size) (Nat.le_refl _)))).trans hk2).setCell (p := ⟨w.heap.size, 0, none⟩) (.inr (Nat.le_refl _)) (.int .i8 0)).setCell (p := ⟨w.heap.size, 1, none⟩) (.inr (Nat.le_refl _)) (.string ⟨#[]⟩)).setCell (p := ⟨w.heap.size, 2, none⟩) (.inr (Nat.le_refl _)) (.slice none 0 0)
    refine bodyPost_ret (v := .agg #[.int .i8 0, .string ⟨#[]⟩, .slice none 0 0]) ?_ rfl ⟨⟨rfl, ?_⟩, hk⟩
    · simp [results, Try.results25, go_sem, y0, y1, y2]
    · exact ((hb2.far (p := ⟨w.heap.size, 0, none⟩) hgR.symm (.int .i8 0)).far (p := ⟨w.heap.size, 1, none⟩) hgR.symm (.string ⟨#[]⟩)).far (p := ⟨w.heap.size, 2, none⟩) hgR.symm (.slice none 0 0)

set_option maxHeartbeats 1000000 in
set_option maxRecDepth 100000 in
theorem one_bad (s : ByteArray) (a : Int) (w : World) (gr : Nat) (hg : Blk w gr 45 #[.string s, .int .i64 a, .int .i64 0]) (hs : s.size ≤ 1000000) (n : Nat) (hn : startI s a = n) (h : (byts s).drop n ≠ []) (ht : tok ((byts s).drop n) = none) :
    Calls Try.prog 25 #[.pointer (some ⟨gr, 0, none⟩)] w fun e w' => (e = .returned (.agg #[.int .i8 0, .string ⟨#[]⟩, .slice none 0 0]) ∧ Blk w' gr 45 #[.string s, .int .i64 n, .int .i64 20]) ∧ Kept (fun i => i = gr) w w' := by
  have hb0 := Blk.new w 26 #[.int .i8 0, .string ⟨#[]⟩, .slice none 0 0]
  have hB0 : Below w.heap.size w (w.alloc (.cells #[.int .i8 0, .string ⟨#[]⟩, .slice none 0 0] 26)) := (Below.refl _ w).alloc (Nat.le_refl _) _
  have hlt0 := hg.lt
  have hg0 := hg.alloc (.cells #[.int .i8 0, .string ⟨#[]⟩, .slice none 0 0] 26)
  obtain ⟨r0, r1, r2, _⟩ := blk3 hg0
  have e1 : gr ≠ w.heap.size + 1 := by omega
  have e2 := e1.symm
  have HG := Lib.hid hg
  have HG0 := Lib.hid hg0
  have HR0 := Lib.hid hb0
  have HB0 := Lib.hid hB0
  clear hg hg0 hb0 hB0
  go_enter Try.func25, Try.ntmps25
  go_upto_region 1 with fail
  go_cut [3, 4, 5] from 10 to 22 (fun p okv ev wx => okv = .bool false ∧ ev = .int .i64 20 ∧ TokAt (w.alloc (.cells #[.int .i8 0, .string ⟨#[]⟩, .slice none 0 0] 26)) wx #[.int .i8 0, .string ⟨#[]⟩, .int .i64 n, .int .i64 0] p)
  case first =>
    go_region_held3 (fun w' => w'.cell? ⟨gr, 0, none⟩ = some (.string s) ∧ w'.cell? ⟨gr, 1, none⟩ = some (.int .i64 a)) (go_keep) (first | (go_at_call 37; refine (next_bad s a _ hs n hn h ht).mono ?_; rintro e w1 ⟨rfl, hb1⟩; have e3 : gr ≠ w1.heap.size := Nat.ne_of_lt (Nat.lt_of_lt_of_le (by simp; omega) hb1.size); have e4 := e3.symm; have k0 := hb1.cell (p := ⟨gr, 0, none⟩) (by simp; omega); have k1 := hb1.cell (p := ⟨gr, 1, none⟩) (by simp; omega); have hT0 : Blk w1 (w.heap.size + 1) 62 #[.int .i8 0, .string ⟨#[]⟩, .int .i64 0, .int .i64 0] := (hb1.block _ (by simp)).trans (Blk.new_at (by simp) _ _); obtain ⟨c0, c1, c2, c3⟩ := blk4 hT0; have c4 := hT0.frozen 0; have c5 := hT0.frozen 1; have c6 := hT0.frozen 2; have c7 := hT0.frozen 3) | (go_at_call 37; refine (next_bad s a _ hs n hn h ht).mono ?_; rintro e w1 ⟨rfl, hb1⟩; have e3 : gr ≠ w1.heap.size := Nat.ne_of_lt (Nat.lt_of_lt_of_le (by simp; omega) hb1.size); have e4 := e3.symm; have k0 := hb1.cell (p := ⟨gr, 0, none⟩) (by simp; omega); have k1 := hb1.cell (p := ⟨gr, 1, none⟩) (by simp; omega)))
    all_goals go_wp2
    all_goals go_meet
    · exact ⟨rfl, rfl, TokAt.late (below_undrew hb1) _⟩
    · have hq := below_undrew2 hb1
      exact ⟨rfl, rfl, TokAt.early hq (by simp) hT0 _ _ _ _⟩
  case rest =>
    obtain ⟨rfl, rfl, tb, rfl, hT, hBx, htb⟩ := hcut
    have hGc := HG0.out.below hBx HG0.out.lt
    have hRc := HR0.out.below hBx HR0.out.lt
    obtain ⟨x0, x1, x2, f0, f1, f2⟩ := blk3 hRc
    obtain ⟨z0, z1, z2, z3⟩ := blk4 hT
    obtain ⟨g0, g1, g2, _⟩ := blk3 hGc
    have hgR : w.heap.size ≠ gr := by omega
    have HBX := Lib.hid hBx
    have HT := Lib.hid hT
    have HRC := Lib.hid hRc
    have HGC := Lib.hid hGc
    clear hBx hT hRc hGc
    go_wp2_with (go_at_call 38; refine (stop_ok HGC.out 20 n).mono ?_; rintro e w2 ⟨rfl, hb2, hk2⟩; have hR2 := HRC.out.kept hk2 hgR; obtain ⟨x0, x1, x2, f0, f1, f2⟩ := blk3 hR2)
    have hb3 := hR2.set3 (.int .i8 0) (.string ⟨#[]⟩) (.slice none 0 0)
    obtain ⟨y0, y1, y2, _⟩ := blk3 hb3
    have hk := (((((Kept.of_below (S := fun i => i = gr) HB0.out).trans (Kept.of_below (HBX.out.mono (B := (w.alloc (.cells #[.int .i8 0, .string ⟨#[]⟩, .slice none 0 0] 26)).heap.size) (Nat.le_refl _)))).trans hk2).setCell (p := ⟨w.heap.size, 0, none⟩) (.inr (Nat.le_refl _)) (.int .i8 0)).setCell (p := ⟨w.heap.size, 1, none⟩) (.inr (Nat.le_refl _)) (.string ⟨#[]⟩)).setCell (p := ⟨w.heap.size, 2, none⟩) (.inr (Nat.le_refl _)) (.slice none 0 0)
    refine bodyPost_ret (v := .agg #[.int .i8 0, .string ⟨#[]⟩, .slice none 0 0]) ?_ rfl ⟨⟨rfl, ?_⟩, hk⟩
    · simp [results, Try.results25, go_sem, y0, y1, y2]
    · exact ((hb2.far (p := ⟨w.heap.size, 0, none⟩) hgR.symm (.int .i8 0)).far (p := ⟨w.heap.size, 1, none⟩) hgR.symm (.string ⟨#[]⟩)).far (p := ⟨w.heap.size, 2, none⟩) hgR.symm (.slice none 0 0)

set_option maxHeartbeats 1000000 in
set_option maxRecDepth 100000 in
theorem one_close (s : ByteArray) (a : Int) (w : World) (gr : Nat) (hg : Blk w gr 45 #[.string s, .int .i64 a, .int .i64 0]) (hs : s.size ≤ 1000000) (n : Nat) (hn : startI s a = n) (r : Raw) (ht : tok ((byts s).drop n) = some r) (hk : r.k = 1) :
    Calls Try.prog 25 #[.pointer (some ⟨gr, 0, none⟩)] w fun e w' => (e = .returned (.agg #[.int .i8 0, .string ⟨#[]⟩, .slice none 0 0]) ∧ Blk w' gr 45 #[.string s, .int .i64 n, .int .i64 20]) ∧ Kept (fun i => i = gr) w w' := by
  obtain ⟨m, hm⟩ : ∃ m : Int, (n : Int) + r.n = m := ⟨_, rfl⟩
  have hb0 := Blk.new w 26 #[.int .i8 0, .string ⟨#[]⟩, .slice none 0 0]
  have hB0 : Below w.heap.size w (w.alloc (.cells #[.int .i8 0, .string ⟨#[]⟩, .slice none 0 0] 26)) := (Below.refl _ w).alloc (Nat.le_refl _) _
  have hlt0 := hg.lt
  have hg0 := hg.alloc (.cells #[.int .i8 0, .string ⟨#[]⟩, .slice none 0 0] 26)
  obtain ⟨r0, r1, r2, _⟩ := blk3 hg0
  have e1 : gr ≠ w.heap.size + 1 := by omega
  have e2 := e1.symm
  have HG := Lib.hid hg
  have HG0 := Lib.hid hg0
  have HR0 := Lib.hid hb0
  have HB0 := Lib.hid hB0
  clear hg hg0 hb0 hB0
  go_enter Try.func25, Try.ntmps25
  go_upto_region 1 with fail
  go_cut [3, 4, 5] from 10 to 22 (fun p okv ev wx => okv = .bool true ∧ ev = .int .i64 0 ∧ TokAt (w.alloc (.cells #[.int .i8 0, .string ⟨#[]⟩, .slice none 0 0] 26)) wx #[.int .i8 1, .string ⟨r.t.toArray⟩, .int .i64 n, .int .i64 m] p)
  case first =>
    go_region_held3 (fun w' => w'.cell? ⟨gr, 0, none⟩ = some (.string s) ∧ w'.cell? ⟨gr, 1, none⟩ = some (.int .i64 a)) (go_keep) (first | (go_at_call 37; refine (next_tokK s a _ hs n hn r ht 1 (by rw [hk]; rfl) m hm).mono ?_; rintro e w1 ⟨rfl, hb1⟩; have e3 : gr ≠ w1.heap.size := Nat.ne_of_lt (Nat.lt_of_lt_of_le (by simp; omega) hb1.size); have e4 := e3.symm; have k0 := hb1.cell (p := ⟨gr, 0, none⟩) (by simp; omega); have k1 := hb1.cell (p := ⟨gr, 1, none⟩) (by simp; omega); have hT0 : Blk w1 (w.heap.size + 1) 62 #[.int .i8 0, .string ⟨#[]⟩, .int .i64 0, .int .i64 0] := (hb1.block _ (by simp)).trans (Blk.new_at (by simp) _ _); obtain ⟨c0, c1, c2, c3⟩ := blk4 hT0; have c4 := hT0.frozen 0; have c5 := hT0.frozen 1; have c6 := hT0.frozen 2; have c7 := hT0.frozen 3) | (go_at_call 37; refine (next_tokK s a _ hs n hn r ht 1 (by rw [hk]; rfl) m hm).mono ?_; rintro e w1 ⟨rfl, hb1⟩; have e3 : gr ≠ w1.heap.size := Nat.ne_of_lt (Nat.lt_of_lt_of_le (by simp; omega) hb1.size); have e4 := e3.symm; have k0 := hb1.cell (p := ⟨gr, 0, none⟩) (by simp; omega); have k1 := hb1.cell (p := ⟨gr, 1, none⟩) (by simp; omega)))
    all_goals go_wp2
    all_goals go_meet
    · exact ⟨rfl, rfl, TokAt.late (below_undrew hb1) _⟩
    · have hq := below_undrew2 hb1
      exact ⟨rfl, rfl, TokAt.early hq (by simp) hT0 _ _ _ _⟩
  case rest =>
    obtain ⟨rfl, rfl, tb, rfl, hT, hBx, htb⟩ := hcut
    have hGc := HG0.out.below hBx HG0.out.lt
    have hRc := HR0.out.below hBx HR0.out.lt
    obtain ⟨x0, x1, x2, f0, f1, f2⟩ := blk3 hRc
    obtain ⟨z0, z1, z2, z3⟩ := blk4 hT
    obtain ⟨g0, g1, g2, _⟩ := blk3 hGc
    have hgR : w.heap.size ≠ gr := by omega
    have HBX := Lib.hid hBx
    have HT := Lib.hid hT
    have HRC := Lib.hid hRc
    have HGC := Lib.hid hGc
    clear hBx hT hRc hGc
    go_wp2_with (go_at_call 38; refine (stop_ok HGC.out 20 n).mono ?_; rintro e w2 ⟨rfl, hb2, hk2⟩; have hR2 := HRC.out.kept hk2 hgR; obtain ⟨x0, x1, x2, f0, f1, f2⟩ := blk3 hR2)
    have hb3 := hR2.set3 (.int .i8 0) (.string ⟨#[]⟩) (.slice none 0 0)
    obtain ⟨y0, y1, y2, _⟩ := blk3 hb3
    have hk := (((((Kept.of_below (S := fun i => i = gr) HB0.out).trans (Kept.of_below (HBX.out.mono (B := (w.alloc (.cells #[.int .i8 0, .string ⟨#[]⟩, .slice none 0 0] 26)).heap.size) (Nat.le_refl _)))).trans hk2).setCell (p := ⟨w.heap.size, 0, none⟩) (.inr (Nat.le_refl _)) (.int .i8 0)).setCell (p := ⟨w.heap.size, 1, none⟩) (.inr (Nat.le_refl _)) (.string ⟨#[]⟩)).setCell (p := ⟨w.heap.size, 2, none⟩) (.inr (Nat.le_refl _)) (.slice none 0 0)
    refine bodyPost_ret (v := .agg #[.int .i8 0, .string ⟨#[]⟩, .slice none 0 0]) ?_ rfl ⟨⟨rfl, ?_⟩, hk⟩
    · simp [results, Try.results25, go_sem, y0, y1, y2]
    · exact ((hb2.far (p := ⟨w.heap.size, 0, none⟩) hgR.symm (.int .i8 0)).far (p := ⟨w.heap.size, 1, none⟩) hgR.symm (.string ⟨#[]⟩)).far (p := ⟨w.heap.size, 2, none⟩) hgR.symm (.slice none 0 0)
end Go.Proofs.Ytephhendkmhggaa

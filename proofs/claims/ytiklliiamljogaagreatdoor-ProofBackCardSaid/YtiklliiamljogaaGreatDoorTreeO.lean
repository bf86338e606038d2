/- one at a list. -/
import Derived.Test.YtiklliiamljogaaGreatDoorTreeL
namespace Go.Proofs.YtiklliiamljogaaGreatDoor
open Go.RowKit

def OneIs (S : Nat → Prop) (gr : Nat) (s : ByteArray) (w' : World) (r : Rd) (e : Ending) : Prop := match r with
  | .ok x q => (∃ v, Lies S w' v x ∧ e = .returned v) ∧ Blk w' gr 108 #[.string s, .int .i64 q, .int .i64 0]
  | .err q c => e = .returned (.agg #[.int .i8 0, .string ⟨#[]⟩, .slice none 0 0]) ∧ Blk w' gr 108 #[.string s, .int .i64 q, .int .i64 c]
/-- one, for so much fuel. -/
def OneAt (s : ByteArray) (m : Nat) : Prop := ∀ (a : Int) (p : Nat) (w : World) (gr : Nat), Blk w gr 108 #[.string s, .int .i64 a, .int .i64 0] → startI s a = startL (byts s) p → p ≤ s.size → 2 * (s.size - p) + 1 ≤ m →
  Calls Tryz.prog 78 #[.pointer (some ⟨gr, 0, none⟩)] w fun e w' => OneIs (fun b => w.heap.size ≤ b) gr s w' (readF (byts s) m p) e ∧ Kept (fun i => i = gr) w w'

/-- Next where no list ends. -/
theorem next_any (s : ByteArray) (hs : s.size ≤ 1000000) (q : Nat) (hq : q ≤ s.size) (hc : closes (byts s) q = none) : ∃ (k : Int) (t : ByteArray) (a b : Int) (ok : Bool) (c : Int),
    (∀ w, Calls Tryz.prog 91 #[.string s, .int .i64 q] w fun e w' => e = .returned (.tuple #[.agg #[.int .i8 k, .string t, .int .i64 a, .int .i64 b], .bool ok, .int .i64 c]) ∧ Below w.heap.size w w') ∧
    ((c = 20 ∧ ok = false) ∨ (c = 0 ∧ ok = false) ∨ (c = 0 ∧ ok = true ∧ (k == 1) = false)) := by
  have hn := startI_nat s q hq
  by_cases he : (byts s).drop (startL (byts s) q) = []
  · exact ⟨0, ⟨#[]⟩, 0, 0, false, 0, fun w => next_eof s q w hs _ hn he, .inr (.inl ⟨rfl, rfl⟩)⟩
  · cases ht : tok ((byts s).drop (startL (byts s) q)) with
    | none => exact ⟨0, ⟨#[]⟩, (startL (byts s) q : Nat), 0, false, 20, fun w => next_bad s q w hs _ hn he ht, .inl ⟨rfl, rfl⟩⟩
    | some r =>
      have h1 := closes_none hc ht
      exact ⟨r.k, ⟨r.t.toArray⟩, (startL (byts s) q : Nat), _, true, 0, fun w => next_tokK s q w hs _ hn r ht r.k rfl _ rfl, .inr (.inr ⟨rfl, rfl, beq_eq_false_iff_ne.2 (by omega)⟩)⟩

set_option maxHeartbeats 4000000 in
set_option maxRecDepth 100000 in
theorem one_list (s : ByteArray) (N : Nat) (ih : ∀ m, m < N → OneAt s m) (a : Int) (w : World) (gr : Nat) (hg : Blk w gr 108 #[.string s, .int .i64 a, .int .i64 0]) (hs : s.size ≤ 1000000) (n : Nat) (hn : startI s a = n) (r : Raw) (ht : tok ((byts s).drop n) = some r) (h0 : r.k = 0)
    (p0 m0 : Nat) (hp0 : n + r.n = p0) (hle : p0 ≤ s.size) (hm0 : m0 < N) (hf : 2 * (s.size - p0) + 2 ≤ m0) :
    Calls Tryz.prog 78 #[.pointer (some ⟨gr, 0, none⟩)] w fun e w' => OneIs (fun b => w.heap.size ≤ b) gr s w' (listF (byts s) m0 p0 []) e ∧ Kept (fun i => i = gr) w w' := by
  obtain ⟨rd, hrd⟩ : ∃ rd, listF (byts s) m0 p0 [] = rd := ⟨_, rfl⟩
  rw [hrd]
  have HI := Lib.hid ih
  have HM := Lib.hid hf
  have HD := Lib.hid hrd
  clear ih hf hrd
  have hb0 := Blk.new w 28 #[.int .i8 0, .string ⟨#[]⟩, .slice none 0 0]
  have hB0 : Below w.heap.size w (w.alloc (.cells #[.int .i8 0, .string ⟨#[]⟩, .slice none 0 0] 28)) := (Below.refl _ w).alloc (Nat.le_refl _) _
  have hlt0 := hg.lt
  have hg0 := hg.alloc (.cells #[.int .i8 0, .string ⟨#[]⟩, .slice none 0 0] 28)
  obtain ⟨r0, r1, r2, _⟩ := blk3 hg0
  have e1 : gr ≠ w.heap.size + 1 := by omega
  have e2 := e1.symm
  have HG := Lib.hid hg
  have HG0 := Lib.hid hg0
  have HR0 := Lib.hid hb0
  have HB0 := Lib.hid hB0
  clear hg hg0 hb0 hB0
  go_enter Tryz.func78, Tryz.ntmps78
  go_upto_region 1 with fail
  go_cut [3, 4, 5] from 10 to 22 (fun p okv ev wx => okv = .bool true ∧ ev = .int .i64 0 ∧ TokAt (w.alloc (.cells #[.int .i8 0, .string ⟨#[]⟩, .slice none 0 0] 28)) wx #[.int .i8 0, .string ⟨r.t.toArray⟩, .int .i64 n, .int .i64 p0] p)
  case first =>
    go_region_held3 (fun w' => w'.cell? ⟨gr, 0, none⟩ = some (.string s) ∧ w'.cell? ⟨gr, 1, none⟩ = some (.int .i64 a)) (go_keep) (first | (go_at_call 91; refine (next_tokK s a _ hs n hn r ht 0 (by rw [h0]; rfl) p0 (by omega)).mono ?_; rintro e w1 ⟨rfl, hb1⟩; have e3 : gr ≠ w1.heap.size := Nat.ne_of_lt (Nat.lt_of_lt_of_le (by simp; omega) hb1.size); have e4 := e3.symm; have k0 := hb1.cell (p := ⟨gr, 0, none⟩) (by simp; omega); have k1 := hb1.cell (p := ⟨gr, 1, none⟩) (by simp; omega); have hT0 : Blk w1 (w.heap.size + 1) 118 #[.int .i8 0, .string ⟨#[]⟩, .int .i64 0, .int .i64 0] := (hb1.block _ (by simp)).trans (Blk.new_at (by simp) _ _); obtain ⟨c0, c1, c2, c3⟩ := blk4 hT0; have c4 := hT0.frozen 0; have c5 := hT0.frozen 1; have c6 := hT0.frozen 2; have c7 := hT0.frozen 3) | (go_at_call 91; refine (next_tokK s a _ hs n hn r ht 0 (by rw [h0]; rfl) p0 (by omega)).mono ?_; rintro e w1 ⟨rfl, hb1⟩; have e3 : gr ≠ w1.heap.size := Nat.ne_of_lt (Nat.lt_of_lt_of_le (by simp; omega) hb1.size); have e4 := e3.symm; have k0 := hb1.cell (p := ⟨gr, 0, none⟩) (by simp; omega); have k1 := hb1.cell (p := ⟨gr, 1, none⟩) (by simp; omega)))
    all_goals go_wp2
    all_goals go_meet
    · exact ⟨rfl, rfl, TokAt.late (below_undrew hb1) _⟩
    · have hq := below_undrew2 hb1
      exact ⟨rfl, rfl, TokAt.early hq (by simp) hT0 _ _ _ _⟩
  case rest =>
    obtain ⟨rfl, rfl, tb, rfl, hT, hBx, htb⟩ := hcut
    have hGc := HG0.out.below hBx HG0.out.lt
    have hRc := HR0.out.below hBx HR0.out.lt
    obtain ⟨x0, x1, x2, f0, f1, f2⟩ := blk3 hRc
    obtain ⟨z0, z1, z2, z3⟩ := blk4 hT
    obtain ⟨g0, g1, g2, g3, g4, g5⟩ := blk3 hGc
    have hgR : w.heap.size ≠ gr := by omega
    have hgR2 := hgR.symm
    have hsz0 : w.heap.size + 1 ≤ tb := by simpa using htb
    have htR : tb ≠ w.heap.size := by omega
    have htR2 := htR.symm
    have htg : tb ≠ gr := by omega
    have htg2 := htg.symm
    have hszw : w.heap.size + 1 ≤ wc.heap.size := by simpa using hBx.size
    have hsp : p0 ≤ 1000000 := by omega
    have hgl : gr < w.heap.size := by omega
    have HBX := Lib.hid hBx
    have HRC := Lib.hid hRc
    have HGC := Lib.hid hGc
    clear hBx hT hRc hGc
    go_wp2
    go_loopw [] (fun wx => ∃ (q m : Nat) (cs : List C3) (xs : List Sx) (sv : Value), q ≤ s.size ∧ 2 * (s.size - q) + 2 ≤ m ∧ m < N ∧ listF (byts s) m q xs = rd ∧ xs.length ≤ q ∧
      Blk wx gr 108 #[.string s, .int .i64 q, .int .i64 0] ∧ Blk wx w.heap.size 28 #[.int .i8 3, .string ⟨#[]⟩, sv] ∧ Acc wx (w.heap.size + 1) sv cs xs ∧ Kept (fun i => i = gr) w wx ∧ w.heap.size + 1 ≤ wx.heap.size) (fun wx => (s.size - intOf ((wx.cell? ⟨gr, 1, none⟩).getD (.int .i64 0))).toNat)
    case atStart =>
      have hk0 := (Kept.of_below (S := fun i => i = gr) HB0.out).trans (Kept.of_below (HBX.out.mono (B := (w.alloc (.cells #[.int .i8 0, .string ⟨#[]⟩, .slice none 0 0] 28)).heap.size) (Nat.le_refl _)))
      exact ⟨p0, m0, [], [], .slice none 0 0, hle, HM.out, hm0, HD.out, Nat.zero_le _, (HGC.out.far (p := ⟨w.heap.size, 0, none⟩) hgR2 _).set_ 1 (.int .i64 p0), (HRC.out.set_ 0 (.int .i8 3)).far (p := ⟨gr, 1, none⟩) hgR _, Acc.nil _ _, (hk0.setCell (p := ⟨w.heap.size, 0, none⟩) (.inr (Nat.le_refl _)) _).setCell (p := ⟨gr, 1, none⟩) (.inl rfl) _, by simpa [World.setCell] using hszw⟩
    case round =>
      obtain ⟨q, m, cs, xs, sv, hq, hfq, hmN, hlf, hxq, hbG, hbR, hacc, hK, hsz⟩ := hrel
      clear HM HD HBX HRC HGC x0 x1 x2 f0 f1 f2 z0 z1 z2 z3 g0 g1 g2 g3 g4 g5 htR htR2 htg htg2 hszw hsz0
      obtain ⟨m, rfl⟩ : ∃ m', m = m' + 1 := ⟨m - 1, by omega⟩
      obtain ⟨r0, r1, r2, _⟩ := blk3 hbG
      obtain ⟨y0, y1, y2, _⟩ := blk3 hbR
      obtain ⟨A, cap, rfl⟩ := own_slice hacc.own
      have he1 : gr ≠ wr.heap.size := by omega
      have he2 := he1.symm
      unfold listF at hlf
      have HA := Lib.hid hacc
      have HK := Lib.hid hK
      have HR := Lib.hid hbR
      have HG := Lib.hid hbG
      clear hacc hK hbR hbG
      cases hc : closes (byts s) q with
      | some q2 =>
        rw [hc] at hlf
        obtain ⟨rr, hr2, hk1, hq2, _, hq3⟩ := closes_some hc (by rw [byts_len]; exact hq)
        rw [byts_len] at hq3
        dsimp only at hlf
        have hn2 := startI_nat s q hq
        obtain ⟨st, hst⟩ : ∃ st, startL (byts s) q = st := ⟨_, rfl⟩
        rw [hst] at hr2 hq2 hn2
        have HQ := Lib.hid hq2
        have HL := Lib.hid hlf
        clear hlf hc hst ht hn h0 hp0 hq2
        go_upto_region 19 with fail
        go_cut [6, 7, 8] from 73 to 85 (fun p okv ev wx => okv = .bool true ∧ ev = .int .i64 0 ∧ TokAt wr wx #[.int .i8 1, .string ⟨rr.t.toArray⟩, .int .i64 st, .int .i64 q2] p)
        case first =>
          go_region_held3 (fun w' => w'.cell? ⟨gr, 0, none⟩ = some (.string s) ∧ w'.cell? ⟨gr, 1, none⟩ = some (.int .i64 q)) (go_keep) (first | (go_at_call 91; refine (next_tokK s q _ hs st hn2 rr hr2 1 (by rw [hk1]; rfl) q2 (by have := HQ.out; omega)).mono ?_; rintro e w1 ⟨rfl, hb1⟩; have e3 : gr ≠ w1.heap.size := Nat.ne_of_lt (Nat.lt_of_lt_of_le (by simp; omega) hb1.size); have e4 := e3.symm; have k0 := hb1.cell (p := ⟨gr, 0, none⟩) (by simp; omega); have k1 := hb1.cell (p := ⟨gr, 1, none⟩) (by simp; omega); have hT0 : Blk w1 wr.heap.size 118 #[.int .i8 0, .string ⟨#[]⟩, .int .i64 0, .int .i64 0] := (hb1.block _ (by simp)).trans (Blk.new_at rfl _ _); obtain ⟨c0, c1, c2, c3⟩ := blk4 hT0; have c4 := hT0.frozen 0; have c5 := hT0.frozen 1; have c6 := hT0.frozen 2; have c7 := hT0.frozen 3) | (go_at_call 91; refine (next_tokK s q _ hs st hn2 rr hr2 1 (by rw [hk1]; rfl) q2 (by have := HQ.out; omega)).mono ?_; rintro e w1 ⟨rfl, hb1⟩; have e3 : gr ≠ w1.heap.size := Nat.ne_of_lt (Nat.lt_of_lt_of_le (by simp; omega) hb1.size); have e4 := e3.symm; have k0 := hb1.cell (p := ⟨gr, 0, none⟩) (by simp; omega); have k1 := hb1.cell (p := ⟨gr, 1, none⟩) (by simp; omega)))
          all_goals go_wp2
          all_goals go_meet
          · exact ⟨rfl, rfl, TokAt.late (below_undrew hb1) _⟩
          · have hq := below_undrew2 hb1
            exact ⟨rfl, rfl, TokAt.early hq rfl hT0 _ _ _ _⟩
        case rest =>
          obtain ⟨rfl, rfl, tb, rfl, hT, hBx, htb⟩ := hcut
          have hGc := HG.out.below hBx HG.out.lt
          have hRc := HR.out.below hBx HR.out.lt
          have hAc := HA.out.keep hBx
          obtain ⟨x0, x1, x2, f0, f1, f2⟩ := blk3 hRc
          obtain ⟨z0, z1, z2, z3⟩ := blk4 hT
          obtain ⟨g0, g1, g2, g3, g4, g5⟩ := blk3 hGc
          have htR : tb ≠ w.heap.size := by omega
          have htR2 := htR.symm
          have htg : tb ≠ gr := by omega
          have htg2 := htg.symm
          have hKc : Kept (fun i => i = gr) w wc := HK.out.trans (Kept.of_below hBx)
          have hszc : w.heap.size + 1 ≤ wc.heap.size := Nat.le_trans hsz hBx.size
          have HKC := Lib.hid hKc
          have HRC := Lib.hid hRc
          have HGC := Lib.hid hGc
          have HAC := Lib.hid hAc
          clear hBx hT hRc hGc hAc hKc
          go_wp2
          have hb3 := (HRC.out.far (p := ⟨gr, 1, none⟩) hgR (.int .i64 q2)).set3 (.int .i8 3) (.string ⟨#[]⟩) (.slice A cs.length cap)
          have hg3 := (((HGC.out.set_ 1 (.int .i64 q2)).far (p := ⟨w.heap.size, 0, none⟩) hgR2 (.int .i8 3)).far (p := ⟨w.heap.size, 1, none⟩) hgR2 (.string ⟨#[]⟩)).far (p := ⟨w.heap.size, 2, none⟩) hgR2 (.slice A cs.length cap)
          obtain ⟨y0, y1, y2, _⟩ := blk3 hb3
          have hkw := ((((Kept.refl (fun i => i ≤ w.heap.size) wc).setCell (p := ⟨gr, 1, none⟩) (.inl (Nat.le_of_lt hgl)) (.int .i64 q2)).setCell (p := ⟨w.heap.size, 0, none⟩) (.inl (Nat.le_refl _)) (.int .i8 3)).setCell (p := ⟨w.heap.size, 1, none⟩) (.inl (Nat.le_refl _)) (.string ⟨#[]⟩)).setCell (p := ⟨w.heap.size, 2, none⟩) (.inl (Nat.le_refl _)) (.slice A cs.length cap)
          have hk4 := (((HKC.out.setCell (p := ⟨gr, 1, none⟩) (.inl rfl) (.int .i64 q2)).setCell (p := ⟨w.heap.size, 0, none⟩) (.inr (Nat.le_refl _)) (.int .i8 3)).setCell (p := ⟨w.heap.size, 1, none⟩) (.inr (Nat.le_refl _)) (.string ⟨#[]⟩)).setCell (p := ⟨w.heap.size, 2, none⟩) (.inr (Nat.le_refl _)) (.slice A cs.length cap)
          refine bodyPost_ret (v := .agg #[.int .i8 3, .string ⟨#[]⟩, .slice A cs.length cap]) ?_ rfl ⟨?_, hk4⟩
          · simp [results, Tryz.results78, go_sem, y0, y1, y2]
          · rw [← HL.out]
            refine ⟨⟨_, ?_, rfl⟩, hg3⟩
            exact ((HAC.out.lies (by omega)).kept hkw (fun b _ h1 h2 => by omega)).mono (fun b _ h1 => by omega)
      | none =>
        rw [hc] at hlf
        obtain ⟨k, t, a1, b1, okk, c, hnx, hcase⟩ := next_any s hs q hq hc
        have hRd := fun w' hB => HI.out m (by omega) q q w' gr hB (startI_nat s q hq) hq (by omega)
        have HN := Lib.hid hnx
        clear hnx hc ht hn h0 hp0 HI
        cases hrd : readF (byts s) m q with
        | err n2 e2 =>
          rw [hrd] at hlf
          have hE : Hid (∀ w', Blk w' gr 108 #[.string s, .int .i64 q, .int .i64 0] → Calls Tryz.prog 78 #[.pointer (some ⟨gr, 0, none⟩)] w' fun e w2 => (e = .returned (.agg #[.int .i8 0, .string ⟨#[]⟩, .slice none 0 0]) ∧ Blk w2 gr 108 #[.string s, .int .i64 n2, .int .i64 e2]) ∧ Kept (fun i => i = gr) w' w2) := Lib.hid fun w' hB => (hRd w' hB).mono (by rw [hrd]; exact fun e w' h => h)
          have he2n : ((e2 : Int) != 0) = true := bne_iff_ne.2 (by rcases (rd_err (byts s) m).1 q n2 e2 (by rw [byts_len]; exact hq) (by rw [byts_len]; omega) hrd with h | h <;> omega)
          have HL := Lib.hid hlf
          clear hRd hrd hlf
          rcases hcase with ⟨rfl, rfl⟩ | ⟨rfl, rfl⟩ | ⟨rfl, rfl, bk⟩
          · go_upto_region 19 with fail
            go_cut [6, 7, 8] from 73 to 85 (fun p okv ev wx => okv = .bool false ∧ ev = .int .i64 20 ∧ TokAt wr wx #[.int .i8 k, .string t, .int .i64 a1, .int .i64 b1] p)
            case first =>
              go_region_held3 (fun w' => w'.cell? ⟨gr, 0, none⟩ = some (.string s) ∧ w'.cell? ⟨gr, 1, none⟩ = some (.int .i64 q)) (go_keep) (first | (go_at_call 91; refine (HN.out _).mono ?_; rintro e w1 ⟨rfl, hb1⟩; have e3 : gr ≠ w1.heap.size := Nat.ne_of_lt (Nat.lt_of_lt_of_le (by simp; omega) hb1.size); have e4 := e3.symm; have k0 := hb1.cell (p := ⟨gr, 0, none⟩) (by simp; omega); have k1 := hb1.cell (p := ⟨gr, 1, none⟩) (by simp; omega); have hT0 : Blk w1 wr.heap.size 118 #[.int .i8 0, .string ⟨#[]⟩, .int .i64 0, .int .i64 0] := (hb1.block _ (by simp)).trans (Blk.new_at rfl _ _); obtain ⟨c0, c1, c2, c3⟩ := blk4 hT0; have c4 := hT0.frozen 0; have c5 := hT0.frozen 1; have c6 := hT0.frozen 2; have c7 := hT0.frozen 3) | (go_at_call 91; refine (HN.out _).mono ?_; rintro e w1 ⟨rfl, hb1⟩; have e3 : gr ≠ w1.heap.size := Nat.ne_of_lt (Nat.lt_of_lt_of_le (by simp; omega) hb1.size); have e4 := e3.symm; have k0 := hb1.cell (p := ⟨gr, 0, none⟩) (by simp; omega); have k1 := hb1.cell (p := ⟨gr, 1, none⟩) (by simp; omega)))
              all_goals go_wp2
              all_goals go_meet
              · exact ⟨rfl, rfl, TokAt.late (below_undrew hb1) _⟩
              · have hq := below_undrew2 hb1
                exact ⟨rfl, rfl, TokAt.early hq rfl hT0 _ _ _ _⟩
            case rest =>
                obtain ⟨rfl, rfl, tb, rfl, hT, hBx, htb⟩ := hcut
                have hGc := HG.out.below hBx HG.out.lt
                have hRc := HR.out.below hBx HR.out.lt
                have hAc := HA.out.keep hBx
                obtain ⟨x0, x1, x2, f0, f1, f2⟩ := blk3 hRc
                obtain ⟨z0, z1, z2, z3⟩ := blk4 hT
                obtain ⟨g0, g1, g2, g3, g4, g5⟩ := blk3 hGc
                have htR : tb ≠ w.heap.size := by omega
                have htR2 := htR.symm
                have htg : tb ≠ gr := by omega
                have htg2 := htg.symm
                have hKc : Kept (fun i => i = gr) w wc := HK.out.trans (Kept.of_below hBx)
                have hszc : w.heap.size + 1 ≤ wc.heap.size := Nat.le_trans hsz hBx.size
                have HKC := Lib.hid hKc
                have HRC := Lib.hid hRc
                have HGC := Lib.hid hGc
                have HAC := Lib.hid hAc
                clear hBx hT hRc hGc hAc hKc
                go_wp2_with (go_at_call 78; refine (hE.out _ HGC.out).mono ?_; rintro e w4 ⟨⟨rfl, hG4⟩, hk4⟩; have hG5 := hG4.alloc (.cells #[.int .i8 0, .string ⟨#[]⟩, .slice none 0 0] 28); have hR5 := (HRC.out.kept hk4 hgR).alloc (.cells #[.int .i8 0, .string ⟨#[]⟩, .slice none 0 0] 28); obtain ⟨u0, u1, u2, _⟩ := blk3 hG5; obtain ⟨v0, v1, v2, f0, f1, f2⟩ := blk3 hR5)
                have hb3 := hR5.set3 (.int .i8 0) (.string ⟨#[]⟩) (.slice none 0 0)
                have hg3 := ((hG5.far (p := ⟨w.heap.size, 0, none⟩) hgR2 (.int .i8 0)).far (p := ⟨w.heap.size, 1, none⟩) hgR2 (.string ⟨#[]⟩)).far (p := ⟨w.heap.size, 2, none⟩) hgR2 (.slice none 0 0)
                obtain ⟨y0, y1, y2, _⟩ := blk3 hb3
                have hk5 := ((((HKC.out.trans hk4).alloc (.cells #[.int .i8 0, .string ⟨#[]⟩, .slice none 0 0] 28)).setCell (p := ⟨w.heap.size, 0, none⟩) (.inr (Nat.le_refl _)) (.int .i8 0)).setCell (p := ⟨w.heap.size, 1, none⟩) (.inr (Nat.le_refl _)) (.string ⟨#[]⟩)).setCell (p := ⟨w.heap.size, 2, none⟩) (.inr (Nat.le_refl _)) (.slice none 0 0)
                refine bodyPost_ret (v := .agg #[.int .i8 0, .string ⟨#[]⟩, .slice none 0 0]) ?_ rfl ⟨?_, hk5⟩
                · simp [results, Tryz.results78, go_sem, y0, y1, y2]
                · rw [← HL.out]
                  exact ⟨rfl, hg3⟩
          · go_upto_region 19 with fail
            go_cut [6, 7, 8] from 73 to 85 (fun p okv ev wx => okv = .bool false ∧ ev = .int .i64 0 ∧ TokAt wr wx #[.int .i8 k, .string t, .int .i64 a1, .int .i64 b1] p)
            case first =>
              go_region_held3 (fun w' => w'.cell? ⟨gr, 0, none⟩ = some (.string s) ∧ w'.cell? ⟨gr, 1, none⟩ = some (.int .i64 q)) (go_keep) (first | (go_at_call 91; refine (HN.out _).mono ?_; rintro e w1 ⟨rfl, hb1⟩; have e3 : gr ≠ w1.heap.size := Nat.ne_of_lt (Nat.lt_of_lt_of_le (by simp; omega) hb1.size); have e4 := e3.symm; have k0 := hb1.cell (p := ⟨gr, 0, none⟩) (by simp; omega); have k1 := hb1.cell (p := ⟨gr, 1, none⟩) (by simp; omega); have hT0 : Blk w1 wr.heap.size 118 #[.int .i8 0, .string ⟨#[]⟩, .int .i64 0, .int .i64 0] := (hb1.block _ (by simp)).trans (Blk.new_at rfl _ _); obtain ⟨c0, c1, c2, c3⟩ := blk4 hT0; have c4 := hT0.frozen 0; have c5 := hT0.frozen 1; have c6 := hT0.frozen 2; have c7 := hT0.frozen 3) | (go_at_call 91; refine (HN.out _).mono ?_; rintro e w1 ⟨rfl, hb1⟩; have e3 : gr ≠ w1.heap.size := Nat.ne_of_lt (Nat.lt_of_lt_of_le (by simp; omega) hb1.size); have e4 := e3.symm; have k0 := hb1.cell (p := ⟨gr, 0, none⟩) (by simp; omega); have k1 := hb1.cell (p := ⟨gr, 1, none⟩) (by simp; omega)))
              all_goals go_wp2
              all_goals go_meet
              · exact ⟨rfl, rfl, TokAt.late (below_undrew hb1) _⟩
              · have hq := below_undrew2 hb1
                exact ⟨rfl, rfl, TokAt.early hq rfl hT0 _ _ _ _⟩
            case rest =>
                obtain ⟨rfl, rfl, tb, rfl, hT, hBx, htb⟩ := hcut
                have hGc := HG.out.below hBx HG.out.lt
                have hRc := HR.out.below hBx HR.out.lt
                have hAc := HA.out.keep hBx
                obtain ⟨x0, x1, x2, f0, f1, f2⟩ := blk3 hRc
                obtain ⟨z0, z1, z2, z3⟩ := blk4 hT
                obtain ⟨g0, g1, g2, g3, g4, g5⟩ := blk3 hGc
                have htR : tb ≠ w.heap.size := by omega
                have htR2 := htR.symm
                have htg : tb ≠ gr := by omega
                have htg2 := htg.symm
                have hKc : Kept (fun i => i = gr) w wc := HK.out.trans (Kept.of_below hBx)
                have hszc : w.heap.size + 1 ≤ wc.heap.size := Nat.le_trans hsz hBx.size
                have HKC := Lib.hid hKc
                have HRC := Lib.hid hRc
                have HGC := Lib.hid hGc
                have HAC := Lib.hid hAc
                clear hBx hT hRc hGc hAc hKc
                go_wp2_with (go_at_call 78; refine (hE.out _ HGC.out).mono ?_; rintro e w4 ⟨⟨rfl, hG4⟩, hk4⟩; have hG5 := hG4.alloc (.cells #[.int .i8 0, .string ⟨#[]⟩, .slice none 0 0] 28); have hR5 := (HRC.out.kept hk4 hgR).alloc (.cells #[.int .i8 0, .string ⟨#[]⟩, .slice none 0 0] 28); obtain ⟨u0, u1, u2, _⟩ := blk3 hG5; obtain ⟨v0, v1, v2, f0, f1, f2⟩ := blk3 hR5)
                have hb3 := hR5.set3 (.int .i8 0) (.string ⟨#[]⟩) (.slice none 0 0)
                have hg3 := ((hG5.far (p := ⟨w.heap.size, 0, none⟩) hgR2 (.int .i8 0)).far (p := ⟨w.heap.size, 1, none⟩) hgR2 (.string ⟨#[]⟩)).far (p := ⟨w.heap.size, 2, none⟩) hgR2 (.slice none 0 0)
                obtain ⟨y0, y1, y2, _⟩ := blk3 hb3
                have hk5 := ((((HKC.out.trans hk4).alloc (.cells #[.int .i8 0, .string ⟨#[]⟩, .slice none 0 0] 28)).setCell (p := ⟨w.heap.size, 0, none⟩) (.inr (Nat.le_refl _)) (.int .i8 0)).setCell (p := ⟨w.heap.size, 1, none⟩) (.inr (Nat.le_refl _)) (.string ⟨#[]⟩)).setCell (p := ⟨w.heap.size, 2, none⟩) (.inr (Nat.le_refl _)) (.slice none 0 0)
                refine bodyPost_ret (v := .agg #[.int .i8 0, .string ⟨#[]⟩, .slice none 0 0]) ?_ rfl ⟨?_, hk5⟩
                · simp [results, Tryz.results78, go_sem, y0, y1, y2]
                · rw [← HL.out]
                  exact ⟨rfl, hg3⟩
          · go_upto_region 19 with fail
            go_cut [6, 7, 8] from 73 to 85 (fun p okv ev wx => okv = .bool true ∧ ev = .int .i64 0 ∧ TokAt wr wx #[.int .i8 k, .string t, .int .i64 a1, .int .i64 b1] p)
            case first =>
              go_region_held3 (fun w' => w'.cell? ⟨gr, 0, none⟩ = some (.string s) ∧ w'.cell? ⟨gr, 1, none⟩ = some (.int .i64 q)) (go_keep) (first | (go_at_call 91; refine (HN.out _).mono ?_; rintro e w1 ⟨rfl, hb1⟩; have e3 : gr ≠ w1.heap.size := Nat.ne_of_lt (Nat.lt_of_lt_of_le (by simp; omega) hb1.size); have e4 := e3.symm; have k0 := hb1.cell (p := ⟨gr, 0, none⟩) (by simp; omega); have k1 := hb1.cell (p := ⟨gr, 1, none⟩) (by simp; omega); have hT0 : Blk w1 wr.heap.size 118 #[.int .i8 0, .string ⟨#[]⟩, .int .i64 0, .int .i64 0] := (hb1.block _ (by simp)).trans (Blk.new_at rfl _ _); obtain ⟨c0, c1, c2, c3⟩ := blk4 hT0; have c4 := hT0.frozen 0; have c5 := hT0.frozen 1; have c6 := hT0.frozen 2; have c7 := hT0.frozen 3) | (go_at_call 91; refine (HN.out _).mono ?_; rintro e w1 ⟨rfl, hb1⟩; have e3 : gr ≠ w1.heap.size := Nat.ne_of_lt (Nat.lt_of_lt_of_le (by simp; omega) hb1.size); have e4 := e3.symm; have k0 := hb1.cell (p := ⟨gr, 0, none⟩) (by simp; omega); have k1 := hb1.cell (p := ⟨gr, 1, none⟩) (by simp; omega)))
              all_goals go_wp2
              all_goals go_meet
              · exact ⟨rfl, rfl, TokAt.late (below_undrew hb1) _⟩
              · have hq := below_undrew2 hb1
                exact ⟨rfl, rfl, TokAt.early hq rfl hT0 _ _ _ _⟩
            case rest =>
                obtain ⟨rfl, rfl, tb, rfl, hT, hBx, htb⟩ := hcut
                have hGc := HG.out.below hBx HG.out.lt
                have hRc := HR.out.below hBx HR.out.lt
                have hAc := HA.out.keep hBx
                obtain ⟨x0, x1, x2, f0, f1, f2⟩ := blk3 hRc
                obtain ⟨z0, z1, z2, z3⟩ := blk4 hT
                obtain ⟨g0, g1, g2, g3, g4, g5⟩ := blk3 hGc
                have htR : tb ≠ w.heap.size := by omega
                have htR2 := htR.symm
                have htg : tb ≠ gr := by omega
                have htg2 := htg.symm
                have hKc : Kept (fun i => i = gr) w wc := HK.out.trans (Kept.of_below hBx)
                have hszc : w.heap.size + 1 ≤ wc.heap.size := Nat.le_trans hsz hBx.size
                have HKC := Lib.hid hKc
                have HRC := Lib.hid hRc
                have HGC := Lib.hid hGc
                have HAC := Lib.hid hAc
                clear hBx hT hRc hGc hAc hKc
                go_wp2_with (go_at_call 78; refine (hE.out _ HGC.out).mono ?_; rintro e w4 ⟨⟨rfl, hG4⟩, hk4⟩; have hG5 := hG4.alloc (.cells #[.int .i8 0, .string ⟨#[]⟩, .slice none 0 0] 28); have hR5 := (HRC.out.kept hk4 hgR).alloc (.cells #[.int .i8 0, .string ⟨#[]⟩, .slice none 0 0] 28); obtain ⟨u0, u1, u2, _⟩ := blk3 hG5; obtain ⟨v0, v1, v2, f0, f1, f2⟩ := blk3 hR5)
                have hb3 := hR5.set3 (.int .i8 0) (.string ⟨#[]⟩) (.slice none 0 0)
                have hg3 := ((hG5.far (p := ⟨w.heap.size, 0, none⟩) hgR2 (.int .i8 0)).far (p := ⟨w.heap.size, 1, none⟩) hgR2 (.string ⟨#[]⟩)).far (p := ⟨w.heap.size, 2, none⟩) hgR2 (.slice none 0 0)
                obtain ⟨y0, y1, y2, _⟩ := blk3 hb3
                have hk5 := ((((HKC.out.trans hk4).alloc (.cells #[.int .i8 0, .string ⟨#[]⟩, .slice none 0 0] 28)).setCell (p := ⟨w.heap.size, 0, none⟩) (.inr (Nat.le_refl _)) (.int .i8 0)).setCell (p := ⟨w.heap.size, 1, none⟩) (.inr (Nat.le_refl _)) (.string ⟨#[]⟩)).setCell (p := ⟨w.heap.size, 2, none⟩) (.inr (Nat.le_refl _)) (.slice none 0 0)
                refine bodyPost_ret (v := .agg #[.int .i8 0, .string ⟨#[]⟩, .slice none 0 0]) ?_ rfl ⟨?_, hk5⟩
                · simp [results, Tryz.results78, go_sem, y0, y1, y2]
                · rw [← HL.out]
                  exact ⟨rfl, hg3⟩
        | ok x q3 =>
          rw [hrd] at hlf
          have hE : Hid (∀ w', Blk w' gr 108 #[.string s, .int .i64 q, .int .i64 0] → Calls Tryz.prog 78 #[.pointer (some ⟨gr, 0, none⟩)] w' fun e w2 => ((∃ y : C3, Lies (fun b => w'.heap.size ≤ b) w2 y.val x ∧ e = .returned (.agg #[.int .i8 y.k, .string y.t, .slice y.A y.n y.c])) ∧ Blk w2 gr 108 #[.string s, .int .i64 q3, .int .i64 0]) ∧ Kept (fun i => i = gr) w' w2) := Lib.hid fun w' hB => (hRd w' hB).mono (by
            rw [hrd]
            rintro e w2 ⟨⟨⟨v, hl, rfl⟩, hg2⟩, hk2⟩
            obtain ⟨y, rfl⟩ := hl.c3
            exact ⟨⟨⟨y, hl, rfl⟩, hg2⟩, hk2⟩)
          have hq3 := (rd_ok (byts s) m).1 q x q3 (by rw [byts_len]; exact hq) hrd
          rw [byts_len] at hq3
          have HL := Lib.hid hlf
          clear hRd hrd hlf
          have hlen := HA.out.len
          have hcs : (cs.length + 1) * 48 ≤ 140737488355328 := by omega
          clear hlen
          obtain ⟨i0, hi, hz0, hz1, hz2⟩ := info_parts sexp_info
          rcases hcase with ⟨rfl, rfl⟩ | ⟨rfl, rfl⟩ | ⟨rfl, rfl, bk⟩
          · go_upto_region 19 with fail
            go_cut [6, 7, 8] from 73 to 85 (fun p okv ev wx => okv = .bool false ∧ ev = .int .i64 20 ∧ TokAt wr wx #[.int .i8 k, .string t, .int .i64 a1, .int .i64 b1] p)
            case first =>
              go_region_held3 (fun w' => w'.cell? ⟨gr, 0, none⟩ = some (.string s) ∧ w'.cell? ⟨gr, 1, none⟩ = some (.int .i64 q)) (go_keep) (first | (go_at_call 91; refine (HN.out _).mono ?_; rintro e w1 ⟨rfl, hb1⟩; have e3 : gr ≠ w1.heap.size := Nat.ne_of_lt (Nat.lt_of_lt_of_le (by simp; omega) hb1.size); have e4 := e3.symm; have k0 := hb1.cell (p := ⟨gr, 0, none⟩) (by simp; omega); have k1 := hb1.cell (p := ⟨gr, 1, none⟩) (by simp; omega); have hT0 : Blk w1 wr.heap.size 118 #[.int .i8 0, .string ⟨#[]⟩, .int .i64 0, .int .i64 0] := (hb1.block _ (by simp)).trans (Blk.new_at rfl _ _); obtain ⟨c0, c1, c2, c3⟩ := blk4 hT0; have c4 := hT0.frozen 0; have c5 := hT0.frozen 1; have c6 := hT0.frozen 2; have c7 := hT0.frozen 3) | (go_at_call 91; refine (HN.out _).mono ?_; rintro e w1 ⟨rfl, hb1⟩; have e3 : gr ≠ w1.heap.size := Nat.ne_of_lt (Nat.lt_of_lt_of_le (by simp; omega) hb1.size); have e4 := e3.symm; have k0 := hb1.cell (p := ⟨gr, 0, none⟩) (by simp; omega); have k1 := hb1.cell (p := ⟨gr, 1, none⟩) (by simp; omega)))
              all_goals go_wp2
              all_goals go_meet
              · exact ⟨rfl, rfl, TokAt.late (below_undrew hb1) _⟩
              · have hq := below_undrew2 hb1
                exact ⟨rfl, rfl, TokAt.early hq rfl hT0 _ _ _ _⟩
            case rest =>
                obtain ⟨rfl, rfl, tb, rfl, hT, hBx, htb⟩ := hcut
                have hGc := HG.out.below hBx HG.out.lt
                have hRc := HR.out.below hBx HR.out.lt
                have hAc := HA.out.keep hBx
                obtain ⟨x0, x1, x2, f0, f1, f2⟩ := blk3 hRc
                obtain ⟨z0, z1, z2, z3⟩ := blk4 hT
                obtain ⟨g0, g1, g2, g3, g4, g5⟩ := blk3 hGc
                have htR : tb ≠ w.heap.size := by omega
                have htR2 := htR.symm
                have htg : tb ≠ gr := by omega
                have htg2 := htg.symm
                have hKc : Kept (fun i => i = gr) w wc := HK.out.trans (Kept.of_below hBx)
                have hszc : w.heap.size + 1 ≤ wc.heap.size := Nat.le_trans hsz hBx.size
                have HKC := Lib.hid hKc
                have HRC := Lib.hid hRc
                have HGC := Lib.hid hGc
                have HAC := Lib.hid hAc
                clear hBx hT hRc hGc hAc hKc
                have hszR : w.heap.size + 1 ≤ wc.heap.size := hszc
                go_wp2_with (first
                  | (go_at_call 78; refine (hE.out _ HGC.out).mono ?_; rintro e w4 ⟨⟨⟨y, hly, rfl⟩, hG4⟩, hk4⟩; have hs4 := hk4.size; have hG5 := hG4.alloc (.cells #[.int .i8 y.k, .string y.t, .slice y.A y.n y.c] 28); have hR5 := (HRC.out.kept hk4 hgR).alloc (.cells #[.int .i8 y.k, .string y.t, .slice y.A y.n y.c] 28); obtain ⟨u0, u1, u2, _⟩ := blk3 hG5; obtain ⟨v0, v1, v2, f0, f1, f2⟩ := blk3 hR5; have hA5 : Acc (w4.alloc (.cells #[.int .i8 y.k, .string y.t, .slice y.A y.n y.c] 28)) (w.heap.size + 1) (.slice A cs.length cap) cs xs := HAC.out.kept (hk4.alloc (.cells #[.int .i8 y.k, .string y.t, .slice y.A y.n y.c] 28)) (fun b h1 _ h2 => by omega); have HLY := Lib.hid hly; clear hly)
                  | (at_builtin; have z1 := hA5.own.alloc (.cells #[.int .i8 y.k, .string y.t, .slice y.A y.n y.c] 28); have z2 : Blk ((w4.alloc (.cells #[.int .i8 y.k, .string y.t, .slice y.A y.n y.c] 28)).alloc (.cells #[.int .i8 y.k, .string y.t, .slice y.A y.n y.c] 28)) (w4.heap.size + 1) 28 #[.int .i8 y.k, .string y.t, .slice y.A y.n y.c] := Blk.new_at (by simp) _ _; have z4 : ∀ u ∈ (#[Value.int .i8 y.k, .string y.t, .slice y.A y.n y.c] : Array Value).toList, u.oneCell' = true := (by simp [Value.oneCell']); have z3 : w.heap.size + 1 ≤ w4.heap.size + 1 := (by omega); refine list_push _ rfl (.tmp 110) (.tmp 112) 26 rfl (w.heap.size + 1) 28 i0 zeroX 3 48 Tryz.underlying26 hi hz0 hz1 hz2 rfl (by decide) (.slice A cs.length cap) cs.length (cs.flatMap C3.cells) rfl z1 (w4.heap.size + 1) #[.int .i8 y.k, .string y.t, .slice y.A y.n y.c] rfl z2 rfl z4 hcs (by decide) z3 ?_; intro g cap2 w5 hown hgrow hat hlt5; have hX5 := (hR5.alloc (.cells #[.int .i8 y.k, .string y.t, .slice y.A y.n y.c] 28)).grown hgrow (fun h => by have := (hA5.own.lt w.heap.size h.symm).1; omega); obtain ⟨v0, v1, v2, f0, f1, f2⟩ := blk3 hX5))
                go_roundw
                case rel =>
                  have hbb : Below (w4.alloc (.cells #[.int .i8 y.k, .string y.t, .slice y.A y.n y.c] 28)).heap.size (w4.alloc (.cells #[.int .i8 y.k, .string y.t, .slice y.A y.n y.c] 28)) ((w4.alloc (.cells #[.int .i8 y.k, .string y.t, .slice y.A y.n y.c] 28)).alloc (.cells #[.int .i8 y.k, .string y.t, .slice y.A y.n y.c] 28)) := (Below.refl _ _).alloc (Nat.le_refl _) _
                  have hb44 : Below w4.heap.size w4 ((w4.alloc (.cells #[.int .i8 y.k, .string y.t, .slice y.A y.n y.c] 28)).alloc (.cells #[.int .i8 y.k, .string y.t, .slice y.A y.n y.c] 28)) := ((Below.refl _ w4).alloc (Nat.le_refl _) _).alloc (by simp) _
                  have hAc := (HAC.out.child hszR HLY.out).keep hb44
                  have hA6 := ((hA5.keep hbb).push (y := y) hAc hown hgrow hat).kept (Kept.set1 w5 w.heap.size 2 (.slice (some ⟨g, 0, none⟩) (cs.length + 1) cap2)) (fun b h1 _ h2 => by omega)
                  have hk6 : Kept (fun i => w.heap.size ≤ i) w4 (w5.setCell ⟨w.heap.size, 2, none⟩ (.slice (some ⟨g, 0, none⟩) (cs.length + 1) cap2)) := ((((Kept.refl (fun i => w.heap.size ≤ i) w4).alloc (.cells #[.int .i8 y.k, .string y.t, .slice y.A y.n y.c] 28)).alloc (.cells #[.int .i8 y.k, .string y.t, .slice y.A y.n y.c] 28)).grown hgrow (fun i hi => .inl (Nat.le_of_succ_le (hA5.own.lt i hi).1))).setCell (p := ⟨w.heap.size, 2, none⟩) (.inl (Nat.le_refl _)) _
                  refine ⟨q3, m, cs ++ [y], xs ++ [x], _, hq3.2, by omega, by omega, HL.out, ?_, hG4.kept hk6 (by omega), hX5.set_ 2 _, hA6, (HKC.out.trans hk4).then_ hk6 (fun i hi h => by omega), Nat.le_trans hszR (Nat.le_trans hs4 hk6.size)⟩
                  rw [List.length_append, List.length_singleton]; omega
                case measure =>
                  have hk6 : Kept (fun i => w.heap.size ≤ i) w4 (w5.setCell ⟨w.heap.size, 2, none⟩ (.slice (some ⟨g, 0, none⟩) (cs.length + 1) cap2)) := ((((Kept.refl (fun i => w.heap.size ≤ i) w4).alloc (.cells #[.int .i8 y.k, .string y.t, .slice y.A y.n y.c] 28)).alloc (.cells #[.int .i8 y.k, .string y.t, .slice y.A y.n y.c] 28)).grown hgrow (fun i hi => .inl (Nat.le_of_succ_le (hA5.own.lt i hi).1))).setCell (p := ⟨w.heap.size, 2, none⟩) (.inl (Nat.le_refl _)) _
                  have m1 : (w5.setCell ⟨w.heap.size, 2, none⟩ (.slice (some ⟨g, 0, none⟩) (cs.length + 1) cap2)).cell? ⟨gr, 1, none⟩ = some (.int .i64 q3) := (hG4.kept hk6 (by omega)).cell 1
                  rw [m1, r1]
                  show ((s.size : Int) - q3).toNat < ((s.size : Int) - q).toNat
                  omega
          · go_upto_region 19 with fail
            go_cut [6, 7, 8] from 73 to 85 (fun p okv ev wx => okv = .bool false ∧ ev = .int .i64 0 ∧ TokAt wr wx #[.int .i8 k, .string t, .int .i64 a1, .int .i64 b1] p)
            case first =>
              go_region_held3 (fun w' => w'.cell? ⟨gr, 0, none⟩ = some (.string s) ∧ w'.cell? ⟨gr, 1, none⟩ = some (.int .i64 q)) (go_keep) (first | (go_at_call 91; refine (HN.out _).mono ?_; rintro e w1 ⟨rfl, hb1⟩; have e3 : gr ≠ w1.heap.size := Nat.ne_of_lt (Nat.lt_of_lt_of_le (by simp; omega) hb1.size); have e4 := e3.symm; have k0 := hb1.cell (p := ⟨gr, 0, none⟩) (by simp; omega); have k1 := hb1.cell (p := ⟨gr, 1, none⟩) (by simp; omega); have hT0 : Blk w1 wr.heap.size 118 #[.int .i8 0, .string ⟨#[]⟩, .int .i64 0, .int .i64 0] := (hb1.block _ (by simp)).trans (Blk.new_at rfl _ _); obtain ⟨c0, c1, c2, c3⟩ := blk4 hT0; have c4 := hT0.frozen 0; have c5 := hT0.frozen 1; have c6 := hT0.frozen 2; have c7 := hT0.frozen 3) | (go_at_call 91; refine (HN.out _).mono ?_; rintro e w1 ⟨rfl, hb1⟩; have e3 : gr ≠ w1.heap.size := Nat.ne_of_lt (Nat.lt_of_lt_of_le (by simp; omega) hb1.size); have e4 := e3.symm; have k0 := hb1.cell (p := ⟨gr, 0, none⟩) (by simp; omega); have k1 := hb1.cell (p := ⟨gr, 1, none⟩) (by simp; omega)))
              all_goals go_wp2
              all_goals go_meet
              · exact ⟨rfl, rfl, TokAt.late (below_undrew hb1) _⟩
              · have hq := below_undrew2 hb1
                exact ⟨rfl, rfl, TokAt.early hq rfl hT0 _ _ _ _⟩
            case rest =>
                obtain ⟨rfl, rfl, tb, rfl, hT, hBx, htb⟩ := hcut
                have hGc := HG.out.below hBx HG.out.lt
                have hRc := HR.out.below hBx HR.out.lt
                have hAc := HA.out.keep hBx
                obtain ⟨x0, x1, x2, f0, f1, f2⟩ := blk3 hRc
                obtain ⟨z0, z1, z2, z3⟩ := blk4 hT
                obtain ⟨g0, g1, g2, g3, g4, g5⟩ := blk3 hGc
                have htR : tb ≠ w.heap.size := by omega
                have htR2 := htR.symm
                have htg : tb ≠ gr := by omega
                have htg2 := htg.symm
                have hKc : Kept (fun i => i = gr) w wc := HK.out.trans (Kept.of_below hBx)
                have hszc : w.heap.size + 1 ≤ wc.heap.size := Nat.le_trans hsz hBx.size
                have HKC := Lib.hid hKc
                have HRC := Lib.hid hRc
                have HGC := Lib.hid hGc
                have HAC := Lib.hid hAc
                clear hBx hT hRc hGc hAc hKc
                have hszR : w.heap.size + 1 ≤ wc.heap.size := hszc
                go_wp2_with (first
                  | (go_at_call 78; refine (hE.out _ HGC.out).mono ?_; rintro e w4 ⟨⟨⟨y, hly, rfl⟩, hG4⟩, hk4⟩; have hs4 := hk4.size; have hG5 := hG4.alloc (.cells #[.int .i8 y.k, .string y.t, .slice y.A y.n y.c] 28); have hR5 := (HRC.out.kept hk4 hgR).alloc (.cells #[.int .i8 y.k, .string y.t, .slice y.A y.n y.c] 28); obtain ⟨u0, u1, u2, _⟩ := blk3 hG5; obtain ⟨v0, v1, v2, f0, f1, f2⟩ := blk3 hR5; have hA5 : Acc (w4.alloc (.cells #[.int .i8 y.k, .string y.t, .slice y.A y.n y.c] 28)) (w.heap.size + 1) (.slice A cs.length cap) cs xs := HAC.out.kept (hk4.alloc (.cells #[.int .i8 y.k, .string y.t, .slice y.A y.n y.c] 28)) (fun b h1 _ h2 => by omega); have HLY := Lib.hid hly; clear hly)
                  | (at_builtin; have z1 := hA5.own.alloc (.cells #[.int .i8 y.k, .string y.t, .slice y.A y.n y.c] 28); have z2 : Blk ((w4.alloc (.cells #[.int .i8 y.k, .string y.t, .slice y.A y.n y.c] 28)).alloc (.cells #[.int .i8 y.k, .string y.t, .slice y.A y.n y.c] 28)) (w4.heap.size + 1) 28 #[.int .i8 y.k, .string y.t, .slice y.A y.n y.c] := Blk.new_at (by simp) _ _; have z4 : ∀ u ∈ (#[Value.int .i8 y.k, .string y.t, .slice y.A y.n y.c] : Array Value).toList, u.oneCell' = true := (by simp [Value.oneCell']); have z3 : w.heap.size + 1 ≤ w4.heap.size + 1 := (by omega); refine list_push _ rfl (.tmp 110) (.tmp 112) 26 rfl (w.heap.size + 1) 28 i0 zeroX 3 48 Tryz.underlying26 hi hz0 hz1 hz2 rfl (by decide) (.slice A cs.length cap) cs.length (cs.flatMap C3.cells) rfl z1 (w4.heap.size + 1) #[.int .i8 y.k, .string y.t, .slice y.A y.n y.c] rfl z2 rfl z4 hcs (by decide) z3 ?_; intro g cap2 w5 hown hgrow hat hlt5; have hX5 := (hR5.alloc (.cells #[.int .i8 y.k, .string y.t, .slice y.A y.n y.c] 28)).grown hgrow (fun h => by have := (hA5.own.lt w.heap.size h.symm).1; omega); obtain ⟨v0, v1, v2, f0, f1, f2⟩ := blk3 hX5))
                go_roundw
                case rel =>
                  have hbb : Below (w4.alloc (.cells #[.int .i8 y.k, .string y.t, .slice y.A y.n y.c] 28)).heap.size (w4.alloc (.cells #[.int .i8 y.k, .string y.t, .slice y.A y.n y.c] 28)) ((w4.alloc (.cells #[.int .i8 y.k, .string y.t, .slice y.A y.n y.c] 28)).alloc (.cells #[.int .i8 y.k, .string y.t, .slice y.A y.n y.c] 28)) := (Below.refl _ _).alloc (Nat.le_refl _) _
                  have hb44 : Below w4.heap.size w4 ((w4.alloc (.cells #[.int .i8 y.k, .string y.t, .slice y.A y.n y.c] 28)).alloc (.cells #[.int .i8 y.k, .string y.t, .slice y.A y.n y.c] 28)) := ((Below.refl _ w4).alloc (Nat.le_refl _) _).alloc (by simp) _
                  have hAc := (HAC.out.child hszR HLY.out).keep hb44
                  have hA6 := ((hA5.keep hbb).push (y := y) hAc hown hgrow hat).kept (Kept.set1 w5 w.heap.size 2 (.slice (some ⟨g, 0, none⟩) (cs.length + 1) cap2)) (fun b h1 _ h2 => by omega)
                  have hk6 : Kept (fun i => w.heap.size ≤ i) w4 (w5.setCell ⟨w.heap.size, 2, none⟩ (.slice (some ⟨g, 0, none⟩) (cs.length + 1) cap2)) := ((((Kept.refl (fun i => w.heap.size ≤ i) w4).alloc (.cells #[.int .i8 y.k, .string y.t, .slice y.A y.n y.c] 28)).alloc (.cells #[.int .i8 y.k, .string y.t, .slice y.A y.n y.c] 28)).grown hgrow (fun i hi => .inl (Nat.le_of_succ_le (hA5.own.lt i hi).1))).setCell (p := ⟨w.heap.size, 2, none⟩) (.inl (Nat.le_refl _)) _
                  refine ⟨q3, m, cs ++ [y], xs ++ [x], _, hq3.2, by omega, by omega, HL.out, ?_, hG4.kept hk6 (by omega), hX5.set_ 2 _, hA6, (HKC.out.trans hk4).then_ hk6 (fun i hi h => by omega), Nat.le_trans hszR (Nat.le_trans hs4 hk6.size)⟩
                  rw [List.length_append, List.length_singleton]; omega
                case measure =>
                  have hk6 : Kept (fun i => w.heap.size ≤ i) w4 (w5.setCell ⟨w.heap.size, 2, none⟩ (.slice (some ⟨g, 0, none⟩) (cs.length + 1) cap2)) := ((((Kept.refl (fun i => w.heap.size ≤ i) w4).alloc (.cells #[.int .i8 y.k, .string y.t, .slice y.A y.n y.c] 28)).alloc (.cells #[.int .i8 y.k, .string y.t, .slice y.A y.n y.c] 28)).grown hgrow (fun i hi => .inl (Nat.le_of_succ_le (hA5.own.lt i hi).1))).setCell (p := ⟨w.heap.size, 2, none⟩) (.inl (Nat.le_refl _)) _
                  have m1 : (w5.setCell ⟨w.heap.size, 2, none⟩ (.slice (some ⟨g, 0, none⟩) (cs.length + 1) cap2)).cell? ⟨gr, 1, none⟩ = some (.int .i64 q3) := (hG4.kept hk6 (by omega)).cell 1
                  rw [m1, r1]
                  show ((s.size : Int) - q3).toNat < ((s.size : Int) - q).toNat
                  omega
          · go_upto_region 19 with fail
            go_cut [6, 7, 8] from 73 to 85 (fun p okv ev wx => okv = .bool true ∧ ev = .int .i64 0 ∧ TokAt wr wx #[.int .i8 k, .string t, .int .i64 a1, .int .i64 b1] p)
            case first =>
              go_region_held3 (fun w' => w'.cell? ⟨gr, 0, none⟩ = some (.string s) ∧ w'.cell? ⟨gr, 1, none⟩ = some (.int .i64 q)) (go_keep) (first | (go_at_call 91; refine (HN.out _).mono ?_; rintro e w1 ⟨rfl, hb1⟩; have e3 : gr ≠ w1.heap.size := Nat.ne_of_lt (Nat.lt_of_lt_of_le (by simp; omega) hb1.size); have e4 := e3.symm; have k0 := hb1.cell (p := ⟨gr, 0, none⟩) (by simp; omega); have k1 := hb1.cell (p := ⟨gr, 1, none⟩) (by simp; omega); have hT0 : Blk w1 wr.heap.size 118 #[.int .i8 0, .string ⟨#[]⟩, .int .i64 0, .int .i64 0] := (hb1.block _ (by simp)).trans (Blk.new_at rfl _ _); obtain ⟨c0, c1, c2, c3⟩ := blk4 hT0; have c4 := hT0.frozen 0; have c5 := hT0.frozen 1; have c6 := hT0.frozen 2; have c7 := hT0.frozen 3) | (go_at_call 91; refine (HN.out _).mono ?_; rintro e w1 ⟨rfl, hb1⟩; have e3 : gr ≠ w1.heap.size := Nat.ne_of_lt (Nat.lt_of_lt_of_le (by simp; omega) hb1.size); have e4 := e3.symm; have k0 := hb1.cell (p := ⟨gr, 0, none⟩) (by simp; omega); have k1 := hb1.cell (p := ⟨gr, 1, none⟩) (by simp; omega)))
              all_goals go_wp2
              all_goals go_meet
              · exact ⟨rfl, rfl, TokAt.late (below_undrew hb1) _⟩
              · have hq := below_undrew2 hb1
                exact ⟨rfl, rfl, TokAt.early hq rfl hT0 _ _ _ _⟩
            case rest =>
                obtain ⟨rfl, rfl, tb, rfl, hT, hBx, htb⟩ := hcut
                have hGc := HG.out.below hBx HG.out.lt
                have hRc := HR.out.below hBx HR.out.lt
                have hAc := HA.out.keep hBx
                obtain ⟨x0, x1, x2, f0, f1, f2⟩ := blk3 hRc
                obtain ⟨z0, z1, z2, z3⟩ := blk4 hT
                obtain ⟨g0, g1, g2, g3, g4, g5⟩ := blk3 hGc
                have htR : tb ≠ w.heap.size := by omega
                have htR2 := htR.symm
                have htg : tb ≠ gr := by omega
                have htg2 := htg.symm
                have hKc : Kept (fun i => i = gr) w wc := HK.out.trans (Kept.of_below hBx)
                have hszc : w.heap.size + 1 ≤ wc.heap.size := Nat.le_trans hsz hBx.size
                have HKC := Lib.hid hKc
                have HRC := Lib.hid hRc
                have HGC := Lib.hid hGc
                have HAC := Lib.hid hAc
                clear hBx hT hRc hGc hAc hKc
                have hszR : w.heap.size + 1 ≤ wc.heap.size := hszc
                go_wp2_with (first
                  | (go_at_call 78; refine (hE.out _ HGC.out).mono ?_; rintro e w4 ⟨⟨⟨y, hly, rfl⟩, hG4⟩, hk4⟩; have hs4 := hk4.size; have hG5 := hG4.alloc (.cells #[.int .i8 y.k, .string y.t, .slice y.A y.n y.c] 28); have hR5 := (HRC.out.kept hk4 hgR).alloc (.cells #[.int .i8 y.k, .string y.t, .slice y.A y.n y.c] 28); obtain ⟨u0, u1, u2, _⟩ := blk3 hG5; obtain ⟨v0, v1, v2, f0, f1, f2⟩ := blk3 hR5; have hA5 : Acc (w4.alloc (.cells #[.int .i8 y.k, .string y.t, .slice y.A y.n y.c] 28)) (w.heap.size + 1) (.slice A cs.length cap) cs xs := HAC.out.kept (hk4.alloc (.cells #[.int .i8 y.k, .string y.t, .slice y.A y.n y.c] 28)) (fun b h1 _ h2 => by omega); have HLY := Lib.hid hly; clear hly)
                  | (at_builtin; have z1 := hA5.own.alloc (.cells #[.int .i8 y.k, .string y.t, .slice y.A y.n y.c] 28); have z2 : Blk ((w4.alloc (.cells #[.int .i8 y.k, .string y.t, .slice y.A y.n y.c] 28)).alloc (.cells #[.int .i8 y.k, .string y.t, .slice y.A y.n y.c] 28)) (w4.heap.size + 1) 28 #[.int .i8 y.k, .string y.t, .slice y.A y.n y.c] := Blk.new_at (by simp) _ _; have z4 : ∀ u ∈ (#[Value.int .i8 y.k, .string y.t, .slice y.A y.n y.c] : Array Value).toList, u.oneCell' = true := (by simp [Value.oneCell']); have z3 : w.heap.size + 1 ≤ w4.heap.size + 1 := (by omega); refine list_push _ rfl (.tmp 110) (.tmp 112) 26 rfl (w.heap.size + 1) 28 i0 zeroX 3 48 Tryz.underlying26 hi hz0 hz1 hz2 rfl (by decide) (.slice A cs.length cap) cs.length (cs.flatMap C3.cells) rfl z1 (w4.heap.size + 1) #[.int .i8 y.k, .string y.t, .slice y.A y.n y.c] rfl z2 rfl z4 hcs (by decide) z3 ?_; intro g cap2 w5 hown hgrow hat hlt5; have hX5 := (hR5.alloc (.cells #[.int .i8 y.k, .string y.t, .slice y.A y.n y.c] 28)).grown hgrow (fun h => by have := (hA5.own.lt w.heap.size h.symm).1; omega); obtain ⟨v0, v1, v2, f0, f1, f2⟩ := blk3 hX5))
                go_roundw
                case rel =>
                  have hbb : Below (w4.alloc (.cells #[.int .i8 y.k, .string y.t, .slice y.A y.n y.c] 28)).heap.size (w4.alloc (.cells #[.int .i8 y.k, .string y.t, .slice y.A y.n y.c] 28)) ((w4.alloc (.cells #[.int .i8 y.k, .string y.t, .slice y.A y.n y.c] 28)).alloc (.cells #[.int .i8 y.k, .string y.t, .slice y.A y.n y.c] 28)) := (Below.refl _ _).alloc (Nat.le_refl _) _
                  have hb44 : Below w4.heap.size w4 ((w4.alloc (.cells #[.int .i8 y.k, .string y.t, .slice y.A y.n y.c] 28)).alloc (.cells #[.int .i8 y.k, .string y.t, .slice y.A y.n y.c] 28)) := ((Below.refl _ w4).alloc (Nat.le_refl _) _).alloc (by simp) _
                  have hAc := (HAC.out.child hszR HLY.out).keep hb44
                  have hA6 := ((hA5.keep hbb).push (y := y) hAc hown hgrow hat).kept (Kept.set1 w5 w.heap.size 2 (.slice (some ⟨g, 0, none⟩) (cs.length + 1) cap2)) (fun b h1 _ h2 => by omega)
                  have hk6 : Kept (fun i => w.heap.size ≤ i) w4 (w5.setCell ⟨w.heap.size, 2, none⟩ (.slice (some ⟨g, 0, none⟩) (cs.length + 1) cap2)) := ((((Kept.refl (fun i => w.heap.size ≤ i) w4).alloc (.cells #[.int .i8 y.k, .string y.t, .slice y.A y.n y.c] 28)).alloc (.cells #[.int .i8 y.k, .string y.t, .slice y.A y.n y.c] 28)).grown hgrow (fun i hi => .inl (Nat.le_of_succ_le (hA5.own.lt i hi).1))).setCell (p := ⟨w.heap.size, 2, none⟩) (.inl (Nat.le_refl _)) _
                  refine ⟨q3, m, cs ++ [y], xs ++ [x], _, hq3.2, by omega, by omega, HL.out, ?_, hG4.kept hk6 (by omega), hX5.set_ 2 _, hA6, (HKC.out.trans hk4).then_ hk6 (fun i hi h => by omega), Nat.le_trans hszR (Nat.le_trans hs4 hk6.size)⟩
                  rw [List.length_append, List.length_singleton]; omega
                case measure =>
                  have hk6 : Kept (fun i => w.heap.size ≤ i) w4 (w5.setCell ⟨w.heap.size, 2, none⟩ (.slice (some ⟨g, 0, none⟩) (cs.length + 1) cap2)) := ((((Kept.refl (fun i => w.heap.size ≤ i) w4).alloc (.cells #[.int .i8 y.k, .string y.t, .slice y.A y.n y.c] 28)).alloc (.cells #[.int .i8 y.k, .string y.t, .slice y.A y.n y.c] 28)).grown hgrow (fun i hi => .inl (Nat.le_of_succ_le (hA5.own.lt i hi).1))).setCell (p := ⟨w.heap.size, 2, none⟩) (.inl (Nat.le_refl _)) _
                  have m1 : (w5.setCell ⟨w.heap.size, 2, none⟩ (.slice (some ⟨g, 0, none⟩) (cs.length + 1) cap2)).cell? ⟨gr, 1, none⟩ = some (.int .i64 q3) := (hG4.kept hk6 (by omega)).cell 1
                  rw [m1, r1]
                  show ((s.size : Int) - q3).toNat < ((s.size : Int) - q).toNat
                  omega
end Go.Proofs.YtiklliiamljogaaGreatDoor

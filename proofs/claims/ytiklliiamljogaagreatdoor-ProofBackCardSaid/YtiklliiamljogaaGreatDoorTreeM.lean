/- read at a list. -/
import Derived.Test.YtiklliiamljogaaGreatDoorTreeJ
import Derived.Deep.RegionHeld3
namespace Go.Proofs.YtiklliiamljogaaGreatDoor
open Go.RowKit

theorem sexp_info : (Tryz.prog.info? 28).map (fun i => (i.zero, i.size, i.bytes)) = some (some zeroX, 3, 48) := by kernel_rfl

/-- read, for so much fuel. -/
def ReadAt (s : ByteArray) (m : Nat) : Prop := ∀ (a : Int) (p : Nat) (w : World), startI s a = startL (byts s) p → p ≤ s.size → 2 * (s.size - p) + 1 ≤ m →
  Calls Tryz.prog 81 #[.string s, .int .i64 a] w fun e w' => RdIs (fun b => w.heap.size ≤ b) w' (readF (byts s) m p) e ∧ Below w.heap.size w w'

/-- The reference's Next where no list ends. -/
theorem rnext_any (s : ByteArray) (hs : s.size ≤ 1000000) (q : Nat) (hq : q ≤ s.size) (hc : closes (byts s) q = none) : ∃ (k : Int) (t : ByteArray) (a b : Int) (ok : Bool) (c : Int),
    (∀ w, Calls Tryz.prog 93 #[.string s, .int .i64 q] w fun e w' => e = .returned (.tuple #[.agg #[.int .i8 k, .string t, .int .i64 a, .int .i64 b], .bool ok, .int .i64 c]) ∧ Below w.heap.size w w') ∧
    ((c = 20 ∧ ok = false) ∨ (c = 0 ∧ ok = false) ∨ (c = 0 ∧ ok = true ∧ (k == 1) = false)) := by
  have hn := startI_nat s q hq
  by_cases he : (byts s).drop (startL (byts s) q) = []
  · exact ⟨0, ⟨#[]⟩, 0, 0, false, 0, fun w => rnext_eof s q w hs _ hn he, .inr (.inl ⟨rfl, rfl⟩)⟩
  · cases ht : tok ((byts s).drop (startL (byts s) q)) with
    | none => exact ⟨0, ⟨#[]⟩, (startL (byts s) q : Nat), 0, false, 20, fun w => rnext_bad s q w hs _ hn he ht, .inl ⟨rfl, rfl⟩⟩
    | some r =>
      have h1 := closes_none hc ht
      exact ⟨r.k, ⟨r.t.toArray⟩, (startL (byts s) q : Nat), _, true, 0, fun w => rnext_tokK s q w hs _ hn r ht r.k rfl _ rfl, .inr (.inr ⟨rfl, rfl, beq_eq_false_iff_ne.2 (by omega)⟩)⟩

set_option maxHeartbeats 4000000 in
set_option maxRecDepth 100000 in
theorem read_list (s : ByteArray) (N : Nat) (ih : ∀ m, m < N → ReadAt s m) (a : Int) (w : World) (hs : s.size ≤ 1000000) (n : Nat) (hn : startI s a = n) (r : Raw) (ht : tok ((byts s).drop n) = some r) (h0 : r.k = 0)
    (p0 m0 : Nat) (hp0 : n + r.n = p0) (hle : p0 ≤ s.size) (hm0 : m0 < N) (hf : 2 * (s.size - p0) + 2 ≤ m0) :
    Calls Tryz.prog 81 #[.string s, .int .i64 a] w fun e w' => RdIs (fun b => w.heap.size ≤ b) w' (listF (byts s) m0 p0 []) e ∧ Below w.heap.size w w' := by
  have hb0 := Blk.new w 28 #[.int .i8 0, .string ⟨#[]⟩, .slice none 0 0]
  have hB0 : Below w.heap.size w (w.alloc (.cells #[.int .i8 0, .string ⟨#[]⟩, .slice none 0 0] 28)) := (Below.refl _ w).alloc (Nat.le_refl _) _
  obtain ⟨rd, hrd⟩ : ∃ rd, listF (byts s) m0 p0 [] = rd := ⟨_, rfl⟩
  rw [hrd]
  obtain ⟨R, hR0⟩ : ∃ R, w.heap.size = R := ⟨_, rfl⟩
  have HI := Lib.hid ih
  have HM := Lib.hid hf
  have HD := Lib.hid hrd
  clear ih hf hrd
  go_enter Tryz.func81, Tryz.ntmps81
  go_wp2_with (go_at_call 93; refine (rnext_tokK s a _ hs n hn r ht 0 (by rw [h0]; rfl) p0 (by omega)).mono ?_; rintro e w1 ⟨rfl, hb1⟩; have hB := hB0.trans (hb1.mono (by simp)); have hne : w.heap.size ≠ w1.heap.size := Nat.ne_of_lt (Nat.lt_of_lt_of_le (by simp) hb1.size); have hne2 := hne.symm; have hR := (hb0.below hb1 hb0.lt).alloc (.cells #[.int .i8 0, .string ⟨r.t.toArray⟩, .int .i64 n, .int .i64 p0] 118); obtain ⟨x0, x1, x2, f0, f1, f2⟩ := blk3 hR)
  clear x0 x1 x2 f0 f1 f2 hb1 hb0 hB0
  obtain ⟨X, hX⟩ : ∃ X, w1.heap.size + 1 = X := ⟨_, rfl⟩
  obtain ⟨W, hW⟩ : ∃ W, (w1.alloc (.cells #[.int .i8 0, .string ⟨r.t.toArray⟩, .int .i64 n, .int .i64 p0] 118)).alloc (.cells #[.int .i8 3, .string ⟨#[]⟩, .slice none 0 0] 28) = W := ⟨_, rfl⟩
  have hWR : Blk W R 28 #[.int .i8 0, .string ⟨#[]⟩, .slice none 0 0] := by rw [← hW, ← hR0]; exact hR.alloc _
  have hWX : Blk W X 28 #[.int .i8 3, .string ⟨#[]⟩, .slice none 0 0] := by rw [← hW]; exact Blk.new_at (by simp [hX]) _ _
  have hWs : W.heap.size = X + 1 := by rw [← hW, ← hX]; simp
  have hWB : Below R w W := by rw [← hW, ← hR0]; exact (hB.alloc hB.size _).alloc (by simp; have := hB.size; omega) _
  have hRX : R < X := by have := hB.size; omega
  have hsp : p0 ≤ 1000000 := by omega
  have hRXa : R ≠ X := by omega
  have hRXb : X ≠ R := by omega
  try rw [hX]
  try rw [hR0]
  rw [hW]
  clear hR hB hne hne2 hW hX
  go_loopw [1] (fun v wx => ∃ (q m : Nat) (cs : List C3) (xs : List Sx) (sv : Value), v = .int .i64 q ∧ q ≤ s.size ∧ 2 * (s.size - q) + 2 ≤ m ∧ m < N ∧ listF (byts s) m q xs = rd ∧ xs.length ≤ q ∧
    Blk wx R 28 #[.int .i8 0, .string ⟨#[]⟩, .slice none 0 0] ∧ Blk wx X 28 #[.int .i8 3, .string ⟨#[]⟩, sv] ∧ Acc wx (X + 1) sv cs xs ∧ Below R w wx ∧ X + 1 ≤ wx.heap.size) (fun v _ => (s.size - intOf v).toNat)
  case atStart => exact ⟨p0, m0, [], [], .slice none 0 0, rfl, hle, HM.out, hm0, HD.out, Nat.zero_le _, hWR, hWX, Acc.nil _ _, hWB, Nat.le_of_eq hWs.symm⟩
  case round =>
    obtain ⟨q, m, cs, xs, sv, rfl, hq, hfq, hmN, hlf, hxq, hbR, hbX, hacc, hBx, hsz⟩ := hrel
    clear hWR hWX hWs hWB HM HD
    have hsR : R ≤ wr.heap.size := by omega
    obtain ⟨m, rfl⟩ : ∃ m', m = m' + 1 := ⟨m - 1, by omega⟩
    unfold listF at hlf
    cases hc : closes (byts s) q with
    | some q2 =>
      rw [hc] at hlf
      obtain ⟨r2, hr2, hk1, hq2, _, hq3⟩ := closes_some hc (by rw [byts_len]; exact hq)
      rw [byts_len] at hq3
      dsimp only at hlf
      have hn2 := startI_nat s q hq
      obtain ⟨st, hst⟩ : ∃ st, startL (byts s) q = st := ⟨_, rfl⟩
      rw [hst] at hr2 hq2 hn2
      obtain ⟨A, cap, rfl⟩ := own_slice hacc.own
      have HQ := Lib.hid hq2
      have HA := Lib.hid hacc
      have HB := Lib.hid hBx
      have HL := Lib.hid hlf
      have HX := Lib.hid hbX
      have HR := Lib.hid hbR
      clear hacc hBx hlf hbX hbR HI hc hst ht hn h0 hp0 hq2
      go_wp2_with (go_at_call 93; refine (rnext_tokK s q _ hs st hn2 r2 hr2 1 (by rw [hk1]; rfl) q2 (by have := HQ.out; omega)).mono ?_; rintro e w3 ⟨rfl, hb3⟩; have hne : R ≠ w3.heap.size := Nat.ne_of_lt (Nat.lt_of_lt_of_le HR.out.lt hb3.size); have hne2 := hne.symm; have hXne : X ≠ w3.heap.size := Nat.ne_of_lt (Nat.lt_of_lt_of_le HX.out.lt hb3.size); have hXne2 := hXne.symm; have hR := (HR.out.below hb3 HR.out.lt).alloc (.cells #[.int .i8 1, .string ⟨r2.t.toArray⟩, .int .i64 st, .int .i64 q2] 118); obtain ⟨x0, x1, x2, f0, f1, f2⟩ := blk3 hR; have hX := (HX.out.below hb3 HX.out.lt).alloc (.cells #[.int .i8 1, .string ⟨r2.t.toArray⟩, .int .i64 st, .int .i64 q2] 118); obtain ⟨u0, u1, u2, _⟩ := blk3 hX)
      go_region
      go_wp2
      have hb2 := hR.set3 (.int .i8 3) (.string ⟨#[]⟩) (.slice A cs.length cap)
      obtain ⟨y0, y1, y2, _⟩ := blk3 hb2
      have hk := ((((Kept.of_below (S := fun i => i = R) hb3).alloc (.cells #[.int .i8 1, .string ⟨r2.t.toArray⟩, .int .i64 st, .int .i64 q2] 118)).setCell (p := ⟨R, 0, none⟩) (.inl rfl) (.int .i8 3)).setCell (p := ⟨R, 1, none⟩) (.inl rfl) (.string ⟨#[]⟩)).setCell (p := ⟨R, 2, none⟩) (.inl rfl) (.slice A cs.length cap)
      refine bodyPost_ret (v := .tuple #[.agg #[.int .i8 3, .string ⟨#[]⟩, .slice A cs.length cap], .int .i64 q2, .int .i64 0]) ?_ rfl ⟨?_, ?_⟩
      · simp [results, Tryz.results81, go_sem, y0, y1, y2]
      · rw [← HL.out]
        refine ⟨_, ?_, rfl⟩
        have hl := ((HA.out.lies (by omega)).kept hk (fun b _ h1 h2 => by omega)).mono (S' := fun b => w.heap.size ≤ b) (fun b _ h1 => by omega)
        exact hl.still (Nat.le_refl _) (fun _ _ _ => rfl)
      · have hfin := HB.out.trans (hk.below (B := R) (by omega) (fun i hi => by omega))
        rw [hR0]
        exact ⟨hfin.os, hfin.tape, hfin.output, hfin.size, hfin.block⟩
    | none =>
      rw [hc] at hlf
      obtain ⟨k, t, a1, b1, okk, c, hnx, hcase⟩ := rnext_any s hs q hq hc
      have hRd := fun w => HI.out m (by omega) q q w (startI_nat s q hq) hq (by omega)
      obtain ⟨A, cap, rfl⟩ := own_slice hacc.own
      have HA := Lib.hid hacc
      have HB := Lib.hid hBx
      have HX := Lib.hid hbX
      have HR := Lib.hid hbR
      clear hacc hBx hbX hbR HI hc ht hn h0 hp0
      cases hrd : readF (byts s) m q with
      | err n2 e2 =>
        rw [hrd] at hlf
        have hE : Hid (∀ w, Calls Tryz.prog 81 #[.string s, .int .i64 q] w fun e w' => e = .returned (.tuple #[.agg #[.int .i8 0, .string ⟨#[]⟩, .slice none 0 0], .int .i64 n2, .int .i64 e2]) ∧ Below w.heap.size w w') := Lib.hid fun w => (hRd w).mono (by rw [hrd]; exact fun e w' h => h)
        have he2 : (e2 != 0) = true := bne_iff_ne.2 (by rcases (rd_err (byts s) m).1 q n2 e2 (by rw [byts_len]; exact hq) (by rw [byts_len]; omega) hrd with h | h <;> omega)
        have HL := Lib.hid hlf
        have HN := Lib.hid hnx
        clear hRd hrd hlf hnx
        rcases hcase with ⟨rfl, rfl⟩ | ⟨rfl, rfl⟩ | ⟨rfl, rfl, bk⟩
        all_goals
          go_wp2_with (first
            | (go_at_call 93; refine (HN.out _).mono ?_; rintro e w3 ⟨rfl, hb3⟩; have hR3 := (HR.out.below hb3 HR.out.lt).alloc (.cells #[.int .i8 k, .string t, .int .i64 a1, .int .i64 b1] 118); have hs3 : R ≤ w3.heap.size := Nat.le_trans hsR hb3.size; have hB3 := (HB.out.trans (hb3.mono hsR)).alloc hs3 (.cells #[.int .i8 k, .string t, .int .i64 a1, .int .i64 b1] 118))
            | (go_at_call 81; refine (hE.out _).mono ?_; rintro e w4 ⟨rfl, hb4⟩; have hR := (hR3.below hb4 hR3.lt).alloc (.cells #[.int .i8 0, .string ⟨#[]⟩, .slice none 0 0] 28); obtain ⟨x0, x1, x2, f0, f1, f2⟩ := blk3 hR; have hne : R ≠ w4.heap.size := Nat.ne_of_lt (Nat.lt_of_lt_of_le hR3.lt hb4.size); have hne2 := hne.symm))
        all_goals
          have hb2 := hR.set3 (.int .i8 0) (.string ⟨#[]⟩) (.slice none 0 0)
          obtain ⟨y0, y1, y2, _⟩ := blk3 hb2
          refine bodyPost_ret (v := .tuple #[zeroX, .int .i64 n2, .int .i64 e2]) ?_ rfl ⟨?_, ?_⟩
          · simp [zeroX, results, Tryz.results81, go_sem, y0, y1, y2]
          · rw [← HL.out]
            rfl
          · have hs4 : R ≤ (w3.alloc (.cells #[.int .i8 k, .string t, .int .i64 a1, .int .i64 b1] 118)).heap.size := Nat.le_trans hs3 (by simp)
            have hB4 := (hB3.trans (hb4.mono hs4)).alloc (Nat.le_trans hs4 hb4.size) (.cells #[.int .i8 0, .string ⟨#[]⟩, .slice none 0 0] 28)
            have hfin := ((hB4.setCell (p := ⟨R, 0, none⟩) (Nat.le_refl _) (.int .i8 0)).setCell (p := ⟨R, 1, none⟩) (Nat.le_refl _) (.string ⟨#[]⟩)).setCell (p := ⟨R, 2, none⟩) (Nat.le_refl _) (.slice none 0 0)
            rw [hR0]
            exact ⟨hfin.os, hfin.tape, hfin.output, hfin.size, hfin.block⟩
      | ok x q3 =>
        rw [hrd] at hlf
        have hE : Hid (∀ w, Calls Tryz.prog 81 #[.string s, .int .i64 q] w fun e w' => (∃ y : C3, Lies (fun b => w.heap.size ≤ b) w' y.val x ∧ e = .returned (.tuple #[.agg #[.int .i8 y.k, .string y.t, .slice y.A y.n y.c], .int .i64 q3, .int .i64 0])) ∧ Below w.heap.size w w') := Lib.hid fun w => (hRd w).mono (by
          rw [hrd]
          rintro e w' ⟨⟨v, hl, rfl⟩, hb⟩
          obtain ⟨y, rfl⟩ := hl.c3
          exact ⟨⟨y, hl, rfl⟩, hb⟩)
        have hq3 := (rd_ok (byts s) m).1 q x q3 (by rw [byts_len]; exact hq) hrd
        rw [byts_len] at hq3
        have HL := Lib.hid hlf
        have HN := Lib.hid hnx
        clear hRd hrd hlf hnx
        have hlen := HA.out.len
        have hcs : (cs.length + 1) * 48 ≤ 140737488355328 := by omega
        clear hlen
        obtain ⟨i0, hi, hz0, hz1, hz2⟩ := info_parts sexp_info
        rcases hcase with ⟨rfl, rfl⟩ | ⟨rfl, rfl⟩ | ⟨rfl, rfl, bk⟩
        all_goals
          go_wp2_with (first
            | (go_at_call 93; refine (HN.out _).mono ?_; rintro e w3 ⟨rfl, hb3⟩; have hk3 := (Kept.of_below (S := fun _ => False) hb3).alloc (.cells #[.int .i8 k, .string t, .int .i64 a1, .int .i64 b1] 118))
            | (go_at_call 81; refine (hE.out _).mono ?_; rintro e w4 ⟨⟨y, hly, rfl⟩, hb4⟩; have hk4 := (hk3.trans (Kept.of_below (S := fun _ => False) hb4)).alloc (.cells #[.int .i8 y.k, .string y.t, .slice y.A y.n y.c] 28); have hX4 := HX.out.kept hk4 (fun h => h); have hA4 := HA.out.kept hk4 (fun _ _ _ h => h); obtain ⟨u0, u1, u2, _⟩ := blk3 hX4; have HLY := Lib.hid hly; clear hly)
            | (at_builtin; have z1 := hA4.own.alloc (.cells #[.int .i8 y.k, .string y.t, .slice y.A y.n y.c] 28); have z2 : Blk ((w4.alloc (.cells #[.int .i8 y.k, .string y.t, .slice y.A y.n y.c] 28)).alloc (.cells #[.int .i8 y.k, .string y.t, .slice y.A y.n y.c] 28)) (w4.heap.size + 1) 28 #[.int .i8 y.k, .string y.t, .slice y.A y.n y.c] := Blk.new_at (by simp) _ _; have z4 : ∀ u ∈ (#[Value.int .i8 y.k, .string y.t, .slice y.A y.n y.c] : Array Value).toList, u.oneCell' = true := (by simp [Value.oneCell']); have z3 : X + 1 ≤ w4.heap.size + 1 := (by have := hb4.size; have := hk3.size; omega); refine list_push _ rfl (.tmp 83) (.tmp 85) 26 rfl (X + 1) 28 i0 zeroX 3 48 Tryz.underlying26 hi hz0 hz1 hz2 rfl (by decide) (.slice A cs.length cap) cs.length (cs.flatMap C3.cells) rfl z1 (w4.heap.size + 1) #[.int .i8 y.k, .string y.t, .slice y.A y.n y.c] rfl z2 rfl z4 hcs (by decide) z3 ?_; intro g cap2 w5 hown hgrow hat hlt5; have hX5 := (hX4.alloc (.cells #[.int .i8 y.k, .string y.t, .slice y.A y.n y.c] 28)).grown hgrow (fun h => by have := (hA4.own.lt X h.symm).1; omega); obtain ⟨v0, v1, v2, g0, g1, g2⟩ := blk3 hX5))
        all_goals
          go_roundw
          case rel =>
            have hbb : Below (w4.alloc (.cells #[.int .i8 y.k, .string y.t, .slice y.A y.n y.c] 28)).heap.size (w4.alloc (.cells #[.int .i8 y.k, .string y.t, .slice y.A y.n y.c] 28)) ((w4.alloc (.cells #[.int .i8 y.k, .string y.t, .slice y.A y.n y.c] 28)).alloc (.cells #[.int .i8 y.k, .string y.t, .slice y.A y.n y.c] 28)) := (Below.refl _ _).alloc (Nat.le_refl _) _
            have hb44 : Below w4.heap.size w4 ((w4.alloc (.cells #[.int .i8 y.k, .string y.t, .slice y.A y.n y.c] 28)).alloc (.cells #[.int .i8 y.k, .string y.t, .slice y.A y.n y.c] 28)) := ((Below.refl _ w4).alloc (Nat.le_refl _) _).alloc (by simp) _
            have hsz3 : X + 1 ≤ (w3.alloc (.cells #[.int .i8 k, .string t, .int .i64 a1, .int .i64 b1] 118)).heap.size := Nat.le_trans hsz hk3.size
            have hAc := ((HA.out.kept hk3 (fun _ _ _ h => h)).child hsz3 HLY.out).keep hb44
            have hA5 := ((hA4.keep hbb).push (y := y) hAc hown hgrow hat).kept (Kept.set1 w5 X 2 (.slice (some ⟨g, 0, none⟩) (cs.length + 1) cap2)) (fun b h1 _ h2 => by omega)
            have hk6 : Kept (fun i => X ≤ i) wr (w5.setCell ⟨X, 2, none⟩ (.slice (some ⟨g, 0, none⟩) (cs.length + 1) cap2)) := ((((hk4.mono (S' := fun i => X ≤ i) (fun _ _ h => h.elim)).alloc _).grown hgrow (fun i hi => .inl (Nat.le_of_succ_le (hA4.own.lt i hi).1))).setCell (p := ⟨X, 2, none⟩) (.inl (Nat.le_refl X)) _)
            refine ⟨q3, m, cs ++ [y], xs ++ [x], _, rfl, hq3.2, by omega, by omega, HL.out, ?_, HR.out.kept hk6 (by omega), hX5.set_ 2 _, ?_, HB.out.trans (hk6.below hsR (fun i hi => by omega)), Nat.le_trans hsz hk6.size⟩
            · rw [List.length_append, List.length_singleton]; omega
            · exact hA5
          case measure => simp only [intOf]; omega
end Go.Proofs.YtiklliiamljogaaGreatDoor

/- one, where no list begins. -/
namespace Go.Proofs.YtiklliiamljogaaGreatDoor
open Go.RowKit

theorem below_undrew {a w1 : World} (h : Below a.drew.heap.size a.drew w1) : Below a.heap.size a w1 := ⟨h.os, h.tape, h.output, h.size, h.block⟩
theorem below_undrew2 {a w1 : World} {o : Obj} (h : Below (a.alloc o).drew.heap.size (a.alloc o).drew w1) : Below (a.heap.size + 1) (a.alloc o) w1 := ⟨h.os, h.tape, h.output, h.size, fun k hk => h.block k (by simpa using hk)⟩
/-- A token's box behind a region in which it was made. -/
def TokAt (W0 wx : World) (T : Array Value) (p : Value) : Prop := ∃ tb, p = .pointer (some ⟨tb, 0, none⟩) ∧ Blk wx tb 118 T ∧ Below W0.heap.size W0 wx ∧ W0.heap.size ≤ tb
theorem TokAt.late {W0 w1 : World} (hb : Below W0.heap.size W0 w1) (T : Array Value) : TokAt W0 (w1.alloc (.cells T 118)) T (.pointer (some ⟨w1.heap.size, 0, none⟩)) :=
  ⟨_, rfl, Blk.new _ _ _, hb.alloc hb.size _, hb.size⟩
theorem TokAt.early {W0 w1 : World} {o : Obj} {c0 c1 c2 c3 : Value} (hb : Below (W0.heap.size + 1) (W0.alloc o) w1) {n : Nat} (hn : W0.heap.size = n) (hT : Blk w1 n 118 #[c0, c1, c2, c3]) (d0 d1 d2 d3 : Value) :
    TokAt W0 ((((w1.setCell ⟨n, 0, none⟩ d0).setCell ⟨n, 1, none⟩ d1).setCell ⟨n, 2, none⟩ d2).setCell ⟨n, 3, none⟩ d3) #[d0, d1, d2, d3] (.pointer (some ⟨n, 0, none⟩)) := by
  subst hn
  refine ⟨_, rfl, (((hT.set_ 0 d0).set_ 1 d1).set_ 2 d2).set_ 3 d3, ?_, Nat.le_refl _⟩
  have h0 : Below W0.heap.size W0 (W0.alloc o) := (Below.refl _ W0).alloc (Nat.le_refl _) _
  exact ((((h0.trans (hb.mono (Nat.le_succ _))).setCell (p := ⟨W0.heap.size, 0, none⟩) (Nat.le_refl _) _).setCell (p := ⟨W0.heap.size, 1, none⟩) (Nat.le_refl _) _).setCell (p := ⟨W0.heap.size, 2, none⟩) (Nat.le_refl _) _).setCell (p := ⟨W0.heap.size, 3, none⟩) (Nat.le_refl _) _

set_option maxHeartbeats 1000000 in
set_option maxRecDepth 100000 in
theorem one_eof (s : ByteArray) (a : Int) (w : World) (gr : Nat) (hg : Blk w gr 108 #[.string s, .int .i64 a, .int .i64 0]) (hs : s.size ≤ 1000000) (n : Nat) (hn : startI s a = n) (h : (byts s).drop n = []) :
    Calls Tryz.prog 78 #[.pointer (some ⟨gr, 0, none⟩)] w fun e w' => (e = .returned (.agg #[.int .i8 0, .string ⟨#[]⟩, .slice none 0 0]) ∧ Blk w' gr 108 #[.string s, .int .i64 s.size, .int .i64 21]) ∧ Kept (fun i => i = gr) w w' := by
  have hb0 := Blk.new w 28 #[.int .i8 0, .string ⟨#[]⟩, .slice none 0 0]
  have hB0 : Below w.heap.size w (w.alloc (.cells #[.int .i8 0, .string ⟨#[]⟩, .slice none 0 0] 28)) := (Below.refl _ w).alloc (Nat.le_refl _) _
  have hlt0 := hg.lt
  have hg0 := hg.alloc (.cells #[.int .i8 0, .string ⟨#[]⟩, .slice none 0 0] 28)
  obtain ⟨r0, r1, r2, _⟩ := blk3 hg0
  have e1 : gr ≠ w.heap.size + 1 := by omega
  have e2 := e1.symm
  have HG := Lib.hid hg
  have HG0 := Lib.hid hg0
  have HR0 := Lib.hid hb0
  have HB0 := Lib.hid hB0
  clear hg hg0 hb0 hB0
  go_enter Tryz.func78, Tryz.ntmps78
  go_upto_region 1 with fail
  go_cut [3, 4, 5] from 10 to 22 (fun p okv ev wx => okv = .bool false ∧ ev = .int .i64 0 ∧ TokAt (w.alloc (.cells #[.int .i8 0, .string ⟨#[]⟩, .slice none 0 0] 28)) wx #[.int .i8 0, .string ⟨#[]⟩, .int .i64 0, .int .i64 0] p)
  case first =>
    go_region_held3 (fun w' => w'.cell? ⟨gr, 0, none⟩ = some (.string s) ∧ w'.cell? ⟨gr, 1, none⟩ = some (.int .i64 a)) (go_keep) (first | (go_at_call 91; refine (next_eof s a _ hs n hn h).mono ?_; rintro e w1 ⟨rfl, hb1⟩; have e3 : gr ≠ w1.heap.size := Nat.ne_of_lt (Nat.lt_of_lt_of_le (by simp; omega) hb1.size); have e4 := e3.symm; have k0 := hb1.cell (p := ⟨gr, 0, none⟩) (by simp; omega); have k1 := hb1.cell (p := ⟨gr, 1, none⟩) (by simp; omega); have hT0 : Blk w1 (w.heap.size + 1) 118 #[.int .i8 0, .string ⟨#[]⟩, .int .i64 0, .int .i64 0] := (hb1.block _ (by simp)).trans (Blk.new_at (by simp) _ _); obtain ⟨c0, c1, c2, c3⟩ := blk4 hT0; have c4 := hT0.frozen 0; have c5 := hT0.frozen 1; have c6 := hT0.frozen 2; have c7 := hT0.frozen 3) | (go_at_call 91; refine (next_eof s a _ hs n hn h).mono ?_; rintro e w1 ⟨rfl, hb1⟩; have e3 : gr ≠ w1.heap.size := Nat.ne_of_lt (Nat.lt_of_lt_of_le (by simp; omega) hb1.size); have e4 := e3.symm; have k0 := hb1.cell (p := ⟨gr, 0, none⟩) (by simp; omega); have k1 := hb1.cell (p := ⟨gr, 1, none⟩) (by simp; omega)))
    all_goals go_wp2
    all_goals go_meet
    · exact ⟨rfl, rfl, TokAt.late (below_undrew hb1) _⟩
    · have hq := below_undrew2 hb1
      exact ⟨rfl, rfl, TokAt.early hq (by simp) hT0 _ _ _ _⟩
  case rest =>
    obtain ⟨rfl, rfl, tb, rfl, hT, hBx, htb⟩ := hcut
    have hGc := HG0.out.below hBx HG0.out.lt
    have hRc := HR0.out.below hBx HR0.out.lt
    obtain ⟨x0, x1, x2, f0, f1, f2⟩ := blk3 hRc
    obtain ⟨z0, z1, z2, z3⟩ := blk4 hT
    obtain ⟨g0, g1, g2, _⟩ := blk3 hGc
    have hgR : w.heap.size ≠ gr := by omega
    have HBX := Lib.hid hBx
    have HT := Lib.hid hT
    have HRC := Lib.hid hRc
    have HGC := Lib.hid hGc
    clear hBx hT hRc hGc
    go_wp2_with (go_at_call 92; refine (stop_ok HGC.out 21 s.size).mono ?_; rintro e w2 ⟨rfl, hb2, hk2⟩; have hR2 := HRC.out.kept hk2 hgR; obtain ⟨x0, x1, x2, f0, f1, f2⟩ := blk3 hR2)
    have hb3 := hR2.set3 (.int .i8 0) (.string ⟨#[]⟩) (.slice none 0 0)
    obtain ⟨y0, y1, y2, _⟩ := blk3 hb3
    have hk := (((((Kept.of_below (S := fun i => i = gr) HB0.out).trans (Kept.of_below (HBX.out.mono (B := (w.alloc (.cells #[.int .i8 0, .string ⟨#[]⟩, .slice none 0 0] 28)).heap.size) (Nat.le_refl _)))).trans hk2).setCell (p := ⟨w.heap.size, 0, none⟩) (.inr (Nat.le_refl _)) (.int .i8 0)).setCell (p := ⟨w.heap.size, 1, none⟩) (.inr (Nat.le_refl _)) (.string ⟨#[]⟩)).setCell (p := ⟨w.heap.size, 2, none⟩) (.inr (Nat.le_refl _)) (.slice none 0 0)
    refine bodyPost_ret (v := .agg #[.int .i8 0, .string ⟨#[]⟩, .slice none 0 0]) ?_ rfl ⟨⟨rfl, ?_⟩, hk⟩
    · simp [results, Tryz.results78, go_sem, y0, y1, y2]
    · exact ((hb2.far (p := ⟨w.heap.size, 0, none⟩) hgR.symm (.int .i8 0)).far (p := ⟨w.heap.size, 1, none⟩) hgR.symm (.string ⟨#[]⟩)).far (p := ⟨w.heap.size, 2, none⟩) hgR.symm (.slice none 0 0)

set_option maxHeartbeats 1000000 in
set_option maxRecDepth 100000 in
theorem one_bad (s : ByteArray) (a : Int) (w : World) (gr : Nat) (hg : Blk w gr 108 #[.string s, .int .i64 a, .int .i64 0]) (hs : s.size ≤ 1000000) (n : Nat) (hn : startI s a = n) (h : (byts s).drop n ≠ []) (ht : tok ((byts s).drop n) = none) :
    Calls Tryz.prog 78 #[.pointer (some ⟨gr, 0, none⟩)] w fun e w' => (e = .returned (.agg #[.int .i8 0, .string ⟨#[]⟩, .slice none 0 0]) ∧ Blk w' gr 108 #[.string s, .int .i64 n, .int .i64 20]) ∧ Kept (fun i => i = gr) w w' := by
  have hb0 := Blk.new w 28 #[.int .i8 0, .string ⟨#[]⟩, .slice none 0 0]
  have hB0 : Below w.heap.size w (w.alloc (.cells #[.int .i8 0, .string ⟨#[]⟩, .slice none 0 0] 28)) := (Below.refl _ w).alloc (Nat.le_refl _) _
  have hlt0 := hg.lt
  have hg0 := hg.alloc (.cells #[.int .i8 0, .string ⟨#[]⟩, .slice none 0 0] 28)
  obtain ⟨r0, r1, r2, _⟩ := blk3 hg0
  have e1 : gr ≠ w.heap.size + 1 := by omega
  have e2 := e1.symm
  have HG := Lib.hid hg
  have HG0 := Lib.hid hg0
  have HR0 := Lib.hid hb0
  have HB0 := Lib.hid hB0
  clear hg hg0 hb0 hB0
  go_enter Tryz.func78, Tryz.ntmps78
  go_upto_region 1 with fail
  go_cut [3, 4, 5] from 10 to 22 (fun p okv ev wx => okv = .bool false ∧ ev = .int .i64 20 ∧ TokAt (w.alloc (.cells #[.int .i8 0, .string ⟨#[]⟩, .slice none 0 0] 28)) wx #[.int .i8 0, .string ⟨#[]⟩, .int .i64 n, .int .i64 0] p)
  case first =>
    go_region_held3 (fun w' => w'.cell? ⟨gr, 0, none⟩ = some (.string s) ∧ w'.cell? ⟨gr, 1, none⟩ = some (.int .i64 a)) (go_keep) (first | (go_at_call 91; refine (next_bad s a _ hs n hn h ht).mono ?_; rintro e w1 ⟨rfl, hb1⟩; have e3 : gr ≠ w1.heap.size := Nat.ne_of_lt (Nat.lt_of_lt_of_le (by simp; omega) hb1.size); have e4 := e3.symm; have k0 := hb1.cell (p := ⟨gr, 0, none⟩) (by simp; omega); have k1 := hb1.cell (p := ⟨gr, 1, none⟩) (by simp; omega); have hT0 : Blk w1 (w.heap.size + 1) 118 #[.int .i8 0, .string ⟨#[]⟩, .int .i64 0, .int .i64 0] := (hb1.block _ (by simp)).trans (Blk.new_at (by simp) _ _); obtain ⟨c0, c1, c2, c3⟩ := blk4 hT0; have c4 := hT0.frozen 0; have c5 := hT0.frozen 1; have c6 := hT0.frozen 2; have c7 := hT0.frozen 3) | (go_at_call 91; refine (next_bad s a _ hs n hn h ht).mono ?_; rintro e w1 ⟨rfl, hb1⟩; have e3 : gr ≠ w1.heap.size := Nat.ne_of_lt (Nat.lt_of_lt_of_le (by simp; omega) hb1.size); have e4 := e3.symm; have k0 := hb1.cell (p := ⟨gr, 0, none⟩) (by simp; omega); have k1 := hb1.cell (p := ⟨gr, 1, none⟩) (by simp; omega)))
    all_goals go_wp2
    all_goals go_meet
    · exact ⟨rfl, rfl, TokAt.late (below_undrew hb1) _⟩
    · have hq := below_undrew2 hb1
      exact ⟨rfl, rfl, TokAt.early hq (by simp) hT0 _ _ _ _⟩
  case rest =>
    obtain ⟨rfl, rfl, tb, rfl, hT, hBx, htb⟩ := hcut
    have hGc := HG0.out.below hBx HG0.out.lt
    have hRc := HR0.out.below hBx HR0.out.lt
    obtain ⟨x0, x1, x2, f0, f1, f2⟩ := blk3 hRc
    obtain ⟨z0, z1, z2, z3⟩ := blk4 hT
    obtain ⟨g0, g1, g2, _⟩ := blk3 hGc
    have hgR : w.heap.size ≠ gr := by omega
    have HBX := Lib.hid hBx
    have HT := Lib.hid hT
    have HRC := Lib.hid hRc
    have HGC := Lib.hid hGc
    clear hBx hT hRc hGc
    go_wp2_with (go_at_call 92; refine (stop_ok HGC.out 20 n).mono ?_; rintro e w2 ⟨rfl, hb2, hk2⟩; have hR2 := HRC.out.kept hk2 hgR; obtain ⟨x0, x1, x2, f0, f1, f2⟩ := blk3 hR2)
    have hb3 := hR2.set3 (.int .i8 0) (.string ⟨#[]⟩) (.slice none 0 0)
    obtain ⟨y0, y1, y2, _⟩ := blk3 hb3
    have hk := (((((Kept.of_below (S := fun i => i = gr) HB0.out).trans (Kept.of_below (HBX.out.mono (B := (w.alloc (.cells #[.int .i8 0, .string ⟨#[]⟩, .slice none 0 0] 28)).heap.size) (Nat.le_refl _)))).trans hk2).setCell (p := ⟨w.heap.size, 0, none⟩) (.inr (Nat.le_refl _)) (.int .i8 0)).setCell (p := ⟨w.heap.size, 1, none⟩) (.inr (Nat.le_refl _)) (.string ⟨#[]⟩)).setCell (p := ⟨w.heap.size, 2, none⟩) (.inr (Nat.le_refl _)) (.slice none 0 0)
    refine bodyPost_ret (v := .agg #[.int .i8 0, .string ⟨#[]⟩, .slice none 0 0]) ?_ rfl ⟨⟨rfl, ?_⟩, hk⟩
    · simp [results, Tryz.results78, go_sem, y0, y1, y2]
    · exact ((hb2.far (p := ⟨w.heap.size, 0, none⟩) hgR.symm (.int .i8 0)).far (p := ⟨w.heap.size, 1, none⟩) hgR.symm (.string ⟨#[]⟩)).far (p := ⟨w.heap.size, 2, none⟩) hgR.symm (.slice none 0 0)

set_option maxHeartbeats 1000000 in
set_option maxRecDepth 100000 in
theorem one_close (s : ByteArray) (a : Int) (w : World) (gr : Nat) (hg : Blk w gr 108 #[.string s, .int .i64 a, .int .i64 0]) (hs : s.size ≤ 1000000) (n : Nat) (hn : startI s a = n) (r : Raw) (ht : tok ((byts s).drop n) = some r) (hk : r.k = 1) :
    Calls Tryz.prog 78 #[.pointer (some ⟨gr, 0, none⟩)] w fun e w' => (e = .returned (.agg #[.int .i8 0, .string ⟨#[]⟩, .slice none 0 0]) ∧ Blk w' gr 108 #[.string s, .int .i64 n, .int .i64 20]) ∧ Kept (fun i => i = gr) w w' := by
  obtain ⟨m, hm⟩ : ∃ m : Int, (n : Int) + r.n = m := ⟨_, rfl⟩
  have hb0 := Blk.new w 28 #[.int .i8 0, .string ⟨#[]⟩, .slice none 0 0]
  have hB0 : Below w.heap.size w (w.alloc (.cells #[.int .i8 0, .string ⟨#[]⟩, .slice none 0 0] 28)) := (Below.refl _ w).alloc (Nat.le_refl _) _
  have hlt0 := hg.lt
  have hg0 := hg.alloc (.cells #[.int .i8 0, .string ⟨#[]⟩, .slice none 0 0] 28)
  obtain ⟨r0, r1, r2, _⟩ := blk3 hg0
  have e1 : gr ≠ w.heap.size + 1 := by omega
  have e2 := e1.symm
  have HG := Lib.hid hg
  have HG0 := Lib.hid hg0
  have HR0 := Lib.hid hb0
  have HB0 := Lib.hid hB0
  clear hg hg0 hb0 hB0
  go_enter Tryz.func78, Tryz.ntmps78
  go_upto_region 1 with fail
  go_cut [3, 4, 5] from 10 to 22 (fun p okv ev wx => okv = .bool true ∧ ev = .int .i64 0 ∧ TokAt (w.alloc (.cells #[.int .i8 0, .string ⟨#[]⟩, .slice none 0 0] 28)) wx #[.int .i8 1, .string ⟨r.t.toArray⟩, .int .i64 n, .int .i64 m] p)
  case first =>
    go_region_held3 (fun w' => w'.cell? ⟨gr, 0, none⟩ = some (.string s) ∧ w'.cell? ⟨gr, 1, none⟩ = some (.int .i64 a)) (go_keep) (first | (go_at_call 91; refine (next_tokK s a _ hs n hn r ht 1 (by rw [hk]; rfl) m hm).mono ?_; rintro e w1 ⟨rfl, hb1⟩; have e3 : gr ≠ w1.heap.size := Nat.ne_of_lt (Nat.lt_of_lt_of_le (by simp; omega) hb1.size); have e4 := e3.symm; have k0 := hb1.cell (p := ⟨gr, 0, none⟩) (by simp; omega); have k1 := hb1.cell (p := ⟨gr, 1, none⟩) (by simp; omega); have hT0 : Blk w1 (w.heap.size + 1) 118 #[.int .i8 0, .string ⟨#[]⟩, .int .i64 0, .int .i64 0] := (hb1.block _ (by simp)).trans (Blk.new_at (by simp) _ _); obtain ⟨c0, c1, c2, c3⟩ := blk4 hT0; have c4 := hT0.frozen 0; have c5 := hT0.frozen 1; have c6 := hT0.frozen 2; have c7 := hT0.frozen 3) | (go_at_call 91; refine (next_tokK s a _ hs n hn r ht 1 (by rw [hk]; rfl) m hm).mono ?_; rintro e w1 ⟨rfl, hb1⟩; have e3 : gr ≠ w1.heap.size := Nat.ne_of_lt (Nat.lt_of_lt_of_le (by simp; omega) hb1.size); have e4 := e3.symm; have k0 := hb1.cell (p := ⟨gr, 0, none⟩) (by simp; omega); have k1 := hb1.cell (p := ⟨gr, 1, none⟩) (by simp; omega)))
    all_goals go_wp2
    all_goals go_meet
    · exact ⟨rfl, rfl, TokAt.late (below_undrew hb1) _⟩
    · have hq := below_undrew2 hb1
      exact ⟨rfl, rfl, TokAt.early hq (by simp) hT0 _ _ _ _⟩
  case rest =>
    obtain ⟨rfl, rfl, tb, rfl, hT, hBx, htb⟩ := hcut
    have hGc := HG0.out.below hBx HG0.out.lt
    have hRc := HR0.out.below hBx HR0.out.lt
    obtain ⟨x0, x1, x2, f0, f1, f2⟩ := blk3 hRc
    obtain ⟨z0, z1, z2, z3⟩ := blk4 hT
    obtain ⟨g0, g1, g2, _⟩ := blk3 hGc
    have hgR : w.heap.size ≠ gr := by omega
    have HBX := Lib.hid hBx
    have HT := Lib.hid hT
    have HRC := Lib.hid hRc
    have HGC := Lib.hid hGc
    clear hBx hT hRc hGc
    go_wp2_with (go_at_call 92; refine (stop_ok HGC.out 20 n).mono ?_; rintro e w2 ⟨rfl, hb2, hk2⟩; have hR2 := HRC.out.kept hk2 hgR; obtain ⟨x0, x1, x2, f0, f1, f2⟩ := blk3 hR2)
    have hb3 := hR2.set3 (.int .i8 0) (.string ⟨#[]⟩) (.slice none 0 0)
    obtain ⟨y0, y1, y2, _⟩ := blk3 hb3
    have hk := (((((Kept.of_below (S := fun i => i = gr) HB0.out).trans (Kept.of_below (HBX.out.mono (B := (w.alloc (.cells #[.int .i8 0, .string ⟨#[]⟩, .slice none 0 0] 28)).heap.size) (Nat.le_refl _)))).trans hk2).setCell (p := ⟨w.heap.size, 0, none⟩) (.inr (Nat.le_refl _)) (.int .i8 0)).setCell (p := ⟨w.heap.size, 1, none⟩) (.inr (Nat.le_refl _)) (.string ⟨#[]⟩)).setCell (p := ⟨w.heap.size, 2, none⟩) (.inr (Nat.le_refl _)) (.slice none 0 0)
    refine bodyPost_ret (v := .agg #[.int .i8 0, .string ⟨#[]⟩, .slice none 0 0]) ?_ rfl ⟨⟨rfl, ?_⟩, hk⟩
    · simp [results, Tryz.results78, go_sem, y0, y1, y2]
    · exact ((hb2.far (p := ⟨w.heap.size, 0, none⟩) hgR.symm (.int .i8 0)).far (p := ⟨w.heap.size, 1, none⟩) hgR.symm (.string ⟨#[]⟩)).far (p := ⟨w.heap.size, 2, none⟩) hgR.symm (.slice none 0 0)
end Go.Proofs.YtiklliiamljogaaGreatDoor

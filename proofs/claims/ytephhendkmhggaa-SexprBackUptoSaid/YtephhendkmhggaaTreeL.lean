/- read at a list. -/
import Derived.Test.YtephhendkmhggaaTreeI
namespace Go.Proofs.Ytephhendkmhggaa
open Go.RowKit

theorem sexp_info : (Try.prog.info? 26).map (fun i => (i.zero, i.size, i.bytes)) = some (some zeroX, 3, 48) := by kernel_rfl

/-- read, for so much fuel. -/
def ReadAt (s : ByteArray) (m : Nat) : Prop := ∀ (a : Int) (p : Nat) (w : World), startI s a = startL (byts s) p → p ≤ s.size → 2 * (s.size - p) + 1 ≤ m →
  Calls Try.prog 26 #[.string s, .int .i64 a] w fun e w' => RdIs (fun b => w.heap.size ≤ b) w' (readF (byts s) m p) e ∧ Below w.heap.size w w'

/-- The reference's Next where no list ends. -/
theorem rnext_any (s : ByteArray) (hs : s.size ≤ 1000000) (q : Nat) (hq : q ≤ s.size) (hc : closes (byts s) q = none) : ∃ (k : Int) (t : ByteArray) (a b : Int) (ok : Bool) (c : Int),
    (∀ w, Calls Try.prog 39 #[.string s, .int .i64 q] w fun e w' => e = .returned (.tuple #[.agg #[.int .i8 k, .string t, .int .i64 a, .int .i64 b], .bool ok, .int .i64 c]) ∧ Below w.heap.size w w') ∧
    ((c = 20 ∧ ok = false) ∨ (c = 0 ∧ ok = false) ∨ (c = 0 ∧ ok = true ∧ (k == 1) = false)) := by
  have hn := startI_nat s q hq
  by_cases he : (byts s).drop (startL (byts s) q) = []
  · exact ⟨0, ⟨#[]⟩, 0, 0, false, 0, fun w => rnext_eof s q w hs _ hn he, .inr (.inl ⟨rfl, rfl⟩)⟩
  · cases ht : tok ((byts s).drop (startL (byts s) q)) with
    | none => exact ⟨0, ⟨#[]⟩, (startL (byts s) q : Nat), 0, false, 20, fun w => rnext_bad s q w hs _ hn he ht, .inl ⟨rfl, rfl⟩⟩
    | some r =>
      have h1 := closes_none hc ht
      exact ⟨r.k, ⟨r.t.toArray⟩, (startL (byts s) q : Nat), _, true, 0, fun w => rnext_tokK s q w hs _ hn r ht r.k rfl _ rfl, .inr (.inr ⟨rfl, rfl, beq_eq_false_iff_ne.2 (by omega)⟩)⟩

set_option maxHeartbeats 4000000 in
set_option maxRecDepth 100000 in
theorem read_list (s : ByteArray) (N : Nat) (ih : ∀ m, m < N → ReadAt s m) (a : Int) (w : World) (hs : s.size ≤ 1000000) (n : Nat) (hn : startI s a = n) (r : Raw) (ht : tok ((byts s).drop n) = some r) (h0 : r.k = 0)
    (p0 m0 : Nat) (hp0 : n + r.n = p0) (hle : p0 ≤ s.size) (hm0 : m0 < N) (hf : 2 * (s.size - p0) + 2 ≤ m0) :
    Calls Try.prog 26 #[.string s, .int .i64 a] w fun e w' => RdIs (fun b => w.heap.size ≤ b) w' (listF (byts s) m0 p0 []) e ∧ Below w.heap.size w w' := by
  have hb0 := Blk.new w 26 #[.int .i8 0, .string ⟨#[]⟩, .slice none 0 0]
  have hB0 : Below w.heap.size w (w.alloc (.cells #[.int .i8 0, .string ⟨#[]⟩, .slice none 0 0] 26)) := (Below.refl _ w).alloc (Nat.le_refl _) _
  obtain ⟨rd, hrd⟩ : ∃ rd, listF (byts s) m0 p0 [] = rd := ⟨_, rfl⟩
  rw [hrd]
  obtain ⟨R, hR0⟩ : ∃ R, w.heap.size = R := ⟨_, rfl⟩
  have HI := Lib.hid ih
  have HM := Lib.hid hf
  have HD := Lib.hid hrd
  clear ih hf hrd
  go_enter Try.func26, Try.ntmps26
  go_wp2_with (go_at_call 39; refine (rnext_tokK s a _ hs n hn r ht 0 (by rw [h0]; rfl) p0 (by omega)).mono ?_; rintro e w1 ⟨rfl, hb1⟩; have hB := hB0.trans (hb1.mono (by simp)); have hne : w.heap.size ≠ w1.heap.size := Nat.ne_of_lt (Nat.lt_of_lt_of_le (by simp) hb1.size); have hne2 := hne.symm; have hR := (hb0.below hb1 hb0.lt).alloc (.cells #[.int .i8 0, .string ⟨r.t.toArray⟩, .int .i64 n, .int .i64 p0] 62); obtain ⟨x0, x1, x2, f0, f1, f2⟩ := blk3 hR)
  clear x0 x1 x2 f0 f1 f2 hb1 hb0 hB0
  obtain ⟨X, hX⟩ : ∃ X, w1.heap.size + 1 = X := ⟨_, rfl⟩
  obtain ⟨W, hW⟩ : ∃ W, (w1.alloc (.cells #[.int .i8 0, .string ⟨r.t.toArray⟩, .int .i64 n, .int .i64 p0] 62)).alloc (.cells #[.int .i8 3, .string ⟨#[]⟩, .slice none 0 0] 26) = W := ⟨_, rfl⟩
  have hWR : Blk W R 26 #[.int .i8 0, .string ⟨#[]⟩, .slice none 0 0] := by rw [← hW, ← hR0]; exact hR.alloc _
  have hWX : Blk W X 26 #[.int .i8 3, .string ⟨#[]⟩, .slice none 0 0] := by rw [← hW]; exact Blk.new_at (by simp [hX]) _ _
  have hWs : W.heap.size = X + 1 := by rw [← hW, ← hX]; simp
  have hWB : Below R w W := by rw [← hW, ← hR0]; exact (hB.alloc hB.size _).alloc (by simp; have := hB.size; omega) _
  have hRX : R < X := by have := hB.size; omega
  have hsp : p0 ≤ 1000000 := by omega
  have hRXa : R ≠ X := by omega
  have hRXb : X ≠ R := by omega
  try rw [hX]
  try rw [hR0]
  rw [hW]
  clear hR hB hne hne2 hW hX
  go_loopw [1] (fun v wx => ∃ (q m : Nat) (cs : List C3) (xs : List Sx) (sv : Value), v = .int .i64 q ∧ q ≤ s.size ∧ 2 * (s.size - q) + 2 ≤ m ∧ m < N ∧ listF (byts s) m q xs = rd ∧ xs.length ≤ q ∧
    Blk wx R 26 #[.int .i8 0, .string ⟨#[]⟩, .slice none 0 0] ∧ Blk wx X 26 #[.int .i8 3, .string ⟨#[]⟩, sv] ∧ Acc wx (X + 1) sv cs xs ∧ Below R w wx ∧ X + 1 ≤ wx.heap.size) (fun v _ => (s.size - intOf v).toNat)
  case atStart => exact ⟨p0, m0, [], [], .slice none 0 0, rfl, hle, HM.out, hm0, HD.out, Nat.zero_le _, hWR, hWX, Acc.nil _ _, hWB, Nat.le_of_eq hWs.symm⟩
  case round =>
    obtain ⟨q, m, cs, xs, sv, rfl, hq, hfq, hmN, hlf, hxq, hbR, hbX, hacc, hBx, hsz⟩ := hrel
    clear hWR hWX hWs hWB HM HD
    have hsR : R ≤ wr.heap.size := by omega
    obtain ⟨m, rfl⟩ : ∃ m', m = m' + 1 := ⟨m - 1, by omega⟩
    unfold listF at hlf
    cases hc : closes (byts s) q with
    | some q2 =>
      rw [hc] at hlf
      obtain ⟨r2, hr2, hk1, hq2, _, hq3⟩ := closes_some hc (by rw [byts_len]; exact hq)
      rw [byts_len] at hq3
      dsimp only at hlf
      have hn2 := startI_nat s q hq
      obtain ⟨st, hst⟩ : ∃ st, startL (byts s) q = st := ⟨_, rfl⟩
      rw [hst] at hr2 hq2 hn2
      obtain ⟨A, cap, rfl⟩ := own_slice hacc.own
      have HQ := Lib.hid hq2
      have HA := Lib.hid hacc
      have HB := Lib.hid hBx
      have HL := Lib.hid hlf
      have HX := Lib.hid hbX
      have HR := Lib.hid hbR
      clear hacc hBx hlf hbX hbR HI hc hst ht hn h0 hp0 hq2
      go_wp2_with (go_at_call 39; refine (rnext_tokK s q _ hs st hn2 r2 hr2 1 (by rw [hk1]; rfl) q2 (by have := HQ.out; omega)).mono ?_; rintro e w3 ⟨rfl, hb3⟩; have hne : R ≠ w3.heap.size := Nat.ne_of_lt (Nat.lt_of_lt_of_le HR.out.lt hb3.size); have hne2 := hne.symm; have hXne : X ≠ w3.heap.size := Nat.ne_of_lt (Nat.lt_of_lt_of_le HX.out.lt hb3.size); have hXne2 := hXne.symm; have hR := (HR.out.below hb3 HR.out.lt).alloc (.cells #[.int .i8 1, .string ⟨r2.t.toArray⟩, .int .i64 st, .int .i64 q2] 62); obtain ⟨x0, x1, x2, f0, f1, f2⟩ := blk3 hR; have hX := (HX.out.below hb3 HX.out.lt).alloc (.cells #[.int .i8 1, .string ⟨r2.t.toArray⟩, .int .i64 st, .int .i64 q2] 62); obtain ⟨u0, u1, u2, _⟩ := blk3 hX)
      go_region
      go_wp2
      have hb2 := hR.set3 (.int .i8 3) (.string ⟨#[]⟩) (.slice A cs.length cap)
      obtain ⟨y0, y1, y2, _⟩ := blk3 hb2
      have hk := ((((Kept.of_below (S := fun i => i = R) hb3).alloc (.cells #[.int .i8 1, .string ⟨r2.t.toArray⟩, .int .i64 st, .int .i64 q2] 62)).setCell (p := ⟨R, 0, none⟩) (.inl rfl) (.int .i8 3)).setCell (p := ⟨R, 1, none⟩) (.inl rfl) (.string ⟨#[]⟩)).setCell (p := ⟨R, 2, none⟩) (.inl rfl) (.slice A cs.length cap)
      refine bodyPost_ret (v := .tuple #[.agg #[.int .i8 3, .string ⟨#[]⟩, .slice A cs.length cap], .int .i64 q2, .int .i64 0]) ?_ rfl ⟨?_, ?_⟩
      · simp [results, Try.results26, go_sem, y0, y1, y2]
      · rw [← HL.out]
        refine ⟨_, ?_, rfl⟩
        have hl := ((HA.out.lies (by omega)).kept hk (fun b _ h1 h2 => by omega)).mono (S' := fun b => w.heap.size ≤ b) (fun b _ h1 => by omega)
        exact hl.still (Nat.le_refl _) (fun _ _ _ => rfl)
      · have hfin := HB.out.trans (hk.below (B := R) (by omega) (fun i hi => by omega))
        rw [hR0]
        exact ⟨hfin.os, hfin.tape, hfin.output, hfin.size, hfin.block⟩
    | none =>
      rw [hc] at hlf
      obtain ⟨k, t, a1, b1, okk, c, hnx, hcase⟩ := rnext_any s hs q hq hc
      have hRd := fun w => HI.out m (by omega) q q w (startI_nat s q hq) hq (by omega)
      obtain ⟨A, cap, rfl⟩ := own_slice hacc.own
      have HA := Lib.hid hacc
      have HB := Lib.hid hBx
      have HX := Lib.hid hbX
      have HR := Lib.hid hbR
      clear hacc hBx hbX hbR HI hc ht hn h0 hp0
      cases hrd : readF (byts s) m q with
      | err n2 e2 =>
        rw [hrd] at hlf
        have hE : Hid (∀ w, Calls Try.prog 26 #[.string s, .int .i64 q] w fun e w' => e = .returned (.tuple #[.agg #[.int .i8 0, .string ⟨#[]⟩, .slice none 0 0], .int .i64 n2, .int .i64 e2]) ∧ Below w.heap.size w w') := Lib.hid fun w => (hRd w).mono (by rw [hrd]; exact fun e w' h => h)
        have he2 : (e2 != 0) = true := bne_iff_ne.2 (by rcases (rd_err (byts s) m).1 q n2 e2 (by rw [byts_len]; exact hq) (by rw [byts_len]; omega) hrd with h | h <;> omega)
        have HL := Lib.hid hlf
        have HN := Lib.hid hnx
        clear hRd hrd hlf hnx
        rcases hcase with ⟨rfl, rfl⟩ | ⟨rfl, rfl⟩ | ⟨rfl, rfl, bk⟩
        all_goals
          go_wp2_with (first
            | (go_at_call 39; refine (HN.out _).mono ?_; rintro e w3 ⟨rfl, hb3⟩; have hR3 := (HR.out.below hb3 HR.out.lt).alloc (.cells #[.int .i8 k, .string t, .int .i64 a1, .int .i64 b1] 62); have hs3 : R ≤ w3.heap.size := Nat.le_trans hsR hb3.size; have hB3 := (HB.out.trans (hb3.mono hsR)).alloc hs3 (.cells #[.int .i8 k, .string t, .int .i64 a1, .int .i64 b1] 62))
            | (go_at_call 26; refine (hE.out _).mono ?_; rintro e w4 ⟨rfl, hb4⟩; have hR := (hR3.below hb4 hR3.lt).alloc (.cells #[.int .i8 0, .string ⟨#[]⟩, .slice none 0 0] 26); obtain ⟨x0, x1, x2, f0, f1, f2⟩ := blk3 hR; have hne : R ≠ w4.heap.size := Nat.ne_of_lt (Nat.lt_of_lt_of_le hR3.lt hb4.size); have hne2 := hne.symm))
        all_goals
          have hb2 := hR.set3 (.int .i8 0) (.string ⟨#[]⟩) (.slice none 0 0)
          obtain ⟨y0, y1, y2, _⟩ := blk3 hb2
          refine bodyPost_ret (v := .tuple #[zeroX, .int .i64 n2, .int .i64 e2]) ?_ rfl ⟨?_, ?_⟩
          · simp [zeroX, results, Try.results26, go_sem, y0, y1, y2]
          · rw [← HL.out]
            rfl
          · have hs4 : R ≤ (w3.alloc (.cells #[.int .i8 k, .string t, .int .i64 a1, .int .i64 b1] 62)).heap.size := Nat.le_trans hs3 (by simp)
            have hB4 := (hB3.trans (hb4.mono hs4)).alloc (Nat.le_trans hs4 hb4.size) (.cells #[.int .i8 0, .string ⟨#[]⟩, .slice none 0 0] 26)
            have hfin := ((hB4.setCell (p := ⟨R, 0, none⟩) (Nat.le_refl _) (.int .i8 0)).setCell (p := ⟨R, 1, none⟩) (Nat.le_refl _) (.string ⟨#[]⟩)).setCell (p := ⟨R, 2, none⟩) (Nat.le_refl _) (.slice none 0 0)
            rw [hR0]
            exact ⟨hfin.os, hfin.tape, hfin.output, hfin.size, hfin.block⟩
      | ok x q3 =>
        rw [hrd] at hlf
        have hE : Hid (∀ w, Calls Try.prog 26 #[.string s, .int .i64 q] w fun e w' => (∃ y : C3, Lies (fun b => w.heap.size ≤ b) w' y.val x ∧ e = .returned (.tuple #[.agg #[.int .i8 y.k, .string y.t, .slice y.A y.n y.c], .int .i64 q3, .int .i64 0])) ∧ Below w.heap.size w w') := Lib.hid fun w => (hRd w).mono (by
          rw [hrd]
          rintro e w' ⟨⟨v, hl, rfl⟩, hb⟩
          obtain ⟨y, rfl⟩ := hl.c3
          exact ⟨⟨y, hl, rfl⟩, hb⟩)
        have hq3 := (rd_ok (byts s) m).1 q x q3 (by rw [byts_len]; exact hq) hrd
        rw [byts_len] at hq3
        have HL := Lib.hid hlf
        have HN := Lib.hid hnx
        clear hRd hrd hlf hnx
        have hlen := HA.out.len
        have hcs : (cs.length + 1) * 48 ≤ 140737488355328 := by omega
        clear hlen
        obtain ⟨i0, hi, hz0, hz1, hz2⟩ := info_parts sexp_info
        rcases hcase with ⟨rfl, rfl⟩ | ⟨rfl, rfl⟩ | ⟨rfl, rfl, bk⟩
        all_goals
          go_wp2_with (first
            | (go_at_call 39; refine (HN.out _).mono ?_; rintro e w3 ⟨rfl, hb3⟩; have hk3 := (Kept.of_below (S := fun _ => False) hb3).alloc (.cells #[.int .i8 k, .string t, .int .i64 a1, .int .i64 b1] 62))
            | (go_at_call 26; refine (hE.out _).mono ?_; rintro e w4 ⟨⟨y, hly, rfl⟩, hb4⟩; have hk4 := (hk3.trans (Kept.of_below (S := fun _ => False) hb4)).alloc (.cells #[.int .i8 y.k, .string y.t, .slice y.A y.n y.c] 26); have hX4 := HX.out.kept hk4 (fun h => h); have hA4 := HA.out.kept hk4 (fun _ _ _ h => h); obtain ⟨u0, u1, u2, _⟩ := blk3 hX4; have HLY := Lib.hid hly; clear hly)
            | (at_builtin; have z1 := hA4.own.alloc (.cells #[.int .i8 y.k, .string y.t, .slice y.A y.n y.c] 26); have z2 : Blk ((w4.alloc (.cells #[.int .i8 y.k, .string y.t, .slice y.A y.n y.c] 26)).alloc (.cells #[.int .i8 y.k, .string y.t, .slice y.A y.n y.c] 26)) (w4.heap.size + 1) 26 #[.int .i8 y.k, .string y.t, .slice y.A y.n y.c] := Blk.new_at (by simp) _ _; have z4 : ∀ u ∈ (#[Value.int .i8 y.k, .string y.t, .slice y.A y.n y.c] : Array Value).toList, u.oneCell' = true := (by simp [Value.oneCell']); have z3 : X + 1 ≤ w4.heap.size + 1 := (by have := hb4.size; have := hk3.size; omega); refine list_push _ rfl (.tmp 83) (.tmp 85) 24 rfl (X + 1) 26 i0 zeroX 3 48 Try.underlying24 hi hz0 hz1 hz2 rfl (by decide) (.slice A cs.length cap) cs.length (cs.flatMap C3.cells) rfl z1 (w4.heap.size + 1) #[.int .i8 y.k, .string y.t, .slice y.A y.n y.c] rfl z2 rfl z4 hcs (by decide) z3 ?_; intro g cap2 w5 hown hgrow hat hlt5; have hX5 := (hX4.alloc (.cells #[.int .i8 y.k, .string y.t, .slice y.A y.n y.c] 26)).grown hgrow (fun h => by have := (hA4.own.lt X h.symm).1; omega); obtain ⟨v0, v1, v2, g0, g1, g2⟩ := blk3 hX5))
        all_goals
          go_roundw
          case rel =>
            have hbb : Below (w4.alloc (.cells #[.int .i8 y.k, .string y.t, .slice y.A y.n y.c] 26)).heap.size (w4.alloc (.cells #[.int .i8 y.k, .string y.t, .slice y.A y.n y.c] 26)) ((w4.alloc (.cells #[.int .i8 y.k, .string y.t, .slice y.A y.n y.c] 26)).alloc (.cells #[.int .i8 y.k, .string y.t, .slice y.A y.n y.c] 26)) := (Below.refl _ _).alloc (Nat.le_refl _) _
            have hb44 : Below w4.heap.size w4 ((w4.alloc (.cells #[.int .i8 y.k, .string y.t, .slice y.A y.n y.c] 26)).alloc (.cells #[.int .i8 y.k, .string y.t, .slice y.A y.n y.c] 26)) := ((Below.refl _ w4).alloc (Nat.le_refl _) _).alloc (by simp) _
            have hsz3 : X + 1 ≤ (w3.alloc (.cells #[.int .i8 k, .string t, .int .i64 a1, .int .i64 b1] 62)).heap.size := Nat.le_trans hsz hk3.size
            have hAc := ((HA.out.kept hk3 (fun _ _ _ h => h)).child hsz3 HLY.out).keep hb44
            have hA5 := ((hA4.keep hbb).push (y := y) hAc hown hgrow hat).kept (Kept.set1 w5 X 2 (.slice (some ⟨g, 0, none⟩) (cs.length + 1) cap2)) (fun b h1 _ h2 => by omega)
            have hk6 : Kept (fun i => X ≤ i) wr (w5.setCell ⟨X, 2, none⟩ (.slice (some ⟨g, 0, none⟩) (cs.length + 1) cap2)) := ((((hk4.mono (S' := fun i => X ≤ i) (fun _ _ h => h.elim)).alloc _).grown hgrow (fun i hi => .inl (Nat.le_of_succ_le (hA4.own.lt i hi).1))).setCell (p := ⟨X, 2, none⟩) (.inl (Nat.le_refl X)) _)
            refine ⟨q3, m, cs ++ [y], xs ++ [x], _, rfl, hq3.2, by omega, by omega, HL.out, ?_, HR.out.kept hk6 (by omega), hX5.set_ 2 _, ?_, HB.out.trans (hk6.below hsR (fun i hi => by omega)), Nat.le_trans hsz hk6.size⟩
            · rw [List.length_append, List.length_singleton]; omega
            · exact hA5
          case measure => simp only [intOf]; omega
end Go.Proofs.Ytephhendkmhggaa

/- read, whole. -/
namespace Go.Proofs.Ytephhendkmhggaa
open Go.RowKit

theorem byts_drop_nil {s : ByteArray} {n : Nat} (h : (byts s).drop n = []) (hn : n ≤ s.size) : n = s.size := by
  have := congrArg List.length h
  rw [List.length_drop, byts_len] at this
  simp at this
  omega
theorem read_at (s : ByteArray) (hs : s.size ≤ 1000000) : ∀ m, ReadAt s m := by
  intro m
  induction m using Nat.strongRecOn with
  | ind m ih =>
  intro a p w hst hp hf
  obtain ⟨m, rfl⟩ : ∃ m', m = m' + 1 := ⟨m - 1, by omega⟩
  have hle := startL_le (byts s) p (by rw [byts_len]; exact hp)
  have hge := startL_ge (byts s) p
  rw [byts_len] at hle
  unfold readF
  obtain ⟨n, hn⟩ : ∃ n, startL (byts s) p = n := ⟨_, rfl⟩
  rw [hn] at hst hle hge ⊢
  by_cases he : (byts s).drop n = []
  · rw [if_pos he, byts_len]
    exact read_eof s a w hs n hst he
  · rw [if_neg he]
    cases ht : tok ((byts s).drop n) with
    | none => exact read_bad s a w hs n hst he ht
    | some r =>
      dsimp only
      have hl := tok_len ht
      rw [List.length_drop, byts_len] at hl
      by_cases h1 : r.k = 1
      · rw [if_pos h1]
        exact read_close s a w hs n hst r ht h1
      · rw [if_neg h1]
        by_cases h0 : r.k = 0
        · rw [if_pos h0]
          exact read_list s (m + 1) ih a w hs n hst r ht h0 (n + r.n) m rfl (by omega) (by omega) (by omega)
        · rw [if_neg h0]
          exact (read_leaf s a w hs n hst r ht h0 h1).mono fun e w' h => ⟨⟨_, Lies.leaf _ _ _ _, h.1⟩, h.2⟩
end Go.Proofs.Ytephhendkmhggaa

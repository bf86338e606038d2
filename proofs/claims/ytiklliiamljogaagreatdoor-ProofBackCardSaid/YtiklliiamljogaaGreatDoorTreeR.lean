/- one, whole; Read, both. -/
import Derived.Test.YtiklliiamljogaaGreatDoorTreeO
namespace Go.Proofs.YtiklliiamljogaaGreatDoor
open Go.RowKit

theorem tok_kind {l : List UInt8} {r : Raw} (h : tok l = some r) : r.k = 0 ∨ r.k = 1 ∨ r.k = 2 ∨ r.k = 3 ∨ r.k = 4 := by
  cases l with
  | nil => cases h
  | cons c m =>
    rw [tok_cons] at h
    split at h
    · rw [raw_eq h]; exact .inl rfl
    · rw [raw_eq h]; exact .inr (.inl rfl)
    · unfold tokBar at h
      split at h
      · simp only at h
        split at h
        · rw [raw_eq h]; exact .inr (.inr (.inl rfl))
        · cases h
      · cases h
    · rw [tokKey_eq h]; exact .inr (.inr (.inr (.inr rfl)))
    · unfold tokNum at h
      simp only at h
      split at h
      · rw [raw_eq h]; exact .inr (.inr (.inr (.inl rfl)))
      · cases h
    · unfold tokName at h
      rw [raw_eq h]; exact .inr (.inr (.inl rfl))
    · cases h
theorem one_at (s : ByteArray) (hs : s.size ≤ 1000000) : ∀ m, OneAt s m := by
  intro m
  induction m using Nat.strongRecOn with
  | ind m ih =>
  intro a p w gr hg hst hp hf
  obtain ⟨m, rfl⟩ : ∃ m', m = m' + 1 := ⟨m - 1, by omega⟩
  have hle := startL_le (byts s) p (by rw [byts_len]; exact hp)
  have hge := startL_ge (byts s) p
  rw [byts_len] at hle
  unfold readF
  obtain ⟨n, hn⟩ : ∃ n, startL (byts s) p = n := ⟨_, rfl⟩
  rw [hn] at hst hle hge ⊢
  by_cases he : (byts s).drop n = []
  · rw [if_pos he, byts_len]
    exact one_eof s a w gr hg hs n hst he
  · rw [if_neg he]
    cases ht : tok ((byts s).drop n) with
    | none => exact one_bad s a w gr hg hs n hst he ht
    | some r =>
      dsimp only
      have hl := tok_len ht
      rw [List.length_drop, byts_len] at hl
      by_cases h1 : r.k = 1
      · rw [if_pos h1]
        exact one_close s a w gr hg hs n hst r ht h1
      · rw [if_neg h1]
        by_cases h0 : r.k = 0
        · rw [if_pos h0]
          exact one_list s (m + 1) ih a w gr hg hs n hst r ht h0 (n + r.n) m rfl (by omega) (by omega) (by omega)
        · rw [if_neg h0]
          have fin : ∀ (e : Ending) (w' : World), ((e = .returned (.agg #[.int .i8 (leafK r.k), .string ⟨r.t.toArray⟩, .slice none 0 0]) ∧ Blk w' gr 108 #[.string s, .int .i64 (n + r.n : Nat), .int .i64 0]) ∧ Kept (fun i => i = gr) w w') →
            OneIs (fun b => w.heap.size ≤ b) gr s w' (.ok (.mk (leafK r.k) r.t []) (n + r.n)) e ∧ Kept (fun i => i = gr) w w' := fun e w' h => ⟨⟨⟨_, Lies.leaf _ _ _ _, h.1.1⟩, h.1.2⟩, h.2⟩
          have hk := tok_kind ht
          rcases hk with hk | hk | hk | hk | hk
          · exact absurd hk h0
          · exact absurd hk h1
          · exact (one_name s a w gr hg hs n hst r ht hk).mono fin
          · exact (one_num s a w gr hg hs n hst r ht hk).mono fin
          · exact (one_key s a w gr hg hs n hst r ht hk).mono fin

theorem rd_depth (L : List UInt8) : ∀ f, (∀ p x q, p ≤ L.length → readF L f p = .ok x q → x.depth + p ≤ q) ∧ (∀ p0 p acc x q, p ≤ L.length → Sx.depths acc + p0 ≤ p → listF L f p acc = .ok x q → x.depth + p0 ≤ q)
  | 0 => ⟨fun p x q _ h => by simp [readF] at h, fun p0 p acc x q _ _ h => by simp [listF] at h⟩
  | f + 1 => by
    obtain ⟨ih1, ih2⟩ := rd_depth L f
    refine ⟨fun p x q hp h => ?_, fun p0 p acc x q hp ha h => ?_⟩
    · unfold readF at h
      split at h
      · cases h
      · split at h
        · cases h
        · rename_i r hr
          have hl := tok_len hr
          have := startL_le L p hp
          have := startL_ge L p
          rw [List.length_drop] at hl
          split at h
          · cases h
          · split at h
            · exact ih2 p _ _ _ _ (by omega) (by simp [Sx.depths]; omega) h
            · injection h with h1 h2
              subst h1
              have : (Sx.mk (leafK r.k) r.t []).depth ≤ 1 := by unfold Sx.depth; split <;> simp [Sx.depths]
              omega
    · unfold listF at h
      split at h
      · rename_i q' hq
        injection h with h1 h2
        obtain ⟨_, _, _, _, h3, h4⟩ := closes_some hq hp
        subst h1
        have : (Sx.mk 3 [] acc).depth = Sx.depths acc + 1 := by unfold Sx.depth; rw [if_pos rfl]
        omega
      · split at h
        · rename_i y q' hy
          have h1 := ih1 _ _ _ hp hy
          have h3 := (rd_ok L f).1 _ _ _ hp hy
          exact ih2 p0 _ _ _ _ h3.2 (by rw [depths_snoc]; omega) h
        · cases h
def readP (L : List UInt8) (p : Nat) : Rd := readF L (2 * (L.length - p) + 1) p
/-- What Read hands over. -/
def topP (L : List UInt8) (p : Nat) : Rd := match readP L p with
  | .ok x q => if 60 < x.depth then .err q 22 else .ok x q
  | .err n e => .err n e
theorem startI_from (s : ByteArray) (a : Int) : startI s a = startL (byts s) (fromI a s.size) := rfl
end Go.Proofs.YtiklliiamljogaaGreatDoor

/- Read, the reference's. -/
namespace Go.Proofs.YtiklliiamljogaaGreatDoor
open Go.RowKit

theorem read_way (s : ByteArray) (a : Int) (hs : s.size ≤ 1000000) (w : World) : Calls Tryz.prog 81 #[.string s, .int .i64 a] w fun e w' => RdIs (fun b => w.heap.size ≤ b) w' (readP (byts s) (fromI a s.size)) e ∧ Below w.heap.size w w' :=
  read_at s hs _ a (fromI a s.size) w rfl (fromI_le a s.size) (by rw [byts_len]; exact Nat.le_refl _)
theorem readP_err {L : List UInt8} {p n : Nat} {e : Int} (hp : p ≤ L.length) (h : readP L p = .err n e) : (e == 0) = false := by
  rcases (rd_err L _).1 p n e hp (Nat.le_refl _) h with h | h <;> subst h <;> rfl
theorem readP_depth {L : List UInt8} {p q : Nat} {x : Sx} (hp : p ≤ L.length) (h : readP L p = .ok x q) : x.depth ≤ L.length := by
  have h1 := (rd_depth L _).1 p x q hp h
  have h2 := (rd_ok L _).1 p x q hp h
  omega

set_option maxHeartbeats 1000000 in
set_option maxRecDepth 100000 in
theorem rRead_neg (s : ByteArray) (a : Int) (w : World) (ha : a < 0) : Calls Tryz.prog 65 #[.string s, .int .i64 a] w fun e w' => RdIs (fun b => w.heap.size ≤ b) w' (.err 0 2) e ∧ Below w.heap.size w w' := by
  have hb0 := Blk.new w 28 #[.int .i8 0, .string ⟨#[]⟩, .slice none 0 0]
  have hB0 : Below w.heap.size w (w.alloc (.cells #[.int .i8 0, .string ⟨#[]⟩, .slice none 0 0] 28)) := (Below.refl _ w).alloc (Nat.le_refl _) _
  have d1 : decide (a < 0) = true := decide_eq_true ha
  go_enter Tryz.func65, Tryz.ntmps65
  go_wp2
  exact bodyPost_ret (v := .tuple #[zeroX, .int .i64 0, .int .i64 2]) (by simp [zeroX, results, Tryz.results65, go_sem]) rfl ⟨rfl, hB0⟩

set_option maxHeartbeats 1000000 in
set_option maxRecDepth 100000 in
theorem rRead_err (s : ByteArray) (a : Int) (w : World) (ha : ¬ a < 0) (hs : s.size ≤ 1000000) (n : Nat) (c : Int) (h : readP (byts s) (fromI a s.size) = .err n c) : Calls Tryz.prog 65 #[.string s, .int .i64 a] w fun e w' => RdIs (fun b => w.heap.size ≤ b) w' (.err n c) e ∧ Below w.heap.size w w' := by
  have bc := readP_err (by rw [byts_len]; exact fromI_le a s.size) h
  have hE : Hid (∀ w, Calls Tryz.prog 81 #[.string s, .int .i64 a] w fun e w' => e = .returned (.tuple #[.agg #[.int .i8 0, .string ⟨#[]⟩, .slice none 0 0], .int .i64 n, .int .i64 c]) ∧ Below w.heap.size w w') := Lib.hid fun w => (read_way s a hs w).mono (by rw [h]; exact fun e w' h => h)
  have hb0 := Blk.new w 28 #[.int .i8 0, .string ⟨#[]⟩, .slice none 0 0]
  have hB0 : Below w.heap.size w (w.alloc (.cells #[.int .i8 0, .string ⟨#[]⟩, .slice none 0 0] 28)) := (Below.refl _ w).alloc (Nat.le_refl _) _
  have d1 : decide (a < 0) = false := decide_eq_false ha
  clear h
  go_enter Tryz.func65, Tryz.ntmps65
  go_wp2_with (go_at_call 81; refine (hE.out _).mono ?_; rintro e w1 ⟨rfl, hb1⟩; have hR := (hb0.below hb1 hb0.lt).alloc (.cells #[.int .i8 0, .string ⟨#[]⟩, .slice none 0 0] 28); have hs1 : w.heap.size ≤ w1.heap.size := Nat.le_trans hB0.size hb1.size; have hB1 := (hB0.trans (hb1.mono (by simp))).alloc hs1 (.cells #[.int .i8 0, .string ⟨#[]⟩, .slice none 0 0] 28); have hne : w.heap.size ≠ w1.heap.size := Nat.ne_of_lt (Nat.lt_of_lt_of_le (by simp) hb1.size); have hne2 := hne.symm; obtain ⟨x0, x1, x2, f0, f1, f2⟩ := blk3 hR)
  have hb3 := hR.set3 (.int .i8 0) (.string ⟨#[]⟩) (.slice none 0 0)
  obtain ⟨y0, y1, y2, _⟩ := blk3 hb3
  have hk5 := (((hB1).setCell (p := ⟨w.heap.size, 0, none⟩) (Nat.le_refl _) (.int .i8 0)).setCell (p := ⟨w.heap.size, 1, none⟩) (Nat.le_refl _) (.string ⟨#[]⟩)).setCell (p := ⟨w.heap.size, 2, none⟩) (Nat.le_refl _) (.slice none 0 0)
  refine bodyPost_ret (v := .tuple #[zeroX, .int .i64 n, .int .i64 c]) ?_ rfl ⟨rfl, ⟨hk5.os, hk5.tape, hk5.output, hk5.size, hk5.block⟩⟩
  simp [zeroX, results, Tryz.results65, go_sem, y0, y1, y2]

set_option maxHeartbeats 1000000 in
set_option maxRecDepth 100000 in
theorem rRead_ok (s : ByteArray) (a : Int) (w : World) (ha : ¬ a < 0) (hs : s.size ≤ 1000000) (x : Sx) (n : Nat) (h : readP (byts s) (fromI a s.size) = .ok x n) : Calls Tryz.prog 65 #[.string s, .int .i64 a] w fun e w' => RdIs (fun b => w.heap.size ≤ b) w' (if 60 < x.depth then .err n 22 else .ok x n) e ∧ Below w.heap.size w w' := by
  have hdp := readP_depth (by rw [byts_len]; exact fromI_le a s.size) h
  rw [byts_len] at hdp
  have hE : Hid (∀ w, Calls Tryz.prog 81 #[.string s, .int .i64 a] w fun e w' => (∃ y : C3, Lies (fun b => w.heap.size ≤ b) w' y.val x ∧ e = .returned (.tuple #[.agg #[.int .i8 y.k, .string y.t, .slice y.A y.n y.c], .int .i64 n, .int .i64 0])) ∧ Below w.heap.size w w') := Lib.hid fun w => (read_way s a hs w).mono (by
    rw [h]
    rintro e w' ⟨⟨v, hl, rfl⟩, hb⟩
    obtain ⟨y, rfl⟩ := hl.c3
    exact ⟨⟨y, hl, rfl⟩, hb⟩)
  have hb0 := Blk.new w 28 #[.int .i8 0, .string ⟨#[]⟩, .slice none 0 0]
  have hB0 : Below w.heap.size w (w.alloc (.cells #[.int .i8 0, .string ⟨#[]⟩, .slice none 0 0] 28)) := (Below.refl _ w).alloc (Nat.le_refl _) _
  have d1 : decide (a < 0) = false := decide_eq_false ha
  have hDO := Lib.hid (fun v w => rdepth_ok (S := fun b => True) x (by omega) v w)
  obtain ⟨dx, hdx⟩ : ∃ dx, x.depth = dx := ⟨_, rfl⟩
  rw [hdx] at hDO ⊢
  clear h hdp hdx
  by_cases h60 : 60 < dx
  · rw [if_pos h60]
    have d2 : decide ((60 : Int) < dx) = true := decide_eq_true (by omega)
    go_enter Tryz.func65, Tryz.ntmps65
    go_wp2_with (first
      | (go_at_call 81; refine (hE.out _).mono ?_; rintro e w1 ⟨⟨y, hly, rfl⟩, hb1⟩; have hR1 := (hb0.below hb1 hb0.lt).alloc (.cells #[.int .i8 y.k, .string y.t, .slice y.A y.n y.c] 28); have hs1 : w.heap.size ≤ w1.heap.size := Nat.le_trans hB0.size hb1.size; have hB1 := (hB0.trans (hb1.mono (by simp))).alloc hs1 (.cells #[.int .i8 y.k, .string y.t, .slice y.A y.n y.c] 28); have HLY := Lib.hid (((hly.mono (fun _ _ _ => True.intro)).keep ((Below.refl _ w1).alloc (Nat.le_refl _) (.cells #[.int .i8 y.k, .string y.t, .slice y.A y.n y.c] 28)) : Lies (fun _ => True) (w1.alloc (.cells #[.int .i8 y.k, .string y.t, .slice y.A y.n y.c] 28)) y.val x)); clear hly)
      | (go_at_call 82; refine (hDO.out _ _ HLY.out).mono ?_; rintro e w2 ⟨rfl, hb2⟩; have hR := hR1.below hb2 hR1.lt; obtain ⟨x0, x1, x2, f0, f1, f2⟩ := blk3 hR))
    have hs2 : w.heap.size ≤ (w1.alloc (.cells #[.int .i8 y.k, .string y.t, .slice y.A y.n y.c] 28)).heap.size := Nat.le_trans hs1 (by simp)
    have hb3 := hR.set3 (.int .i8 0) (.string ⟨#[]⟩) (.slice none 0 0)
    obtain ⟨y0, y1, y2, _⟩ := blk3 hb3
    have hk5 := (((hB1.trans (hb2.mono hs2)).setCell (p := ⟨w.heap.size, 0, none⟩) (Nat.le_refl _) (.int .i8 0)).setCell (p := ⟨w.heap.size, 1, none⟩) (Nat.le_refl _) (.string ⟨#[]⟩)).setCell (p := ⟨w.heap.size, 2, none⟩) (Nat.le_refl _) (.slice none 0 0)
    refine bodyPost_ret (v := .tuple #[zeroX, .int .i64 n, .int .i64 22]) ?_ rfl ⟨rfl, ⟨hk5.os, hk5.tape, hk5.output, hk5.size, hk5.block⟩⟩
    simp [zeroX, results, Tryz.results65, go_sem, y0, y1, y2]
  · rw [if_neg h60]
    have d2 : decide ((60 : Int) < dx) = false := decide_eq_false (by omega)
    go_enter Tryz.func65, Tryz.ntmps65
    go_wp2_with (first
      | (go_at_call 81; refine (hE.out _).mono ?_; rintro e w1 ⟨⟨y, hly, rfl⟩, hb1⟩; have hR1 := (hb0.below hb1 hb0.lt).alloc (.cells #[.int .i8 y.k, .string y.t, .slice y.A y.n y.c] 28); have hs1 : w.heap.size ≤ w1.heap.size := Nat.le_trans hB0.size hb1.size; have hB1 := (hB0.trans (hb1.mono (by simp))).alloc hs1 (.cells #[.int .i8 y.k, .string y.t, .slice y.A y.n y.c] 28); have hY1 := Blk.new w1 28 #[.int .i8 y.k, .string y.t, .slice y.A y.n y.c]; have HLY := Lib.hid (((hly.mono (fun _ _ _ => True.intro)).keep ((Below.refl _ w1).alloc (Nat.le_refl _) (.cells #[.int .i8 y.k, .string y.t, .slice y.A y.n y.c] 28)) : Lies (fun _ => True) (w1.alloc (.cells #[.int .i8 y.k, .string y.t, .slice y.A y.n y.c] 28)) y.val x)); have HL2 := Lib.hid hly; clear hly)
      | (go_at_call 82; refine (hDO.out _ _ HLY.out).mono ?_; rintro e w2 ⟨rfl, hb2⟩; have hR := hR1.below hb2 hR1.lt; have hY := hY1.below hb2 hY1.lt; obtain ⟨x0, x1, x2, f0, f1, f2⟩ := blk3 hR; obtain ⟨v0, v1, v2, _⟩ := blk3 hY))
    have hs2 : w.heap.size ≤ (w1.alloc (.cells #[.int .i8 y.k, .string y.t, .slice y.A y.n y.c] 28)).heap.size := Nat.le_trans hs1 (by simp)
    have hkk := (((Kept.of_below (S := fun i => i = w.heap.size) ((Below.refl _ w1).alloc (Nat.le_refl _) (.cells #[.int .i8 y.k, .string y.t, .slice y.A y.n y.c] 28))).trans (Kept.of_below hb2)).setCell (p := ⟨w.heap.size, 0, none⟩) (.inl rfl) (.int .i8 y.k)).setCell (p := ⟨w.heap.size, 1, none⟩) (.inl rfl) (.string y.t) |>.setCell (p := ⟨w.heap.size, 2, none⟩) (.inl rfl) (.slice y.A y.n y.c)
    have hb3 := hR.set3 (.int .i8 y.k) (.string y.t) (.slice y.A y.n y.c)
    obtain ⟨y0, y1, y2, _⟩ := blk3 hb3
    have hk5 := (((hB1.trans (hb2.mono hs2)).setCell (p := ⟨w.heap.size, 0, none⟩) (Nat.le_refl _) (.int .i8 y.k)).setCell (p := ⟨w.heap.size, 1, none⟩) (Nat.le_refl _) (.string y.t)).setCell (p := ⟨w.heap.size, 2, none⟩) (Nat.le_refl _) (.slice y.A y.n y.c)
    refine bodyPost_ret (v := .tuple #[.agg #[.int .i8 y.k, .string y.t, .slice y.A y.n y.c], .int .i64 n, .int .i64 0]) ?_ rfl ⟨⟨_, ((HL2.out.kept hkk (fun b _ h1 h2 => by have h3 : w.heap.size + 1 ≤ b := (by simpa using h1); omega)).mono (fun b _ h1 => Nat.le_trans hB0.size h1)), rfl⟩, ⟨hk5.os, hk5.tape, hk5.output, hk5.size, hk5.block⟩⟩
    simp [results, Tryz.results65, go_sem, y0, y1, y2]

theorem rRead (s : ByteArray) (a : Int) (w : World) (hs : s.size ≤ 1000000) : Calls Tryz.prog 65 #[.string s, .int .i64 a] w fun e w' => RdIs (fun b => w.heap.size ≤ b) w' (if a < 0 then .err 0 2 else topP (byts s) (fromI a s.size)) e ∧ Below w.heap.size w w' := by
  by_cases ha : a < 0
  · rw [if_pos ha]
    exact rRead_neg s a w ha
  · rw [if_neg ha]
    unfold topP
    cases h : readP (byts s) (fromI a s.size) with
    | ok x n => exact rRead_ok s a w ha hs x n h
    | err n c => exact rRead_err s a w ha hs n c h
end Go.Proofs.YtiklliiamljogaaGreatDoor

/- Read. -/
namespace Go.Proofs.YtiklliiamljogaaGreatDoor
open Go.RowKit

theorem one_way (s : ByteArray) (a : Int) (hs : s.size ≤ 1000000) (w : World) (gr : Nat) (hg : Blk w gr 108 #[.string s, .int .i64 a, .int .i64 0]) : Calls Tryz.prog 78 #[.pointer (some ⟨gr, 0, none⟩)] w fun e w' => OneIs (fun b => w.heap.size ≤ b) gr s w' (readP (byts s) (fromI a s.size)) e ∧ Kept (fun i => i = gr) w w' :=
  one_at s hs _ a (fromI a s.size) w gr hg rfl (fromI_le a s.size) (by rw [byts_len]; exact Nat.le_refl _)

set_option maxHeartbeats 1000000 in
set_option maxRecDepth 100000 in
theorem Read_neg (s : ByteArray) (a : Int) (w : World) (ha : a < 0) : Calls Tryz.prog 63 #[.string s, .int .i64 a] w fun e w' => RdIs (fun b => w.heap.size ≤ b) w' (.err 0 2) e ∧ Below w.heap.size w w' := by
  have hb0 := Blk.new w 28 #[.int .i8 0, .string ⟨#[]⟩, .slice none 0 0]
  have hB0 : Below w.heap.size w (w.alloc (.cells #[.int .i8 0, .string ⟨#[]⟩, .slice none 0 0] 28)) := (Below.refl _ w).alloc (Nat.le_refl _) _
  have d1 : decide (a < 0) = true := decide_eq_true ha
  go_enter Tryz.func63, Tryz.ntmps63
  go_wp2
  exact bodyPost_ret (v := .tuple #[zeroX, .int .i64 0, .int .i64 2]) (by simp [zeroX, results, Tryz.results63, go_sem]) rfl ⟨rfl, hB0⟩

set_option maxHeartbeats 1000000 in
set_option maxRecDepth 100000 in
theorem Read_err (s : ByteArray) (a : Int) (w : World) (ha : ¬ a < 0) (hs : s.size ≤ 1000000) (n : Nat) (c : Int) (h : readP (byts s) (fromI a s.size) = .err n c) : Calls Tryz.prog 63 #[.string s, .int .i64 a] w fun e w' => RdIs (fun b => w.heap.size ≤ b) w' (.err n c) e ∧ Below w.heap.size w w' := by
  have bc := readP_err (by rw [byts_len]; exact fromI_le a s.size) h
  obtain ⟨W, hW⟩ : ∃ W, (w.alloc (.cells #[.int .i8 0, .string ⟨#[]⟩, .slice none 0 0] 28)).alloc (.cells #[.string s, .int .i64 a, .int .i64 0] 108) = W := ⟨_, rfl⟩
  have hWR : Blk W w.heap.size 28 #[.int .i8 0, .string ⟨#[]⟩, .slice none 0 0] := hW ▸ (Blk.new w _ _).alloc _
  have hWG : Blk W (w.heap.size + 1) 108 #[.string s, .int .i64 a, .int .i64 0] := hW ▸ Blk.new_at (by simp) _ _
  have hWs : W.heap.size = w.heap.size + 2 := by rw [← hW]; simp
  have hWB : Below w.heap.size w W := hW ▸ ((Below.refl _ w).alloc (Nat.le_refl _) _).alloc (by simp) _
  have hne : w.heap.size ≠ w.heap.size + 1 := by omega
  have hne2 := hne.symm
  have hE : Calls Tryz.prog 78 #[.pointer (some ⟨w.heap.size + 1, 0, none⟩)] W fun e w' => (e = .returned (.agg #[.int .i8 0, .string ⟨#[]⟩, .slice none 0 0]) ∧ Blk w' (w.heap.size + 1) 108 #[.string s, .int .i64 n, .int .i64 c]) ∧ Kept (fun i => i = w.heap.size + 1) W w' := (one_way s a hs W (w.heap.size + 1) hWG).mono (by rw [h]; exact fun e w' h => h)
  have HE := Lib.hid hE
  have d1 : decide (a < 0) = false := decide_eq_false ha
  clear h hE
  subst hW
  go_enter Tryz.func63, Tryz.ntmps63
  go_wp2_with (go_at_call 78; refine HE.out.mono ?_; rintro e w1 ⟨⟨rfl, hG1⟩, hk1⟩; have hR1 := hWR.kept hk1 (by omega); obtain ⟨x0, x1, x2, f0, f1, f2⟩ := blk3 hR1; obtain ⟨g0, g1, g2, _⟩ := blk3 hG1)
  go_region
  go_wp2
  have hR := hR1.set3 (.int .i8 0) (.string ⟨#[]⟩) (.slice none 0 0)
  have hb3 := hR.set3 (.int .i8 0) (.string ⟨#[]⟩) (.slice none 0 0)
  obtain ⟨y0, y1, y2, _⟩ := blk3 hb3
  have hk5 := ((((((((Kept.of_below (S := fun i => i = w.heap.size + 1) hWB).trans hk1).setCell (p := ⟨w.heap.size, 0, none⟩) (.inr (Nat.le_refl _)) (.int .i8 0)).setCell (p := ⟨w.heap.size, 1, none⟩) (.inr (Nat.le_refl _)) (.string ⟨#[]⟩)).setCell (p := ⟨w.heap.size, 2, none⟩) (.inr (Nat.le_refl _)) (.slice none 0 0))).setCell (p := ⟨w.heap.size, 0, none⟩) (.inr (Nat.le_refl _)) (.int .i8 0)).setCell (p := ⟨w.heap.size, 1, none⟩) (.inr (Nat.le_refl _)) (.string ⟨#[]⟩)).setCell (p := ⟨w.heap.size, 2, none⟩) (.inr (Nat.le_refl _)) (.slice none 0 0)
  have hk6 := hk5.below (B := w.heap.size) (Nat.le_refl _) (fun i hi => by omega)
  refine bodyPost_ret (v := .tuple #[zeroX, .int .i64 n, .int .i64 c]) ?_ rfl ?_
  rotate_left
  · exact ⟨rfl, hk6.drew⟩
  simp [zeroX, results, Tryz.results63, go_sem, y0, y1, y2]

set_option maxHeartbeats 1000000 in
set_option maxRecDepth 100000 in
theorem Read_ok (s : ByteArray) (a : Int) (w : World) (ha : ¬ a < 0) (hs : s.size ≤ 1000000) (x : Sx) (n : Nat) (h : readP (byts s) (fromI a s.size) = .ok x n) : Calls Tryz.prog 63 #[.string s, .int .i64 a] w fun e w' => RdIs (fun b => w.heap.size ≤ b) w' (if 60 < x.depth then .err n 22 else .ok x n) e ∧ Below w.heap.size w w' := by
  have hdp := readP_depth (by rw [byts_len]; exact fromI_le a s.size) h
  rw [byts_len] at hdp
  obtain ⟨W, hW⟩ : ∃ W, (w.alloc (.cells #[.int .i8 0, .string ⟨#[]⟩, .slice none 0 0] 28)).alloc (.cells #[.string s, .int .i64 a, .int .i64 0] 108) = W := ⟨_, rfl⟩
  have hWR : Blk W w.heap.size 28 #[.int .i8 0, .string ⟨#[]⟩, .slice none 0 0] := hW ▸ (Blk.new w _ _).alloc _
  have hWG : Blk W (w.heap.size + 1) 108 #[.string s, .int .i64 a, .int .i64 0] := hW ▸ Blk.new_at (by simp) _ _
  have hWs : W.heap.size = w.heap.size + 2 := by rw [← hW]; simp
  have hWB : Below w.heap.size w W := hW ▸ ((Below.refl _ w).alloc (Nat.le_refl _) _).alloc (by simp) _
  have hne : w.heap.size ≠ w.heap.size + 1 := by omega
  have hne2 := hne.symm
  have hE : Calls Tryz.prog 78 #[.pointer (some ⟨w.heap.size + 1, 0, none⟩)] W fun e w' => ((∃ y : C3, Lies (fun b => W.heap.size ≤ b) w' y.val x ∧ e = .returned (.agg #[.int .i8 y.k, .string y.t, .slice y.A y.n y.c])) ∧ Blk w' (w.heap.size + 1) 108 #[.string s, .int .i64 n, .int .i64 0]) ∧ Kept (fun i => i = w.heap.size + 1) W w' := (one_way s a hs W (w.heap.size + 1) hWG).mono (by
    rw [h]
    rintro e w' ⟨⟨⟨v, hl, rfl⟩, hg⟩, hk⟩
    obtain ⟨y, rfl⟩ := hl.c3
    exact ⟨⟨⟨y, hl, rfl⟩, hg⟩, hk⟩)
  have HE := Lib.hid hE
  have d1 : decide (a < 0) = false := decide_eq_false ha
  have hDO := Lib.hid (fun v w => depth_ok (S := fun b => True) x (by omega) v w)
  obtain ⟨dx, hdx⟩ : ∃ dx, x.depth = dx := ⟨_, rfl⟩
  rw [hdx] at hDO ⊢
  clear h hdp hdx hE
  subst hW
  by_cases h60 : 60 < dx
  · rw [if_pos h60]
    have d2 : decide ((60 : Int) < dx) = true := decide_eq_true (by omega)
    go_enter Tryz.func63, Tryz.ntmps63
    go_wp2_with (first
      | (go_at_call 78; refine HE.out.mono ?_; rintro e w1 ⟨⟨⟨y, hly, rfl⟩, hG1⟩, hk1⟩; have hR1 := hWR.kept hk1 (by omega); obtain ⟨x0, x1, x2, f0, f1, f2⟩ := blk3 hR1; obtain ⟨g0, g1, g2, _⟩ := blk3 hG1; have hR2 := hR1.set3 (.int .i8 y.k) (.string y.t) (.slice y.A y.n y.c); have hG2 := ((hG1.far (p := ⟨w.heap.size, 0, none⟩) hne2 (.int .i8 y.k)).far (p := ⟨w.heap.size, 1, none⟩) hne2 (.string y.t)).far (p := ⟨w.heap.size, 2, none⟩) hne2 (.slice y.A y.n y.c); have HL2 := Lib.hid (hly.mono (S' := fun b => w.heap.size + 2 ≤ b) (fun b _ h => by simpa using h)); have hkR := (((Kept.refl (fun i => i = w.heap.size) w1).setCell (p := ⟨w.heap.size, 0, none⟩) (.inl rfl) (.int .i8 y.k)).setCell (p := ⟨w.heap.size, 1, none⟩) (.inl rfl) (.string y.t)).setCell (p := ⟨w.heap.size, 2, none⟩) (.inl rfl) (.slice y.A y.n y.c); have HL3 := Lib.hid ((HL2.out.kept hkR (fun b _ h1 h2 => by omega)).mono (S' := fun _ => True) (fun _ _ _ => True.intro)); clear hly)
      | (go_at_call 79; refine (hDO.out _ _ HL3.out).mono ?_; rintro e w2 ⟨rfl, hb2⟩; have hR3 := hR2.below hb2 hR2.lt; have hG3 := hG2.below hb2 hG2.lt; obtain ⟨x0, x1, x2, f0, f1, f2⟩ := blk3 hR3; obtain ⟨g0, g1, g2, _⟩ := blk3 hG3))
    go_region
    go_wp2
    have hR := hR3
    have hb3 := hR.set3 (.int .i8 0) (.string ⟨#[]⟩) (.slice none 0 0)
    obtain ⟨y0, y1, y2, _⟩ := blk3 hb3
    have hk5 := (((((((((Kept.of_below (S := fun i => i = w.heap.size + 1) hWB).trans hk1).setCell (p := ⟨w.heap.size, 0, none⟩) (.inr (Nat.le_refl _)) (.int .i8 y.k)).setCell (p := ⟨w.heap.size, 1, none⟩) (.inr (Nat.le_refl _)) (.string y.t)).setCell (p := ⟨w.heap.size, 2, none⟩) (.inr (Nat.le_refl _)) (.slice y.A y.n y.c)).trans (Kept.of_below hb2))).setCell (p := ⟨w.heap.size, 0, none⟩) (.inr (Nat.le_refl _)) (.int .i8 0)).setCell (p := ⟨w.heap.size, 1, none⟩) (.inr (Nat.le_refl _)) (.string ⟨#[]⟩)).setCell (p := ⟨w.heap.size, 2, none⟩) (.inr (Nat.le_refl _)) (.slice none 0 0)
    have hk6 := hk5.below (B := w.heap.size) (Nat.le_refl _) (fun i hi => by omega)
    refine bodyPost_ret (v := .tuple #[zeroX, .int .i64 n, .int .i64 22]) ?_ rfl ?_
    rotate_left
    · exact ⟨rfl, hk6.drew⟩
    simp [zeroX, results, Tryz.results63, go_sem, y0, y1, y2]
  · rw [if_neg h60]
    have d2 : decide ((60 : Int) < dx) = false := decide_eq_false (by omega)
    go_enter Tryz.func63, Tryz.ntmps63
    go_wp2_with (first
      | (go_at_call 78; refine HE.out.mono ?_; rintro e w1 ⟨⟨⟨y, hly, rfl⟩, hG1⟩, hk1⟩; have hR1 := hWR.kept hk1 (by omega); obtain ⟨x0, x1, x2, f0, f1, f2⟩ := blk3 hR1; obtain ⟨g0, g1, g2, _⟩ := blk3 hG1; have hR2 := hR1.set3 (.int .i8 y.k) (.string y.t) (.slice y.A y.n y.c); have hG2 := ((hG1.far (p := ⟨w.heap.size, 0, none⟩) hne2 (.int .i8 y.k)).far (p := ⟨w.heap.size, 1, none⟩) hne2 (.string y.t)).far (p := ⟨w.heap.size, 2, none⟩) hne2 (.slice y.A y.n y.c); have HL2 := Lib.hid (hly.mono (S' := fun b => w.heap.size + 2 ≤ b) (fun b _ h => by simpa using h)); have hkR := (((Kept.refl (fun i => i = w.heap.size) w1).setCell (p := ⟨w.heap.size, 0, none⟩) (.inl rfl) (.int .i8 y.k)).setCell (p := ⟨w.heap.size, 1, none⟩) (.inl rfl) (.string y.t)).setCell (p := ⟨w.heap.size, 2, none⟩) (.inl rfl) (.slice y.A y.n y.c); have HL3 := Lib.hid ((HL2.out.kept hkR (fun b _ h1 h2 => by omega)).mono (S' := fun _ => True) (fun _ _ _ => True.intro)); clear hly)
      | (go_at_call 79; refine (hDO.out _ _ HL3.out).mono ?_; rintro e w2 ⟨rfl, hb2⟩; have hR3 := hR2.below hb2 hR2.lt; have hG3 := hG2.below hb2 hG2.lt; obtain ⟨x0, x1, x2, f0, f1, f2⟩ := blk3 hR3; obtain ⟨g0, g1, g2, _⟩ := blk3 hG3))
    go_region
    go_wp2
    have hR := hR3
    have hb3 := hR.set3 (.int .i8 y.k) (.string y.t) (.slice y.A y.n y.c)
    obtain ⟨y0, y1, y2, _⟩ := blk3 hb3
    have hkk := ((((((Kept.refl (fun i => i = w.heap.size) w1).setCell (p := ⟨w.heap.size, 0, none⟩) (.inl rfl) (.int .i8 y.k)).setCell (p := ⟨w.heap.size, 1, none⟩) (.inl rfl) (.string y.t)).setCell (p := ⟨w.heap.size, 2, none⟩) (.inl rfl) (.slice y.A y.n y.c)).trans (Kept.of_below hb2)).setCell (p := ⟨w.heap.size, 0, none⟩) (.inl rfl) (.int .i8 y.k)).setCell (p := ⟨w.heap.size, 1, none⟩) (.inl rfl) (.string y.t) |>.setCell (p := ⟨w.heap.size, 2, none⟩) (.inl rfl) (.slice y.A y.n y.c) |>.drew
    have hk5 := (((((((((Kept.of_below (S := fun i => i = w.heap.size + 1) hWB).trans hk1).setCell (p := ⟨w.heap.size, 0, none⟩) (.inr (Nat.le_refl _)) (.int .i8 y.k)).setCell (p := ⟨w.heap.size, 1, none⟩) (.inr (Nat.le_refl _)) (.string y.t)).setCell (p := ⟨w.heap.size, 2, none⟩) (.inr (Nat.le_refl _)) (.slice y.A y.n y.c)).trans (Kept.of_below hb2))).setCell (p := ⟨w.heap.size, 0, none⟩) (.inr (Nat.le_refl _)) (.int .i8 y.k)).setCell (p := ⟨w.heap.size, 1, none⟩) (.inr (Nat.le_refl _)) (.string y.t)).setCell (p := ⟨w.heap.size, 2, none⟩) (.inr (Nat.le_refl _)) (.slice y.A y.n y.c)
    have hk6 := hk5.below (B := w.heap.size) (Nat.le_refl _) (fun i hi => by omega)
    refine bodyPost_ret (v := .tuple #[.agg #[.int .i8 y.k, .string y.t, .slice y.A y.n y.c], .int .i64 n, .int .i64 0]) ?_ rfl ?_
    rotate_left
    · exact ⟨⟨_, (HL2.out.kept hkk (fun b _ h1 h2 => by omega)).mono (fun b _ h1 => by omega), rfl⟩, hk6.drew⟩
    simp [results, Tryz.results63, go_sem, y0, y1, y2]

theorem Read_ (s : ByteArray) (a : Int) (w : World) (hs : s.size ≤ 1000000) : Calls Tryz.prog 63 #[.string s, .int .i64 a] w fun e w' => RdIs (fun b => w.heap.size ≤ b) w' (if a < 0 then .err 0 2 else topP (byts s) (fromI a s.size)) e ∧ Below w.heap.size w w' := by
  by_cases ha : a < 0
  · rw [if_pos ha]
    exact Read_neg s a w ha
  · rw [if_neg ha]
    unfold topP
    cases h : readP (byts s) (fromI a s.size) with
    | ok x n => exact Read_ok s a w ha hs x n h
    | err n c => exact Read_err s a w ha hs n c h
end Go.Proofs.YtiklliiamljogaaGreatDoor

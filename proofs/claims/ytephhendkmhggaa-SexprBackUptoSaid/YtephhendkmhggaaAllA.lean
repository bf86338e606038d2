/- Read. -/
import Derived.Test.YtephhendkmhggaaTreeQ
namespace Go.Proofs.Ytephhendkmhggaa
open Go.RowKit

theorem one_way (s : ByteArray) (a : Int) (hs : s.size ≤ 1000000) (w : World) (gr : Nat) (hg : Blk w gr 45 #[.string s, .int .i64 a, .int .i64 0]) : Calls Try.prog 25 #[.pointer (some ⟨gr, 0, none⟩)] w fun e w' => OneIs (fun b => w.heap.size ≤ b) gr s w' (readP (byts s) (fromI a s.size)) e ∧ Kept (fun i => i = gr) w w' :=
  one_at s hs _ a (fromI a s.size) w gr hg rfl (fromI_le a s.size) (by rw [byts_len]; exact Nat.le_refl _)

set_option maxHeartbeats 1000000 in
set_option maxRecDepth 100000 in
theorem Read_neg (s : ByteArray) (a : Int) (w : World) (ha : a < 0) : Calls Try.prog 9 #[.string s, .int .i64 a] w fun e w' => RdIs (fun b => w.heap.size ≤ b) w' (.err 0 2) e ∧ Below w.heap.size w w' := by
  have hb0 := Blk.new w 26 #[.int .i8 0, .string ⟨#[]⟩, .slice none 0 0]
  have hB0 : Below w.heap.size w (w.alloc (.cells #[.int .i8 0, .string ⟨#[]⟩, .slice none 0 0] 26)) := (Below.refl _ w).alloc (Nat.le_refl _) _
  have d1 : decide (a < 0) = true := decide_eq_true ha
  go_enter Try.func9, Try.ntmps9
  go_wp2
  exact bodyPost_ret (v := .tuple #[zeroX, .int .i64 0, .int .i64 2]) (by simp [zeroX, results, Try.results9, go_sem]) rfl ⟨rfl, hB0⟩

set_option maxHeartbeats 1000000 in
set_option maxRecDepth 100000 in
theorem Read_err (s : ByteArray) (a : Int) (w : World) (ha : ¬ a < 0) (hs : s.size ≤ 1000000) (n : Nat) (c : Int) (h : readP (byts s) (fromI a s.size) = .err n c) : Calls Try.prog 9 #[.string s, .int .i64 a] w fun e w' => RdIs (fun b => w.heap.size ≤ b) w' (.err n c) e ∧ Below w.heap.size w w' := by
  have bc := readP_err (by rw [byts_len]; exact fromI_le a s.size) h
  obtain ⟨W, hW⟩ : ∃ W, (w.alloc (.cells #[.int .i8 0, .string ⟨#[]⟩, .slice none 0 0] 26)).alloc (.cells #[.string s, .int .i64 a, .int .i64 0] 45) = W := ⟨_, rfl⟩
  have hWR : Blk W w.heap.size 26 #[.int .i8 0, .string ⟨#[]⟩, .slice none 0 0] := hW ▸ (Blk.new w _ _).alloc _
  have hWG : Blk W (w.heap.size + 1) 45 #[.string s, .int .i64 a, .int .i64 0] := hW ▸ Blk.new_at (by simp) _ _
  have hWs : W.heap.size = w.heap.size + 2 := by rw [← hW]; simp
  have hWB : Below w.heap.size w W := hW ▸ ((Below.refl _ w).alloc (Nat.le_refl _) _).alloc (by simp) _
  have hne : w.heap.size ≠ w.heap.size + 1 := by omega
  have hne2 := hne.symm
  have hE : Calls Try.prog 25 #[.pointer (some ⟨w.heap.size + 1, 0, none⟩)] W fun e w' => (e = .returned (.agg #[.int .i8 0, .string ⟨#[]⟩, .slice none 0 0]) ∧ Blk w' (w.heap.size + 1) 45 #[.string s, .int .i64 n, .int .i64 c]) ∧ Kept (fun i => i = w.heap.size + 1) W w' := (one_way s a hs W (w.heap.size + 1) hWG).mono (by rw [h]; exact fun e w' h => h)
  have HE := Lib.hid hE
  have d1 : decide (a < 0) = false := decide_eq_false ha
  clear h hE
  subst hW
  go_enter Try.func9, Try.ntmps9
  go_wp2_with (go_at_call 25; refine HE.out.mono ?_; rintro e w1 ⟨⟨rfl, hG1⟩, hk1⟩; have hR1 := hWR.kept hk1 (by omega); obtain ⟨x0, x1, x2, f0, f1, f2⟩ := blk3 hR1; obtain ⟨g0, g1, g2, _⟩ := blk3 hG1)
  go_region
  go_wp2
  have hR := hR1.set3 (.int .i8 0) (.string ⟨#[]⟩) (.slice none 0 0)
  have hb3 := hR.set3 (.int .i8 0) (.string ⟨#[]⟩) (.slice none 0 0)
  obtain ⟨y0, y1, y2, _⟩ := blk3 hb3
  have hk5 := ((((((((Kept.of_below (S := fun i => i = w.heap.size + 1) hWB).trans hk1).setCell (p := ⟨w.heap.size, 0, none⟩) (.inr (Nat.le_refl _)) (.int .i8 0)).setCell (p := ⟨w.heap.size, 1, none⟩) (.inr (Nat.le_refl _)) (.string ⟨#[]⟩)).setCell (p := ⟨w.heap.size, 2, none⟩) (.inr (Nat.le_refl _)) (.slice none 0 0))).setCell (p := ⟨w.heap.size, 0, none⟩) (.inr (Nat.le_refl _)) (.int .i8 0)).setCell (p := ⟨w.heap.size, 1, none⟩) (.inr (Nat.le_refl _)) (.string ⟨#[]⟩)).setCell (p := ⟨w.heap.size, 2, none⟩) (.inr (Nat.le_refl _)) (.slice none 0 0)
  have hk6 := hk5.below (B := w.heap.size) (Nat.le_refl _) (fun i hi => by omega)
  refine bodyPost_ret (v := .tuple #[zeroX, .int .i64 n, .int .i64 c]) ?_ rfl ?_
  rotate_left
  · exact ⟨rfl, hk6.drew⟩
  simp [zeroX, results, Try.results9, go_sem, y0, y1, y2]

set_option maxHeartbeats 1000000 in
set_option maxRecDepth 100000 in
theorem Read_ok (s : ByteArray) (a : Int) (w : World) (ha : ¬ a < 0) (hs : s.size ≤ 1000000) (x : Sx) (n : Nat) (h : readP (byts s) (fromI a s.size) = .ok x n) : Calls Try.prog 9 #[.string s, .int .i64 a] w fun e w' => RdIs (fun b => w.heap.size ≤ b) w' (if 60 < x.depth then .err n 22 else .ok x n) e ∧ Below w.heap.size w w' := by
  have hdp := readP_depth (by rw [byts_len]; exact fromI_le a s.size) h
  rw [byts_len] at hdp
  obtain ⟨W, hW⟩ : ∃ W, (w.alloc (.cells #[.int .i8 0, .string ⟨#[]⟩, .slice none 0 0] 26)).alloc (.cells #[.string s, .int .i64 a, .int .i64 0] 45) = W := ⟨_, rfl⟩
  have hWR : Blk W w.heap.size 26 #[.int .i8 0, .string ⟨#[]⟩, .slice none 0 0] := hW ▸ (Blk.new w _ _).alloc _
  have hWG : Blk W (w.heap.size + 1) 45 #[.string s, .int .i64 a, .int .i64 0] := hW ▸ Blk.new_at (by simp) _ _
  have hWs : W.heap.size = w.heap.size + 2 := by rw [← hW]; simp
  have hWB : Below w.heap.size w W := hW ▸ ((Below.refl _ w).alloc (Nat.le_refl _) _).alloc (by simp) _
  have hne : w.heap.size ≠ w.heap.size + 1 := by omega
  have hne2 := hne.symm
  have hE : Calls Try.prog 25 #[.pointer (some ⟨w.heap.size + 1, 0, none⟩)] W fun e w' => ((∃ y : C3, Lies (fun b => W.heap.size ≤ b) w' y.val x ∧ e = .returned (.agg #[.int .i8 y.k, .string y.t, .slice y.A y.n y.c])) ∧ Blk w' (w.heap.size + 1) 45 #[.string s, .int .i64 n, .int .i64 0]) ∧ Kept (fun i => i = w.heap.size + 1) W w' := (one_way s a hs W (w.heap.size + 1) hWG).mono (by
    rw [h]
    rintro e w' ⟨⟨⟨v, hl, rfl⟩, hg⟩, hk⟩
    obtain ⟨y, rfl⟩ := hl.c3
    exact ⟨⟨⟨y, hl, rfl⟩, hg⟩, hk⟩)
  have HE := Lib.hid hE
  have d1 : decide (a < 0) = false := decide_eq_false ha
  have hDO := Lib.hid (fun v w => depth_ok (S := fun b => True) x (by omega) v w)
  obtain ⟨dx, hdx⟩ : ∃ dx, x.depth = dx := ⟨_, rfl⟩
  rw [hdx] at hDO ⊢
  clear h hdp hdx hE
  subst hW
  by_cases h60 : 60 < dx
  · rw [if_pos h60]
    have d2 : decide ((60 : Int) < dx) = true := decide_eq_true (by omega)
    go_enter Try.func9, Try.ntmps9
    go_wp2_with (first
      | (go_at_call 25; refine HE.out.mono ?_; rintro e w1 ⟨⟨⟨y, hly, rfl⟩, hG1⟩, hk1⟩; have hR1 := hWR.kept hk1 (by omega); obtain ⟨x0, x1, x2, f0, f1, f2⟩ := blk3 hR1; obtain ⟨g0, g1, g2, _⟩ := blk3 hG1; have hR2 := hR1.set3 (.int .i8 y.k) (.string y.t) (.slice y.A y.n y.c); have hG2 := ((hG1.far (p := ⟨w.heap.size, 0, none⟩) hne2 (.int .i8 y.k)).far (p := ⟨w.heap.size, 1, none⟩) hne2 (.string y.t)).far (p := ⟨w.heap.size, 2, none⟩) hne2 (.slice y.A y.n y.c); have HL2 := Lib.hid (hly.mono (S' := fun b => w.heap.size + 2 ≤ b) (fun b _ h => by simpa using h)); have hkR := (((Kept.refl (fun i => i = w.heap.size) w1).setCell (p := ⟨w.heap.size, 0, none⟩) (.inl rfl) (.int .i8 y.k)).setCell (p := ⟨w.heap.size, 1, none⟩) (.inl rfl) (.string y.t)).setCell (p := ⟨w.heap.size, 2, none⟩) (.inl rfl) (.slice y.A y.n y.c); have HL3 := Lib.hid ((HL2.out.kept hkR (fun b _ h1 h2 => by omega)).mono (S' := fun _ => True) (fun _ _ _ => True.intro)); clear hly)
      | (go_at_call 19; refine (hDO.out _ _ HL3.out).mono ?_; rintro e w2 ⟨rfl, hb2⟩; have hR3 := hR2.below hb2 hR2.lt; have hG3 := hG2.below hb2 hG2.lt; obtain ⟨x0, x1, x2, f0, f1, f2⟩ := blk3 hR3; obtain ⟨g0, g1, g2, _⟩ := blk3 hG3))
    go_region
    go_wp2
    have hR := hR3
    have hb3 := hR.set3 (.int .i8 0) (.string ⟨#[]⟩) (.slice none 0 0)
    obtain ⟨y0, y1, y2, _⟩ := blk3 hb3
    have hk5 := (((((((((Kept.of_below (S := fun i => i = w.heap.size + 1) hWB).trans hk1).setCell (p := ⟨w.heap.size, 0, none⟩) (.inr (Nat.le_refl _)) (.int .i8 y.k)).setCell (p := ⟨w.heap.size, 1, none⟩) (.inr (Nat.le_refl _)) (.string y.t)).setCell (p := ⟨w.heap.size, 2, none⟩) (.inr (Nat.le_refl _)) (.slice y.A y.n y.c)).trans (Kept.of_below hb2))).setCell (p := ⟨w.heap.size, 0, none⟩) (.inr (Nat.le_refl _)) (.int .i8 0)).setCell (p := ⟨w.heap.size, 1, none⟩) (.inr (Nat.le_refl _)) (.string ⟨#[]⟩)).setCell (p := ⟨w.heap.size, 2, none⟩) (.inr (Nat.le_refl _)) (.slice none 0 0)
    have hk6 := hk5.below (B := w.heap.size) (Nat.le_refl _) (fun i hi => by omega)
    refine bodyPost_ret (v := .tuple #[zeroX, .int .i64 n, .int .i64 22]) ?_ rfl ?_
    rotate_left
    · exact ⟨rfl, hk6.drew⟩
    simp [zeroX, results, Try.results9, go_sem, y0, y1, y2]
  · rw [if_neg h60]
    have d2 : decide ((60 : Int) < dx) = false := decide_eq_false (by omega)
    go_enter Try.func9, Try.ntmps9
    go_wp2_with (first
      | (go_at_call 25; refine HE.out.mono ?_; rintro e w1 ⟨⟨⟨y, hly, rfl⟩, hG1⟩, hk1⟩; have hR1 := hWR.kept hk1 (by omega); obtain ⟨x0, x1, x2, f0, f1, f2⟩ := blk3 hR1; obtain ⟨g0, g1, g2, _⟩ := blk3 hG1; have hR2 := hR1.set3 (.int .i8 y.k) (.string y.t) (.slice y.A y.n y.c); have hG2 := ((hG1.far (p := ⟨w.heap.size, 0, none⟩) hne2 (.int .i8 y.k)).far (p := ⟨w.heap.size, 1, none⟩) hne2 (.string y.t)).far (p := ⟨w.heap.size, 2, none⟩) hne2 (.slice y.A y.n y.c); have HL2 := Lib.hid (hly.mono (S' := fun b => w.heap.size + 2 ≤ b) (fun b _ h => by simpa using h)); have hkR := (((Kept.refl (fun i => i = w.heap.size) w1).setCell (p := ⟨w.heap.size, 0, none⟩) (.inl rfl) (.int .i8 y.k)).setCell (p := ⟨w.heap.size, 1, none⟩) (.inl rfl) (.string y.t)).setCell (p := ⟨w.heap.size, 2, none⟩) (.inl rfl) (.slice y.A y.n y.c); have HL3 := Lib.hid ((HL2.out.kept hkR (fun b _ h1 h2 => by omega)).mono (S' := fun _ => True) (fun _ _ _ => True.intro)); clear hly)
      | (go_at_call 19; refine (hDO.out _ _ HL3.out).mono ?_; rintro e w2 ⟨rfl, hb2⟩; have hR3 := hR2.below hb2 hR2.lt; have hG3 := hG2.below hb2 hG2.lt; obtain ⟨x0, x1, x2, f0, f1, f2⟩ := blk3 hR3; obtain ⟨g0, g1, g2, _⟩ := blk3 hG3))
    go_region
    go_wp2
    have hR := hR3
    have hb3 := hR.set3 (.int .i8 y.k) (.string y.t) (.slice y.A y.n y.c)
    obtain ⟨y0, y1, y2, _⟩ := blk3 hb3
    have hkk := ((((((Kept.refl (fun i => i = w.heap.size) w1).setCell (p := ⟨w.heap.size, 0, none⟩) (.inl rfl) (.int .i8 y.k)).setCell (p := ⟨w.heap.size, 1, none⟩) (.inl rfl) (.string y.t)).setCell (p := ⟨w.heap.size, 2, none⟩) (.inl rfl) (.slice y.A y.n y.c)).trans (Kept.of_below hb2)).setCell (p := ⟨w.heap.size, 0, none⟩) (.inl rfl) (.int .i8 y.k)).setCell (p := ⟨w.heap.size, 1, none⟩) (.inl rfl) (.string y.t) |>.setCell (p := ⟨w.heap.size, 2, none⟩) (.inl rfl) (.slice y.A y.n y.c) |>.drew
    have hk5 := (((((((((Kept.of_below (S := fun i => i = w.heap.size + 1) hWB).trans hk1).setCell (p := ⟨w.heap.size, 0, none⟩) (.inr (Nat.le_refl _)) (.int .i8 y.k)).setCell (p := ⟨w.heap.size, 1, none⟩) (.inr (Nat.le_refl _)) (.string y.t)).setCell (p := ⟨w.heap.size, 2, none⟩) (.inr (Nat.le_refl _)) (.slice y.A y.n y.c)).trans (Kept.of_below hb2))).setCell (p := ⟨w.heap.size, 0, none⟩) (.inr (Nat.le_refl _)) (.int .i8 y.k)).setCell (p := ⟨w.heap.size, 1, none⟩) (.inr (Nat.le_refl _)) (.string y.t)).setCell (p := ⟨w.heap.size, 2, none⟩) (.inr (Nat.le_refl _)) (.slice y.A y.n y.c)
    have hk6 := hk5.below (B := w.heap.size) (Nat.le_refl _) (fun i hi => by omega)
    refine bodyPost_ret (v := .tuple #[.agg #[.int .i8 y.k, .string y.t, .slice y.A y.n y.c], .int .i64 n, .int .i64 0]) ?_ rfl ?_
    rotate_left
    · exact ⟨⟨_, (HL2.out.kept hkk (fun b _ h1 h2 => by omega)).mono (fun b _ h1 => by omega), rfl⟩, hk6.drew⟩
    simp [zeroX, results, Try.results9, go_sem, y0, y1, y2]

theorem Read_ (s : ByteArray) (a : Int) (w : World) (hs : s.size ≤ 1000000) : Calls Try.prog 9 #[.string s, .int .i64 a] w fun e w' => RdIs (fun b => w.heap.size ≤ b) w' (if a < 0 then .err 0 2 else topP (byts s) (fromI a s.size)) e ∧ Below w.heap.size w w' := by
  by_cases ha : a < 0
  · rw [if_pos ha]
    exact Read_neg s a w ha
  · rw [if_neg ha]
    unfold topP
    cases h : readP (byts s) (fromI a s.size) with
    | ok x n => exact Read_ok s a w ha hs x n h
    | err n c => exact Read_err s a w ha hs n c h
end Go.Proofs.Ytephhendkmhggaa

/- All, both. -/
namespace Go.Proofs.Ytephhendkmhggaa
open Go.RowKit

theorem sk_idem : ∀ (b : Bool) (l : List UInt8), sk false (l.drop (sk b l)) = 0
  | b, [] => by cases b <;> rfl
  | false, c :: r => by
    rw [sk_f]
    split
    · rw [Nat.add_comm, List.drop_succ_cons]; exact sk_idem true r
    · split
      · rw [Nat.add_comm, List.drop_succ_cons]; exact sk_idem false r
      · rename_i h1 h2
        rw [List.drop_zero, sk_f, if_neg h1, if_neg h2]
  | true, c :: r => by
    rw [sk_c]
    split
    · rw [Nat.add_comm, List.drop_succ_cons]; exact sk_idem false r
    · rw [Nat.add_comm, List.drop_succ_cons]; exact sk_idem true r

theorem rd_fuel (L : List UInt8) : ∀ f g, (∀ p, p ≤ L.length → 2 * (L.length - p) + 1 ≤ f → 2 * (L.length - p) + 1 ≤ g → readF L f p = readF L g p) ∧ (∀ p acc, p ≤ L.length → 2 * (L.length - p) + 2 ≤ f → 2 * (L.length - p) + 2 ≤ g → listF L f p acc = listF L g p acc)
  | 0, _ => ⟨fun p _ h _ => by omega, fun p acc _ h _ => by omega⟩
  | f + 1, 0 => ⟨fun p _ _ h => by omega, fun p acc _ _ h => by omega⟩
  | f + 1, g + 1 => by
    obtain ⟨ih1, ih2⟩ := rd_fuel L f g
    refine ⟨fun p hp hf hg => ?_, fun p acc hp hf hg => ?_⟩
    · unfold readF
      by_cases he : L.drop (startL L p) = []
      · rw [if_pos he, if_pos he]
      · rw [if_neg he, if_neg he]
        cases hr : tok (L.drop (startL L p)) with
        | none => rfl
        | some r =>
          have hl := tok_len hr
          have := startL_le L p hp
          have := startL_ge L p
          rw [List.length_drop] at hl
          dsimp only
          rw [ih2 (startL L p + r.n) [] (by omega) (by omega) (by omega)]
    · unfold listF
      cases hc : closes L p with
      | some q => rfl
      | none =>
        dsimp only
        rw [ih1 p hp (by omega) (by omega)]
        cases hy : readF L g p with
        | err n e => rfl
        | ok y q =>
          have h1 := (rd_ok L g).1 _ _ _ hp hy
          exact ih2 q (acc ++ [y]) h1.2 (by omega) (by omega)
theorem startL_idem (L : List UInt8) (p : Nat) : startL L (startL L p) = startL L p := by
  have h := sk_idem false (L.drop p)
  rw [List.drop_drop] at h
  unfold startL
  rw [h]
  omega
theorem readP_start (L : List UInt8) (p : Nat) (hp : p ≤ L.length) : readP L (startL L p) = readP L p := by
  have h1 := startL_le L p hp
  have h2 := startL_ge L p
  unfold readP
  rw [(rd_fuel L (2 * (L.length - startL L p) + 1) (2 * (L.length - p) + 1)).1 _ h1 (Nat.le_refl _) (by omega)]
  conv => lhs; unfold readF
  conv => rhs; unfold readF
  rw [startL_idem]
theorem topP_start (L : List UInt8) (p : Nat) (hp : p ≤ L.length) : topP L (startL L p) = topP L p := by
  unfold topP
  rw [readP_start L p hp]
theorem topP_ok {L : List UInt8} {p q : Nat} {x : Sx} (hp : p ≤ L.length) (h : topP L p = .ok x q) : p < q ∧ q ≤ L.length ∧ readP L p = .ok x q ∧ x.depth ≤ 60 := by
  unfold topP at h
  cases hr : readP L p with
  | err n e => rw [hr] at h; cases h
  | ok y n =>
    rw [hr] at h
    dsimp only at h
    split at h
    · cases h
    · injection h with h1 h2
      subst h1 h2
      have := (rd_ok L _).1 p y n hp hr
      exact ⟨this.1, this.2, rfl, by omega⟩
theorem topP_err {L : List UInt8} {p n : Nat} {e : Int} (hp : p ≤ L.length) (h : topP L p = .err n e) : e ≠ 0 := by
  unfold topP at h
  cases hr : readP L p with
  | err n' e' =>
    rw [hr] at h
    injection h with h1 h2
    subst h2
    rcases (rd_err L _).1 p n' e' hp (Nat.le_refl _) hr with h | h <;> omega
  | ok y n =>
    rw [hr] at h
    dsimp only at h
    split at h
    · injection h with h1 h2; omega
    · cases h

/-- All of a text: what is read, where it ends, which error. -/
def allF (L : List UInt8) : Nat → Nat → List Sx → List Sx × Nat × Int
  | 0, p, acc => (acc, p, 0)
  | f + 1, p, acc => if startL L p = L.length then (acc, startL L p, 0) else match topP L p with
    | .ok x n => allF L f n (acc ++ [x])
    | .err _ c => (acc, startL L p, c)

set_option maxHeartbeats 2000000 in
set_option maxRecDepth 100000 in
theorem rall_ok (s : ByteArray) (w : World) (hs : s.size ≤ 1000000) : Calls Try.prog 13 #[.string s] w fun e w' => (∃ sv cs, Acc w' w.heap.size sv cs (allF (byts s) (s.size + 1) 0 []).1 ∧ e = .returned (.tuple #[sv, .int .i64 (allF (byts s) (s.size + 1) 0 []).2.1, .int .i64 (allF (byts s) (s.size + 1) 0 []).2.2])) ∧ Below w.heap.size w w' := by
  obtain ⟨R, hR⟩ : ∃ R, allF (byts s) (s.size + 1) 0 [] = R := ⟨_, rfl⟩
  rw [hR]
  have HR := Lib.hid hR
  clear hR
  obtain ⟨i0, hi, hz0, hz1, hz2⟩ := info_parts sexp_info
  go_enter Try.func13, Try.ntmps13
  go_wp2
  go_loopw [5, 6] (fun sl v wx => ∃ (p f : Nat) (cs : List C3) (xs : List Sx), v = .int .i64 p ∧ p ≤ s.size ∧ s.size + 1 ≤ f + p ∧ allF (byts s) f p xs = R ∧ xs.length ≤ p ∧ Acc wx w.heap.size sl cs xs ∧ Below w.heap.size w wx) (fun _ v _ => (s.size - intOf v).toNat)
  case atStart => exact ⟨0, s.size + 1, [], [], rfl, Nat.zero_le _, by omega, HR.out, Nat.le_refl _, Acc.nil _ _, Below.refl _ _⟩
  case round =>
    obtain ⟨p, f, cs, xs, rfl, hp, hf, haf, hxp, hacc, hB⟩ := hrel
    clear HR
    obtain ⟨f, rfl⟩ : ∃ f', f = f' + 1 := ⟨f - 1, by omega⟩
    obtain ⟨A, cap, rfl⟩ := own_slice hacc.own
    have hst1 := startL_le (byts s) p (by rw [byts_len]; exact hp)
    have hst2 := startL_ge (byts s) p
    rw [byts_len] at hst1
    have hfp : fromI (p : Int) s.size = p := by unfold fromI; omega
    have hsk : Hid (∀ w, Calls Try.prog 24 #[.string s, .int .i64 p] w fun e w' => e = .returned (.int .i64 (startL (byts s) p)) ∧ w = w') := Lib.hid fun w => (rskip_ok s p w hs).mono (by
      rintro e w' ⟨rfl, rfl⟩
      rw [hfp]
      exact ⟨rfl, rfl⟩)
    have hrd : Hid (∀ w, Calls Try.prog 10 #[.string s, .int .i64 (p : Nat)] w fun e w' => RdIs (fun b => w.heap.size ≤ b) w' (topP (byts s) p) e ∧ Below w.heap.size w w') := Lib.hid fun w => (rRead s _ w hs).mono (by
      rw [if_neg (by omega)]
      rw [hfp]
      exact fun e w' h => h)
    obtain ⟨st, hst⟩ : ∃ st, startL (byts s) p = st := ⟨_, rfl⟩
    unfold allF at haf
    rw [hst, byts_len] at haf
    rw [hst] at hst1 hst2 hsk
    have HA := Lib.hid hacc
    clear hacc hst hfp
    by_cases hend : st = s.size
    · rw [if_pos hend] at haf
      have d1 : ((st : Int) == s.size) = true := beq_iff_eq.2 (by omega)
      have HF := Lib.hid haf
      have HE := Lib.hid hend
      clear haf hend hrd
      go_wp2_with (go_at_call 24; refine (hsk.out _).mono ?_; rintro e w1 ⟨rfl, rfl⟩)
      refine bodyPost_ret (v := .tuple #[.slice A cs.length cap, .int .i64 st, .int .i64 0]) (by simp [results, Try.results13, go_sem]) rfl ?_
      rw [← HF.out]
      exact ⟨⟨_, cs, HA.out, rfl⟩, hB⟩
    · rw [if_neg hend] at haf
      have d1 : ((st : Int) == s.size) = false := beq_eq_false_iff_ne.2 (by omega)
      cases ht : topP (byts s) p with
      | err n c =>
        rw [ht] at haf
        have b1 : (c != 0) = true := bne_iff_ne.2 (topP_err (by rw [byts_len]; exact hp) ht)
        have hrd2 : Hid (∀ w, Calls Try.prog 10 #[.string s, .int .i64 p] w fun e w' => e = .returned (.tuple #[.agg #[.int .i8 0, .string ⟨#[]⟩, .slice none 0 0], .int .i64 n, .int .i64 c]) ∧ Below w.heap.size w w') := Lib.hid fun w => (hrd.out w).mono (by rw [ht]; exact fun e w' h => h)
        have HF := Lib.hid haf
        clear haf ht hrd
        go_wp2_with (first
          | (go_at_call 24; refine (hsk.out _).mono ?_; rintro e w1 ⟨rfl, rfl⟩)
          | (go_at_call 10; refine (hrd2.out _).mono ?_; rintro e w2 ⟨rfl, hb2⟩))
        refine bodyPost_ret (v := .tuple #[.slice A cs.length cap, .int .i64 st, .int .i64 c]) (by simp [results, Try.results13, go_sem]) rfl ?_
        rw [← HF.out]
        have hbb : Below wr.heap.size wr (w2.alloc (.cells #[.int .i8 0, .string ⟨#[]⟩, .slice none 0 0] 26)) := hb2.alloc hb2.size _
        exact ⟨⟨_, cs, HA.out.keep hbb, rfl⟩, hB.trans (hbb.mono hB.size)⟩
      | ok x n =>
        rw [ht] at haf
        have htk := topP_ok (by rw [byts_len]; exact hp) ht
        rw [byts_len] at htk
        have hrd2 : Hid (∀ w, Calls Try.prog 10 #[.string s, .int .i64 p] w fun e w' => (∃ y : C3, Lies (fun b => w.heap.size ≤ b) w' y.val x ∧ e = .returned (.tuple #[.agg #[.int .i8 y.k, .string y.t, .slice y.A y.n y.c], .int .i64 n, .int .i64 0])) ∧ Below w.heap.size w w') := Lib.hid fun w => (hrd.out w).mono (by
          rw [ht]
          rintro e w' ⟨⟨v, hl, rfl⟩, hb⟩
          obtain ⟨y, rfl⟩ := hl.c3
          exact ⟨⟨y, hl, rfl⟩, hb⟩)
        have hp2 := htk.1
        have hn2 := htk.2.1
        have hlen := HA.out.len
        have hcs : (cs.length + 1) * 48 ≤ 140737488355328 := by omega
        have hBs := hB.size
        have HF := Lib.hid haf
        clear haf ht hrd htk hlen
        go_wp2_with (first
          | (go_at_call 24; refine (hsk.out _).mono ?_; rintro e w1 ⟨rfl, rfl⟩)
          | (go_at_call 10; refine (hrd2.out _).mono ?_; rintro e w4 ⟨⟨y, hly, rfl⟩, hb4⟩; have hs4 := hb4.size; have hbb4 : Below wr.heap.size wr (w4.alloc (.cells #[.int .i8 y.k, .string y.t, .slice y.A y.n y.c] 26)) := hb4.alloc hb4.size _; have hA5 := HA.out.keep hbb4; have HLY := Lib.hid hly; clear hly)
          | (at_builtin; have z1 := hA5.own.alloc (.cells #[.int .i8 y.k, .string y.t, .slice y.A y.n y.c] 26); have z2 : Blk ((w4.alloc (.cells #[.int .i8 y.k, .string y.t, .slice y.A y.n y.c] 26)).alloc (.cells #[.int .i8 y.k, .string y.t, .slice y.A y.n y.c] 26)) (w4.heap.size + 1) 26 #[.int .i8 y.k, .string y.t, .slice y.A y.n y.c] := Blk.new_at (by simp) _ _; have z4 : ∀ u ∈ (#[Value.int .i8 y.k, .string y.t, .slice y.A y.n y.c] : Array Value).toList, u.oneCell' = true := (by simp [Value.oneCell']); have z3 : w.heap.size ≤ w4.heap.size + 1 := (by omega); refine list_push _ rfl (.tmp 32) (.tmp 34) 24 rfl w.heap.size 26 i0 zeroX 3 48 Try.underlying24 hi hz0 hz1 hz2 rfl (by decide) (.slice A cs.length cap) cs.length (cs.flatMap C3.cells) rfl z1 (w4.heap.size + 1) #[.int .i8 y.k, .string y.t, .slice y.A y.n y.c] rfl z2 rfl z4 hcs (by decide) z3 ?_; intro g cap2 w5 hown hgrow hat hlt5))
        go_roundw
        case rel =>
          have hbb : Below (w4.alloc (.cells #[.int .i8 y.k, .string y.t, .slice y.A y.n y.c] 26)).heap.size (w4.alloc (.cells #[.int .i8 y.k, .string y.t, .slice y.A y.n y.c] 26)) ((w4.alloc (.cells #[.int .i8 y.k, .string y.t, .slice y.A y.n y.c] 26)).alloc (.cells #[.int .i8 y.k, .string y.t, .slice y.A y.n y.c] 26)) := (Below.refl _ _).alloc (Nat.le_refl _) _
          have hb44 : Below w4.heap.size w4 ((w4.alloc (.cells #[.int .i8 y.k, .string y.t, .slice y.A y.n y.c] 26)).alloc (.cells #[.int .i8 y.k, .string y.t, .slice y.A y.n y.c] 26)) := ((Below.refl _ w4).alloc (Nat.le_refl _) _).alloc (by simp) _
          have hAc := (HA.out.child hBs HLY.out).keep hb44
          have hA6 := (hA5.keep hbb).push (y := y) hAc hown hgrow hat
          have hk6 := (((hB.trans (hb4.mono hBs)).alloc (by omega) (.cells #[.int .i8 y.k, .string y.t, .slice y.A y.n y.c] 26)).alloc (by simp; omega) (.cells #[.int .i8 y.k, .string y.t, .slice y.A y.n y.c] 26)).grown hgrow (by simp; omega) (fun i hi => (hA5.own.lt i hi).1)
          refine ⟨n, f, cs ++ [y], xs ++ [x], rfl, hn2, by omega, HF.out, ?_, hA6, hk6⟩
          rw [List.length_append, List.length_singleton]; omega
        case measure => simp only [intOf]; omega

set_option maxHeartbeats 2000000 in
set_option maxRecDepth 100000 in
theorem all_ok3 (s : ByteArray) (w : World) (hs : s.size ≤ 1000000) : Calls Try.prog 12 #[.string s] w fun e w' => (∃ sv cs, Acc w' w.heap.size sv cs (allF (byts s) (s.size + 1) 0 []).1 ∧ e = .returned (.tuple #[sv, .int .i64 (allF (byts s) (s.size + 1) 0 []).2.1, .int .i64 (allF (byts s) (s.size + 1) 0 []).2.2])) ∧ Below w.heap.size w w' := by
  obtain ⟨R, hR⟩ : ∃ R, allF (byts s) (s.size + 1) 0 [] = R := ⟨_, rfl⟩
  rw [hR]
  have HR := Lib.hid hR
  clear hR
  obtain ⟨i0, hi, hz0, hz1, hz2⟩ := info_parts sexp_info
  go_enter Try.func12, Try.ntmps12
  go_wp2
  go_loopw [2, 3] (fun sl v wx => ∃ (p f : Nat) (cs : List C3) (xs : List Sx), v = .int .i64 p ∧ p ≤ s.size ∧ s.size + 1 ≤ f + p ∧ allF (byts s) f p xs = R ∧ xs.length ≤ p ∧ Acc wx w.heap.size sl cs xs ∧ Below w.heap.size w wx) (fun _ v _ => (s.size - intOf v).toNat)
  case atStart => exact ⟨0, s.size + 1, [], [], rfl, Nat.zero_le _, by omega, HR.out, Nat.le_refl _, Acc.nil _ _, Below.refl _ _⟩
  case round =>
    obtain ⟨p, f, cs, xs, rfl, hp, hf, haf, hxp, hacc, hB⟩ := hrel
    clear HR
    obtain ⟨f, rfl⟩ : ∃ f', f = f' + 1 := ⟨f - 1, by omega⟩
    obtain ⟨A, cap, rfl⟩ := own_slice hacc.own
    have hst1 := startL_le (byts s) p (by rw [byts_len]; exact hp)
    have hst2 := startL_ge (byts s) p
    rw [byts_len] at hst1
    have hfp : fromI (p : Int) s.size = p := by unfold fromI; omega
    have hsk : Hid (∀ w, Calls Try.prog 27 #[.string s, .int .i64 p] w fun e w' => e = .returned (.int .i64 (startL (byts s) p)) ∧ w = w') := Lib.hid fun w => (skip_ok s p w hs).mono (by
      rintro e w' ⟨rfl, rfl⟩
      rw [hfp]
      exact ⟨rfl, rfl⟩)
    have hrd : Hid (∀ w, Calls Try.prog 9 #[.string s, .int .i64 (startL (byts s) p : Nat)] w fun e w' => RdIs (fun b => w.heap.size ≤ b) w' (topP (byts s) p) e ∧ Below w.heap.size w w') := Lib.hid fun w => (Read_ s _ w hs).mono (by
      rw [if_neg (by omega)]
      rw [show fromI ((startL (byts s) p : Nat) : Int) s.size = startL (byts s) p by unfold fromI; omega, topP_start _ _ (by rw [byts_len]; exact hp)]
      exact fun e w' h => h)
    obtain ⟨st, hst⟩ : ∃ st, startL (byts s) p = st := ⟨_, rfl⟩
    unfold allF at haf
    rw [hst, byts_len] at haf
    rw [hst] at hst1 hst2 hsk hrd
    have HA := Lib.hid hacc
    clear hacc hst hfp
    by_cases hend : st = s.size
    · rw [if_pos hend] at haf
      have d1 : ((st : Int) == s.size) = true := beq_iff_eq.2 (by omega)
      have HF := Lib.hid haf
      have HE := Lib.hid hend
      clear haf hend hrd
      go_wp2_with (go_at_call 27; refine (hsk.out _).mono ?_; rintro e w1 ⟨rfl, rfl⟩)
      refine bodyPost_ret (v := .tuple #[.slice A cs.length cap, .int .i64 st, .int .i64 0]) (by simp [results, Try.results12, go_sem]) rfl ?_
      rw [← HF.out]
      exact ⟨⟨_, cs, HA.out, rfl⟩, hB⟩
    · rw [if_neg hend] at haf
      have d1 : ((st : Int) == s.size) = false := beq_eq_false_iff_ne.2 (by omega)
      cases ht : topP (byts s) p with
      | err n c =>
        rw [ht] at haf
        have b1 : (c != 0) = true := bne_iff_ne.2 (topP_err (by rw [byts_len]; exact hp) ht)
        have hrd2 : Hid (∀ w, Calls Try.prog 9 #[.string s, .int .i64 st] w fun e w' => e = .returned (.tuple #[.agg #[.int .i8 0, .string ⟨#[]⟩, .slice none 0 0], .int .i64 n, .int .i64 c]) ∧ Below w.heap.size w w') := Lib.hid fun w => (hrd.out w).mono (by rw [ht]; exact fun e w' h => h)
        have HF := Lib.hid haf
        clear haf ht hrd
        go_wp2_with (first
          | (go_at_call 27; refine (hsk.out _).mono ?_; rintro e w1 ⟨rfl, rfl⟩)
          | (go_at_call 9; refine (hrd2.out _).mono ?_; rintro e w2 ⟨rfl, hb2⟩))
        refine bodyPost_ret (v := .tuple #[.slice A cs.length cap, .int .i64 st, .int .i64 c]) (by simp [results, Try.results12, go_sem]) rfl ?_
        rw [← HF.out]
        have hbb : Below wr.heap.size wr (w2.alloc (.cells #[.int .i8 0, .string ⟨#[]⟩, .slice none 0 0] 26)) := hb2.alloc hb2.size _
        exact ⟨⟨_, cs, HA.out.keep hbb, rfl⟩, hB.trans (hbb.mono hB.size)⟩
      | ok x n =>
        rw [ht] at haf
        have htk := topP_ok (by rw [byts_len]; exact hp) ht
        rw [byts_len] at htk
        have hrd2 : Hid (∀ w, Calls Try.prog 9 #[.string s, .int .i64 st] w fun e w' => (∃ y : C3, Lies (fun b => w.heap.size ≤ b) w' y.val x ∧ e = .returned (.tuple #[.agg #[.int .i8 y.k, .string y.t, .slice y.A y.n y.c], .int .i64 n, .int .i64 0])) ∧ Below w.heap.size w w') := Lib.hid fun w => (hrd.out w).mono (by
          rw [ht]
          rintro e w' ⟨⟨v, hl, rfl⟩, hb⟩
          obtain ⟨y, rfl⟩ := hl.c3
          exact ⟨⟨y, hl, rfl⟩, hb⟩)
        have hp2 := htk.1
        have hn2 := htk.2.1
        have hlen := HA.out.len
        have hcs : (cs.length + 1) * 48 ≤ 140737488355328 := by omega
        have hBs := hB.size
        have HF := Lib.hid haf
        clear haf ht hrd htk hlen
        go_wp2_with (first
          | (go_at_call 27; refine (hsk.out _).mono ?_; rintro e w1 ⟨rfl, rfl⟩)
          | (go_at_call 9; refine (hrd2.out _).mono ?_; rintro e w4 ⟨⟨y, hly, rfl⟩, hb4⟩; have hs4 := hb4.size; have hbb4 : Below wr.heap.size wr (w4.alloc (.cells #[.int .i8 y.k, .string y.t, .slice y.A y.n y.c] 26)) := hb4.alloc hb4.size _; have hA5 := HA.out.keep hbb4; have HLY := Lib.hid hly; clear hly)
          | (at_builtin; have z1 := hA5.own.alloc (.cells #[.int .i8 y.k, .string y.t, .slice y.A y.n y.c] 26); have z2 : Blk ((w4.alloc (.cells #[.int .i8 y.k, .string y.t, .slice y.A y.n y.c] 26)).alloc (.cells #[.int .i8 y.k, .string y.t, .slice y.A y.n y.c] 26)) (w4.heap.size + 1) 26 #[.int .i8 y.k, .string y.t, .slice y.A y.n y.c] := Blk.new_at (by simp) _ _; have z4 : ∀ u ∈ (#[Value.int .i8 y.k, .string y.t, .slice y.A y.n y.c] : Array Value).toList, u.oneCell' = true := (by simp [Value.oneCell']); have z3 : w.heap.size ≤ w4.heap.size + 1 := (by omega); refine list_push _ rfl (.tmp 29) (.tmp 31) 24 rfl w.heap.size 26 i0 zeroX 3 48 Try.underlying24 hi hz0 hz1 hz2 rfl (by decide) (.slice A cs.length cap) cs.length (cs.flatMap C3.cells) rfl z1 (w4.heap.size + 1) #[.int .i8 y.k, .string y.t, .slice y.A y.n y.c] rfl z2 rfl z4 hcs (by decide) z3 ?_; intro g cap2 w5 hown hgrow hat hlt5))
        go_roundw
        case rel =>
          have hbb : Below (w4.alloc (.cells #[.int .i8 y.k, .string y.t, .slice y.A y.n y.c] 26)).heap.size (w4.alloc (.cells #[.int .i8 y.k, .string y.t, .slice y.A y.n y.c] 26)) ((w4.alloc (.cells #[.int .i8 y.k, .string y.t, .slice y.A y.n y.c] 26)).alloc (.cells #[.int .i8 y.k, .string y.t, .slice y.A y.n y.c] 26)) := (Below.refl _ _).alloc (Nat.le_refl _) _
          have hb44 : Below w4.heap.size w4 ((w4.alloc (.cells #[.int .i8 y.k, .string y.t, .slice y.A y.n y.c] 26)).alloc (.cells #[.int .i8 y.k, .string y.t, .slice y.A y.n y.c] 26)) := ((Below.refl _ w4).alloc (Nat.le_refl _) _).alloc (by simp) _
          have hAc := (HA.out.child hBs HLY.out).keep hb44
          have hA6 := (hA5.keep hbb).push (y := y) hAc hown hgrow hat
          have hk6 := (((hB.trans (hb4.mono hBs)).alloc (by omega) (.cells #[.int .i8 y.k, .string y.t, .slice y.A y.n y.c] 26)).alloc (by simp; omega) (.cells #[.int .i8 y.k, .string y.t, .slice y.A y.n y.c] 26)).grown hgrow (by simp; omega) (fun i hi => (hA5.own.lt i hi).1)
          refine ⟨n, f, cs ++ [y], xs ++ [x], rfl, hn2, by omega, HF.out, ?_, hA6, hk6⟩
          rw [List.length_append, List.length_singleton]; omega
        case measure => simp only [intOf]; omega
end Go.Proofs.Ytephhendkmhggaa

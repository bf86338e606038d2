/- Read, both. -/
import Derived.Test.YtiklliiamljogaaGreatDoorPgA
import Derived.Test.YtiklliiamljogaaGreatDoorMass
import Derived.Test.YtiklliiamljogaaGreatDoorQuiet
namespace Go.Proofs.YtiklliiamljogaaGreatDoor
open Go.RowKit

theorem signs_short (l : List UInt8) : (signs l).length ≤ l.length := signs_le l
theorem tok_short {l : List UInt8} {r : Raw} (h : tok l = some r) : r.t.length ≤ r.n := by
  cases l with
  | nil => cases h
  | cons c m =>
    rw [tok_cons] at h
    split at h
    · rw [raw_eq h]; exact Nat.zero_le _
    · rw [raw_eq h]; exact Nat.zero_le _
    · unfold tokBar at h
      split at h
      · dsimp only at h
        split at h
        · rw [raw_eq h]; exact Nat.le_add_right _ _
        · cases h
      · cases h
    · unfold tokKey at h
      dsimp only at h
      split at h
      · cases h
      · rw [raw_eq h]; exact Nat.le_add_right _ _
    · unfold tokNum at h
      dsimp only at h
      split at h
      · rw [raw_eq h]; exact Nat.le_refl _
      · cases h
    · unfold tokName at h
      rw [raw_eq h]; exact Nat.le_refl _
    · cases h
theorem masses_snoc : ∀ (l : List Sx) (y : Sx), Sx.masses (l ++ [y]) = Sx.masses l + y.mass
  | [], y => by show y.mass + Sx.masses [] = _; rw [Sx.masses]; omega
  | x :: r, y => by show x.mass + Sx.masses (r ++ [y]) = _; rw [masses_snoc r y, Sx.masses]; omega
theorem rd_mass (L : List UInt8) : ∀ f, (∀ p x q, p ≤ L.length → readF L f p = .ok x q → x.mass ≤ 2 * (q - p)) ∧ (∀ p acc x q, p ≤ L.length → listF L f p acc = .ok x q → x.mass ≤ 1 + Sx.masses acc + 2 * (q - p))
  | 0 => ⟨fun p x q _ h => by simp [readF] at h, fun p acc x q _ h => by simp [listF] at h⟩
  | f + 1 => by
    obtain ⟨ih1, ih2⟩ := rd_mass L f
    refine ⟨fun p x q hp h => ?_, fun p acc x q hp h => ?_⟩
    · have hle := startL_le L p hp
      have hge := startL_ge L p
      unfold readF at h
      split at h
      · cases h
      · split at h
        · cases h
        · rename_i r hr
          have hn := tok_len hr
          rw [List.length_drop] at hn
          split at h
          · cases h
          · split at h
            · have h1 := ih2 _ _ _ _ (by omega) h
              have h2 := (rd_ok L f).2 _ _ _ _ (by omega) h
              rw [Sx.masses] at h1
              omega
            · injection h with h2 h3
              have h4 := tok_short hr
              rw [← h2, ← h3, Sx.mass, Sx.masses]
              omega
    · unfold listF at h
      split at h
      · injection h with h2 h3
        rw [← h2, Sx.mass, List.length_nil]
        omega
      · split at h
        · rename_i y q' hy
          have h1 := ih1 _ _ _ hp hy
          have h2 := (rd_ok L f).1 _ _ _ hp hy
          have h3 := ih2 _ _ _ _ h2.2 h
          have h4 := (rd_ok L f).2 _ _ _ _ h2.2 h
          rw [masses_snoc] at h3
          omega
        · cases h
theorem topP_mass {L : List UInt8} {p q : Nat} {x : Sx} (hp : p ≤ L.length) (h : topP L p = .ok x q) : x.mass ≤ 2 * L.length := by
  have h0 := topP_ok hp h
  unfold topP readP at h
  split at h
  · rename_i y q' hy
    split at h
    · cases h
    · injection h with h1 h2
      subst h1 h2
      have h3 := (rd_mass L _).1 _ _ _ hp hy
      have h4 := (rd_ok L _).1 _ _ _ hp hy
      omega
  · cases h
theorem allF_mass (L : List UInt8) : ∀ (f p : Nat) (acc : List Sx), p ≤ L.length → (∀ x ∈ acc, x.mass ≤ 2 * L.length) → ∀ x ∈ (allF L f p acc).1, x.mass ≤ 2 * L.length
  | 0, p, acc, hp, ha => by unfold allF; exact ha
  | f + 1, p, acc, hp, ha => by
    unfold allF
    split
    · exact ha
    · split
      · rename_i x n ht
        have := topP_ok hp ht
        refine allF_mass L f n (acc ++ [x]) this.2.1 fun y hy => ?_
        rcases List.mem_append.1 hy with hy | hy
        · exact ha y hy
        · rw [List.mem_singleton.1 hy]; exact topP_mass hp ht
      · exact ha
theorem allM_mass (L : List UInt8) : ∀ x ∈ (allM L).1, x.mass ≤ 2 * L.length := allF_mass L _ 0 [] (Nat.zero_le _) (fun x hx => by cases hx)
theorem readS_err {L : List UInt8} (h : (allM L).2.2 ≠ 0) : readS L = none := by unfold readS; rw [if_neg h]
theorem readS_len {L : List UInt8} (h : (allM L).1.length ≠ 1) : readS L = none := by
  unfold readS
  split
  · split
    · rename_i x hx
      rw [hx] at h
      exact absurd rfl h
    · rfl
  · rfl
theorem readS_one {L : List UInt8} {x : Sx} (h : (allM L).2.2 = 0) (hx : (allM L).1 = [x]) : readS L = parseP x := by
  unfold readS
  rw [if_pos h, hx]
theorem all_one {x : Sx} {q : Nat} {w w' : World} {e : Ending} (h : AllOut ([x], q, 0) w w' e) : (∃ (b off c : Nat) (n2 : Nat) (k1 : Int) (t1 : ByteArray) (B1 : Option Addr) (n1 m1 : Nat), e = .returned (.tuple #[.slice (some ⟨b, off, none⟩) 1 c, .int .i64 n2, .int .i64 0]) ∧ w'.cell? ⟨b, off, none⟩ = some (.int .i8 k1) ∧ w'.cell? ⟨b, off + 1, none⟩ = some (.string t1) ∧ w'.cell? ⟨b, off + 2, none⟩ = some (.slice B1 n1 m1) ∧ Lies (fun _ => True) w' (.agg #[.int .i8 k1, .string t1, .slice B1 n1 m1]) x) ∧ Below w.heap.size w w' := by
  obtain ⟨⟨A, c, _, hk, he⟩, hb⟩ := h
  obtain ⟨b, off, k1, t1, B1, n1, m1, rfl, _, _, z0, z1, z2, hy⟩ := hk 0 (Nat.zero_lt_succ _)
  rw [Nat.zero_mul, Nat.add_zero] at z0 z1 z2
  exact ⟨⟨b, off, c, q, k1, t1, B1, n1, m1, he, z0, z1, z2, hy.mono fun _ _ _ => True.intro⟩, hb⟩
theorem parse_form {o : Option (List Stp)} {w w' : World} {e : Ending} (h : ParseOut o w w' e) : (∃ (A : Option Addr) (n c : Nat) (z : Int), e = .returned (.tuple #[.slice A n c, .int .i64 z])) ∧ ParseOut o w w' e := by
  refine ⟨?_, h⟩
  obtain ⟨h1, _⟩ := h
  cases o with
  | none => exact ⟨_, _, _, _, h1⟩
  | some L => obtain ⟨A, c, he, _⟩ := h1; exact ⟨_, _, _, _, he⟩

set_option maxHeartbeats 1000000 in
set_option maxRecDepth 100000 in
theorem readx_ok (s : ByteArray) (hs : s.size ≤ 500000) (w : World) : Calls Tryz.prog 18 #[.string s] w fun e w' => ParseOut (readS (byts s)) w w' e := by
  have hms := allM_mass (byts s)
  rw [byts_len] at hms
  have HA := Lib.hid (All_out s (by omega) w)
  obtain ⟨⟨xs, q, ec⟩, hR⟩ : ∃ R, allM (byts s) = R := ⟨_, rfl⟩
  have HNE := Lib.hid (fun (h : ec ≠ 0) => readS_err (L := byts s) (by rw [hR]; exact h))
  have HNL := Lib.hid (fun (h : xs.length ≠ 1) => readS_len (L := byts s) (by rw [hR]; exact h))
  have HONE := Lib.hid (fun (x : Sx) (h : ec = 0) (hx : xs = [x]) => readS_one (L := byts s) (x := x) (by rw [hR]; exact h) (by rw [hR]; exact hx))
  rw [hR] at HA hms
  dsimp only at hms
  have HMS := Lib.hid hms
  clear hR hms
  by_cases he : ec = 0
  · subst he
    by_cases hl : xs.length = 1
    · obtain ⟨x, rfl⟩ : ∃ x, xs = [x] := by
        rcases xs with _ | ⟨x, _ | ⟨y, r⟩⟩
        · cases hl
        · exact ⟨x, rfl⟩
        · cases hl
      have HYE := Lib.hid (HONE.out x rfl rfl)
      have HMX := Lib.hid (show x.mass ≤ 1000000 by have := HMS.out x (by simp); omega)
      have HA2 := Lib.hid (HA.out.mono (fun e w' h => all_one h))
      clear HA hl
      go_enter Tryz.func18, Tryz.ntmps18
      go_wp2_with (first
        | (go_at_call 38; (with_reducible refine HA2.out.mono ?_); rintro e w1 ⟨⟨b, off, c, n2, k1, t1, B1, n1, m1, rfl, c0, c1, c2, hy⟩, hb1⟩; have HY := Lib.hid (parsex_ok x HMX.out _ w1 hy); have HB1 := Lib.hid hb1; clear hy hb1)
        | (go_at_call 16; (with_reducible refine HY.out.mono ?_); rintro e w2 hp; obtain ⟨⟨A2, n3, c3, z3, rfl⟩, hp2⟩ := parse_form hp; have HP := Lib.hid hp2; clear hp hp2))
      exact bodyPost_ret (v := .tuple #[.slice A2 n3 c3, .int .i64 z3]) (by simp [results, Tryz.results18, go_sem]) rfl ⟨by rw [HYE.out]; exact HP.out.1, below_then HB1.out (Nat.le_refl _) HP.out.2⟩
    · have d1 : ((xs.length : Int) != 1) = true := bne_iff_ne.2 (by omega)
      have HNO := Lib.hid (HNL.out hl)
      clear hl
      go_enter Tryz.func18, Tryz.ntmps18
      go_wp2_with (go_at_call 38; (with_reducible refine HA.out.mono ?_); rintro e w1 ⟨⟨A, c, hlc, hk, rfl⟩, hb1⟩)
      exact bodyPost_ret (v := .tuple #[.slice none 0 0, .int .i64 30]) (by simp [results, Tryz.results18, go_sem]) rfl (ParseOut.no HNO.out rfl hb1)
  · have d1 : (ec != 0) = true := bne_iff_ne.2 he
    have HNO := Lib.hid (HNE.out he)
    clear he
    go_enter Tryz.func18, Tryz.ntmps18
    go_wp2_with (go_at_call 38; (with_reducible refine HA.out.mono ?_); rintro e w1 ⟨⟨A, c, hlc, hk, rfl⟩, hb1⟩)
    exact bodyPost_ret (v := .tuple #[.slice none 0 0, .int .i64 30]) (by simp [results, Tryz.results18, go_sem]) rfl (ParseOut.no HNO.out rfl hb1)

set_option maxHeartbeats 1000000 in
set_option maxRecDepth 100000 in
theorem rreadx_ok (s : ByteArray) (hs : s.size ≤ 50000) (w : World) : Calls Tryz.prog 19 #[.string s] w fun e w' => ParseOut (readS (byts s)) w w' e := by
  have hms := allM_mass (byts s)
  rw [byts_len] at hms
  have HA := Lib.hid (rAll_out s (by omega) w)
  obtain ⟨⟨xs, q, ec⟩, hR⟩ : ∃ R, allM (byts s) = R := ⟨_, rfl⟩
  have HNE := Lib.hid (fun (h : ec ≠ 0) => readS_err (L := byts s) (by rw [hR]; exact h))
  have HNL := Lib.hid (fun (h : xs.length ≠ 1) => readS_len (L := byts s) (by rw [hR]; exact h))
  have HONE := Lib.hid (fun (x : Sx) (h : ec = 0) (hx : xs = [x]) => readS_one (L := byts s) (x := x) (by rw [hR]; exact h) (by rw [hR]; exact hx))
  rw [hR] at HA hms
  dsimp only at hms
  have HMS := Lib.hid hms
  clear hR hms
  by_cases he : ec = 0
  · subst he
    by_cases hl : xs.length = 1
    · obtain ⟨x, rfl⟩ : ∃ x, xs = [x] := by
        rcases xs with _ | ⟨x, _ | ⟨y, r⟩⟩
        · cases hl
        · exact ⟨x, rfl⟩
        · cases hl
      have HYE := Lib.hid (HONE.out x rfl rfl)
      have HMX := Lib.hid (show x.mass ≤ 100000 by have := HMS.out x (by simp); omega)
      have HA2 := Lib.hid (HA.out.mono (fun e w' h => all_one h))
      clear HA hl
      go_enter Tryz.func19, Tryz.ntmps19
      go_wp2_with (first
        | (go_at_call 39; (with_reducible refine HA2.out.mono ?_); rintro e w1 ⟨⟨b, off, c, n2, k1, t1, B1, n1, m1, rfl, c0, c1, c2, hy⟩, hb1⟩; have HY := Lib.hid (rparsex_ok x HMX.out _ w1 hy); have HB1 := Lib.hid hb1; clear hy hb1)
        | (go_at_call 17; (with_reducible refine HY.out.mono ?_); rintro e w2 hp; obtain ⟨⟨A2, n3, c3, z3, rfl⟩, hp2⟩ := parse_form hp; have HP := Lib.hid hp2; clear hp hp2))
      exact bodyPost_ret (v := .tuple #[.slice A2 n3 c3, .int .i64 z3]) (by simp [results, Tryz.results19, go_sem]) rfl ⟨by rw [HYE.out]; exact HP.out.1, below_then HB1.out (Nat.le_refl _) HP.out.2⟩
    · have d1 : ((xs.length : Int) != 1) = true := bne_iff_ne.2 (by omega)
      have HNO := Lib.hid (HNL.out hl)
      clear hl
      go_enter Tryz.func19, Tryz.ntmps19
      go_wp2_with (go_at_call 39; (with_reducible refine HA.out.mono ?_); rintro e w1 ⟨⟨A, c, hlc, hk, rfl⟩, hb1⟩)
      exact bodyPost_ret (v := .tuple #[.slice none 0 0, .int .i64 30]) (by simp [results, Tryz.results19, go_sem]) rfl (ParseOut.no HNO.out rfl hb1)
  · have d1 : (ec != 0) = true := bne_iff_ne.2 he
    have HNO := Lib.hid (HNE.out he)
    clear he
    go_enter Tryz.func19, Tryz.ntmps19
    go_wp2_with (go_at_call 39; (with_reducible refine HA.out.mono ?_); rintro e w1 ⟨⟨A, c, hlc, hk, rfl⟩, hb1⟩)
    exact bodyPost_ret (v := .tuple #[.slice none 0 0, .int .i64 30]) (by simp [results, Tryz.results19, go_sem]) rfl (ParseOut.no HNO.out rfl hb1)
end Go.Proofs.YtiklliiamljogaaGreatDoor

/- Sexp. -/
namespace Go.Proofs.YtiklliiamljogaaGreatDoor
open Go.RowKit

/-- A row of expressions of one's own, behind D; what they hold was made behind E. -/
structure AccK (w : World) (D E : Nat) (sv : Value) (cs : List C3) (xs : List Sx) : Prop where
  own : w.ownsRow D 28 3 sv cs.length (cs.flatMap C3.cells)
  len : cs.length = xs.length
  kids : ∀ i (h : i < cs.length), Lies (fun b => E ≤ b ∧ sv.ownBlock ≠ some b) w (cs[i]).val (xs[i]'(len ▸ h))
theorem AccK.of_lvs {w : World} {D : Nat} {sv : Value} {cs : List C3} {xs : List Sx} (h : Lvs w D sv cs xs) (E : Nat) : AccK w D E sv cs xs := ⟨h.own, h.len, fun i hi => h.leaf i hi _ _⟩
theorem AccK.kept {w w' : World} {K : Nat → Prop} {D E : Nat} {sv : Value} {cs : List C3} {xs : List Sx} (h : AccK w D E sv cs xs) (hk : Kept K w w') (h1 : ∀ g, sv.ownBlock = some g → ¬ K g) (h2 : ∀ b, E ≤ b → b < w.heap.size → sv.ownBlock ≠ some b → ¬ K b) : AccK w' D E sv cs xs :=
  ⟨own_kept h.own hk h1, h.len, fun i hi => (h.kids i hi).kept hk fun b hb hs => h2 b hs.1 hb hs.2⟩
theorem AccK.keep {w w' : World} {D E : Nat} {sv : Value} {cs : List C3} {xs : List Sx} (h : AccK w D E sv cs xs) (hb : Below w.heap.size w w') : AccK w' D E sv cs xs := h.kept (Kept.of_below (S := fun _ => False) hb) (fun _ _ h => h) (fun _ _ _ _ h => h)
theorem AccK.acc {w : World} {D E : Nat} {sv : Value} {cs : List C3} {xs : List Sx} (h : AccK w D E sv cs xs) (hE : D ≤ E) : Acc w D sv cs xs := ⟨h.own, h.len, fun i hi => (h.kids i hi).mono fun _ _ hs => ⟨Nat.le_trans hE hs.1, hs.2⟩⟩
theorem AccK.grow {w w' : World} {D E g n cap : Nat} {sv : Value} {cs : List C3} {xs : List Sx} {y : C3} {X : Sx} (h : AccK w D E sv cs xs) (hn : cs.length = n) (hy : Lies (fun b => E ≤ b ∧ sv.ownBlock ≠ some b) w y.val X) (hA : Acc w' D (.slice (some ⟨g, 0, none⟩) (n + 1) cap) (cs ++ [y]) (xs ++ [X])) (hk : Kept (fun i => sv.ownBlock = some i) w w') (hat : sv.ownBlock = some g ∨ w.heap.size < g) :
    AccK w' D E (.slice (some ⟨g, 0, none⟩) (n + 1) cap) (cs ++ [y]) (xs ++ [X]) := by
  subst hn
  have hS : ∀ {v : Value} {z : Sx}, Lies (fun b => E ≤ b ∧ sv.ownBlock ≠ some b) w v z → Lies (fun b => E ≤ b ∧ (Value.slice (some ⟨g, 0, none⟩) (cs.length + 1) cap).ownBlock ≠ some b) w' v z := fun hl => by
    have h1 := hl.mono (S' := fun b => (E ≤ b ∧ g ≠ b) ∧ sv.ownBlock ≠ some b) fun b hb hs => ⟨⟨hs.1, fun e => by
      subst e
      rcases hat with h | h
      · exact hs.2 h
      · omega⟩, hs.2⟩
    exact (h1.kept hk fun b _ hs e => hs.2 e).mono fun b _ hs => ⟨hs.1.1, fun e => hs.1.2 (own_ga e)⟩
  refine ⟨hA.own, hA.len, fun i hi => ?_⟩
  rcases Nat.lt_or_ge i cs.length with h1 | h1
  · rw [List.getElem_append_left h1, List.getElem_append_left (h.len ▸ h1)]
    exact hS (h.kids i h1)
  · rw [List.length_append, List.length_singleton] at hi
    obtain rfl : i = cs.length := by omega
    rw [List.getElem_append_right (Nat.le_refl _), List.getElem_append_right (by rw [h.len]; exact Nat.le_refl _)]
    simpa using hS hy

/-- The state at the loop's head. -/
structure SxAt (W wx : World) (E bx : Nat) (L : List Stp) (i : Nat) (A4 : Option Addr) (n4 c4 : Nat) (cs : List C3) : Prop where
  below : Below W.heap.size W wx
  n : cs.length = n4
  nn : n4 = i + 1
  box : Blk wx bx 28 #[.int .i8 3, .string ⟨#[]⟩, .slice A4 n4 c4]
  lt : W.heap.size ≤ bx ∧ bx < E ∧ E ≤ wx.heap.size
  far : (Value.slice A4 n4 c4).ownBlock ≠ some bx
  may : (L.take i).all Stp.may = true
  acc : AccK wx W.heap.size E (.slice A4 n4 c4) cs (symS wProof :: (L.take i).map Stp.sx)
theorem SxAt.tab {W wx : World} {E bx : Nat} {L : List Stp} {i : Nat} {A4 : Option Addr} {n4 c4 : Nat} {cs : List C3} (h : SxAt W wx E bx L i A4 n4 c4 cs) (ht : Tab W) : Tab wx := ht.kept (Kept.of_below (S := fun i => W.heap.size ≤ i) h.below) (fun g hg h => by have := ht.lt hg; omega)
theorem SxAt.keep {W wx w' : World} {E bx : Nat} {L : List Stp} {i : Nat} {A4 : Option Addr} {n4 c4 : Nat} {cs : List C3} (h : SxAt W wx E bx L i A4 n4 c4 cs) (hb : Below wx.heap.size wx w') : SxAt W w' E bx L i A4 n4 c4 cs :=
  ⟨below_then h.below (Nat.le_refl _) (hb.mono (Nat.le_refl _)), h.n, h.nn, h.box.below hb h.box.lt, ⟨h.lt.1, h.lt.2.1, Nat.le_trans h.lt.2.2 hb.size⟩, h.far, h.may, h.acc.keep hb⟩
/-- One more stands behind them. -/
theorem SxAt.more {W w5 w6 : World} {E bx : Nat} {L : List Stp} {i : Nat} {A4 : Option Addr} {n4 c4 ga ca : Nat} {cs : List C3} {z : C3} (h : SxAt W w5 E bx L i A4 n4 c4 cs) (hi : i < L.length) (hm : (L[i]).may = true) (hz : Lies (fun b => E ≤ b ∧ (Value.slice A4 n4 c4).ownBlock ≠ some b) w5 z.val (L[i]).sx)
    (hA : Acc w6 W.heap.size (.slice (some ⟨ga, 0, none⟩) (n4 + 1) ca) (cs ++ [z]) ((symS wProof :: (L.take i).map Stp.sx) ++ [(L[i]).sx])) (hk : Kept (fun i => (Value.slice A4 n4 c4).ownBlock = some i) w5 w6) (hat : (Value.slice A4 n4 c4).ownBlock = some ga ∨ w5.heap.size < ga) :
    SxAt W (w6.setCell ⟨bx, 2, none⟩ (.slice (some ⟨ga, 0, none⟩) (n4 + 1) ca)) E bx L (i + 1) (some ⟨ga, 0, none⟩) (n4 + 1) ca (cs ++ [z]) := by
  have hlt := h.lt
  have hne : ga ≠ bx := by
    rintro rfl
    rcases hat with e | e
    · exact h.far e
    · omega
  have hb6 : Below W.heap.size W w6 := h.below.trans (hk.below h.below.size fun g hg => (h.acc.own.lt g (by simpa using hg)).1)
  have hk1 := Kept.set1 w6 bx 2 (.slice (some ⟨ga, 0, none⟩) (n4 + 1) ca)
  have hs6 := hk.size
  refine ⟨hb6.trans (hk1.below hb6.size fun k hk => by omega), by rw [List.length_append, h.n]; rfl, by rw [h.nn], (h.box.kept hk h.far).set_ 2 _, ⟨hlt.1, hlt.2.1, by rw [show (w6.setCell ⟨bx, 2, none⟩ (.slice (some ⟨ga, 0, none⟩) (n4 + 1) ca)).heap.size = w6.heap.size by simp [World.setCell]]; omega⟩, fun e => hne (own_ga e), all_take hi h.may hm, ?_⟩
  have := (h.acc.grow h.n hz hA hk hat).kept hk1 (fun g hg e => by have := own_ga hg; omega) (fun b h1 _ _ e => by omega)
  rw [List.take_succ_eq_append_getElem hi, List.map_append]
  exact this

set_option maxHeartbeats 4000000 in
set_option maxRecDepth 100000 in
theorem sexp_ok (L : List Stp) (hf : Fine L) (w : World) (ht : Tab w) (A : Option Addr) (c : Nat) (h : Steps w A L) :
    Calls Tryz.prog 10 #[.slice A L.length c] w fun e w' => SexpOut L w w' e := by
  obtain ⟨W, eW⟩ : ∃ W, w.alloc (.cells #[.int .i8 0, .string ⟨#[]⟩, .slice none 0 0] 28) = W := ⟨_, rfl⟩
  have hbW : Below w.heap.size w W := eW ▸ (Below.refl _ w).alloc (Nat.le_refl _) _
  have hRes : Blk W w.heap.size 28 #[.int .i8 0, .string ⟨#[]⟩, .slice none 0 0] := eW ▸ Blk.new w _ _
  have hsW : W.heap.size = w.heap.size + 1 := by rw [← eW]; simp
  have HW := Lib.hid hbW
  have HSW := Lib.hid hsW
  have HT := Lib.hid (ht.keep hbW)
  have HST := Lib.hid (fun w1 (h1 : Below W.heap.size W w1) => (h.keep hbW).keep h1)
  have HRES := Lib.hid (fun w1 (h1 : Below W.heap.size W w1) => hRes.below h1 hRes.lt)
  have HF := Lib.hid hf
  have hl := hf.len
  have d9 : decide ((L.length : Int) > 4194304) = false := decide_eq_false (by omega)
  have d9' : decide ((4194304 : Int) < L.length) = false := d9
  clear h hf hbW hRes hsW ht
  go_enter Tryz.func10, Tryz.ntmps10
  go_wp2_with (go_at_call 26; refine (sym_ok _ _).mono ?_; rintro e w2 ⟨rfl, hb2⟩; have HB2 := Lib.hid hb2; clear hb2)
  have hat0 : ∃ w3 w4, w2.alloc (.cells #[.int .i8 0, .string ⟨#[112, 114, 111, 111, 102]⟩, .slice none 0 0] 28) = w3 ∧ w3.alloc (.cells #[.int .i8 3, .string ⟨#[]⟩, .slice (some ⟨w2.heap.size, 0, none⟩) 1 1] 28) = w4 ∧ w3.heap.size = w2.heap.size + 1 ∧ SxAt W w4 w4.heap.size w3.heap.size L 0 (some ⟨w2.heap.size, 0, none⟩) 1 1 [symC wProof] := by
    obtain ⟨w3, e3⟩ : ∃ w3, w2.alloc (.cells #[.int .i8 0, .string ⟨#[112, 114, 111, 111, 102]⟩, .slice none 0 0] 28) = w3 := ⟨_, rfl⟩
    obtain ⟨w4, e4⟩ : ∃ w4, w3.alloc (.cells #[.int .i8 3, .string ⟨#[]⟩, .slice (some ⟨w2.heap.size, 0, none⟩) 1 1] 28) = w4 := ⟨_, rfl⟩
    have s3 : w3.heap.size = w2.heap.size + 1 := by rw [← e3]; simp
    have s4 : w4.heap.size = w2.heap.size + 2 := by rw [← e4]; simp; omega
    have b3 : Below w2.heap.size w2 w3 := e3 ▸ (Below.refl _ w2).alloc (Nat.le_refl _) _
    have b4 : Below w3.heap.size w3 w4 := e4 ▸ (Below.refl _ w3).alloc (Nat.le_refl _) _
    have hs := HB2.out.size
    have hv : Lvs w3 W.heap.size (.slice (some ⟨w2.heap.size, 0, none⟩) 1 1) [symC wProof] [symS wProof] := e3 ▸ (Lvs.one w2 (symC wProof) _ (sym_lies _)).base hs
    exact ⟨w3, w4, e3, e4, s3, ⟨(HB2.out.trans (b3.mono hs)).trans (b4.mono (by omega)), rfl, rfl, e4 ▸ Blk.new w3 _ _, ⟨by omega, by omega, Nat.le_refl _⟩, fun e => by have := own_ga e; omega, rfl, AccK.of_lvs (hv.keep b4) _⟩⟩
  obtain ⟨w3, w4, e3, e4, s3, hat⟩ := hat0
  rw [s3] at hat
  have HAT := Lib.hid hat
  clear hat s3
  go_loopw [12] (fun d wx => ∃ (i : Nat) (A4 : Option Addr) (n4 c4 : Nat) (cs : List C3), i ≤ L.length ∧ d = .int .i64 i ∧ SxAt W wx w4.heap.size (w2.heap.size + 1) L i A4 n4 c4 cs) (fun d _ => (L.length - intOf d).toNat)
  case atStart => exact ⟨0, _, _, _, _, Nat.zero_le _, rfl, by rw [e3, e4]; exact HAT.out⟩
  case round =>
    obtain ⟨i, A4, n4, c4, cs, hi, rfl, hS⟩ := hrel
    have HS := Lib.hid hS
    obtain ⟨r0, r1, r2, f0, f1, f2⟩ := blk3 (HRES.out wr hS.below)
    obtain ⟨x0, x1, x2, g0, g1, g2⟩ := blk3 hS.box
    clear hS HAT
    by_cases hin : i < L.length
    · have hiz : (i : Int) < (L.length : Int) := by omega
      have d1 : decide ((i : Int) < L.length) = true := decide_eq_true hiz
      have hmem := List.getElem_mem hin
      obtain ⟨b, off, y, rfl, hlt, ⟨c0, c1, c2, c3⟩, hy⟩ := (HST.out wr HS.out.below) i hin
      have hkd := HF.out.kind _ hmem
      have hbS : Below wr.heap.size wr (wr.alloc (.cells #[.int .i8 y.k, .int .i64 y.a, .int .i64 y.b, .slice y.A y.n y.c] 46)) := (Below.refl _ wr).alloc (Nat.le_refl _) _
      have hKS := Blk.new wr 46 #[.int .i8 y.k, .int .i64 y.a, .int .i64 y.b, .slice y.A y.n y.c]
      obtain ⟨wy, ey⟩ : ∃ wy, wr.alloc (.cells #[.int .i8 y.k, .int .i64 y.a, .int .i64 y.b, .slice y.A y.n y.c] 46) = wy := ⟨_, rfl⟩
      rw [ey] at hbS hKS
      have hM := may_ok (L[i]) wy y (hy.keep hbS) (by omega)
      have HWR := Lib.hid (fun (hm : (L[i]'hin).may = true) w1 (h1 : Below wy.heap.size wy w1) (h2 : Tab w1) => written_ok (L[i]) hm (HF.out.lits _ hmem) w1 h2 y ((hy.keep hbS).keep h1))
      have HSY := Lib.hid (HS.out.keep hbS)
      have HKS := Lib.hid hKS
      have HAN := Lib.hid (fun h => all_not hin h)
      have HMORE := Lib.hid (fun (w5 w6 : World) (ga ca : Nat) (z : C3) (h : SxAt W w5 w4.heap.size (w2.heap.size + 1) L i A4 n4 c4 cs) (hm : (L[i]'hin).may = true) => h.more (w6 := w6) (ga := ga) (ca := ca) (z := z) hin hm)
      obtain ⟨S, hSS⟩ : ∃ S, L[i] = S := ⟨_, rfl⟩
      rw [hSS] at hM HWR HAN HMORE
      have HM := Lib.hid hM
      clear hM hSS hmem hy hbS hKS hkd
      unfold C4.val at HM HWR
      obtain ⟨k0, k1, k2, k3⟩ := blk4 HKS.out
      cases hms : S.may with
      | false =>
        rw [hms] at HM
        have HAN := Lib.hid (HAN.out hms)
        go_wp2_with (go_at_call 23; refine HM.out.mono ?_; rintro e w5 ⟨rfl, hb5⟩; have HB5 := Lib.hid (HSY.out.keep hb5).below; obtain ⟨r0, r1, r2, f0, f1, f2⟩ := blk3 (HRES.out w5 HB5.out); clear hb5)
        have hset := (HRES.out w5 HB5.out).set3 (.int .i8 0) (.string ⟨#[]⟩) (.slice none 0 0)
        obtain ⟨v0, v1, v2, _⟩ := blk3 hset
        refine bodyPost_ret (v := .tuple #[zeroX, .int .i64 2]) ?_ rfl ?_
        · simp [zeroX, results, Tryz.results10, go_sem, v0, v1, v2]
        refine SexpOut.no HAN.out rfl ?_
        exact ((((HW.out.trans (HB5.out.mono HW.out.size)).setCell (p := ⟨w.heap.size, 0, none⟩) (Nat.le_refl _) (.int .i8 0)).setCell (p := ⟨w.heap.size, 1, none⟩) (Nat.le_refl _) (.string ⟨#[]⟩)).setCell (p := ⟨w.heap.size, 2, none⟩) (Nat.le_refl _) (.slice none 0 0))
      | true =>
        rw [hms] at HM
        have HWR := Lib.hid (HWR.out hms)
        go_wp2_with (go_at_call 23; refine HM.out.mono ?_; rintro e w5 ⟨rfl, hb5⟩; have HS5 := Lib.hid (HSY.out.keep hb5); have HB5 := Lib.hid hb5; have HK5 := Lib.hid (HKS.out.below hb5 HKS.out.lt); clear hb5)
        obtain ⟨j0, j1, j2, j3⟩ := blk4 HK5.out
        obtain ⟨x0, x1, x2, g0, g1, g2⟩ := blk3 HS5.out.box
        have HD5 := Lib.hid (HS5.out.keep ((Below.refl _ w5).drew))
        have HT5 := Lib.hid (HD5.out.tab HT.out)
        have hcn : (cs.length + 1) * 48 ≤ 140737488355328 := by have := HS5.out.n; have := HS5.out.nn; omega
        go_region_law
          (first
            | (refine acc_push_step w6 (by rfl) (.tmp 21) (.tmp 24) (by rfl) W.heap.size (.slice A4 n4 c4) cs _ HAC.out HS6.out.below.size z S.sx (HZ.out.mono fun b _ hs => ⟨Nat.le_trans (Nat.le_trans HS6.out.lt.1 (Nat.le_of_lt HS6.out.lt.2.1)) hs.1, hs.2⟩) hcn (by rfl) (by rfl) ?_; intro ga ca w7 hA7 hk7 hat7; rw [HS6.out.n] at hA7 ⊢; obtain ⟨q0, q1, q2, q3, q4, q5⟩ := blk3 (HS6.out.box.kept hk7 HS6.out.far); have HM7 := Lib.hid (HMORE.out w6 w7 ga ca z HS6.out hms HZ.out hA7 hk7 hat7); clear hA7 hk7 hat7)
            | (rw [if_pos (by rfl)]; go_simp; go_at_call 27; refine (HWR.out w5.drew (HB5.out.drew) HT5.out).mono ?_; rintro e w6 ⟨⟨z, hz, rfl⟩, hb6⟩; have HS6 := Lib.hid (HD5.out.keep hb6); obtain ⟨u0, u1, u2, v0, v1, v2⟩ := blk3 HS6.out.box; have u2a := (blk3 (HS6.out.box.alloc (.cells #[.int .i8 z.k, .string z.t, .slice z.A z.n z.c] 28))).2.2.1; have HZ := Lib.hid (hz.mono (S' := fun b => w4.heap.size ≤ b ∧ (Value.slice A4 n4 c4).ownBlock ≠ some b) (fun b _ hs => ⟨Nat.le_trans HD5.out.lt.2.2 hs, fun e => by have := (HD5.out.acc.own.lt b e).2; omega⟩)); have HAC := Lib.hid (HS6.out.acc.acc (Nat.le_trans HS6.out.lt.1 (Nat.le_of_lt HS6.out.lt.2.1))); clear hz hb6))
        all_goals
          go_wp2
          go_roundw
          case rel => exact ⟨i + 1, some ⟨ga, 0, none⟩, n4 + 1, ca, cs ++ [z], by omega, by go_num, HM7.out⟩
          case measure => simp only [intOf]; omega
    · have d1 : decide ((i : Int) < L.length) = false := decide_eq_false (by omega)
      have hall : L.take i = L := List.take_of_length_le (by omega)
      have HA := Lib.hid (show L.all Stp.may = true by have := HS.out.may; rwa [hall] at this)
      have hax := HS.out.acc.acc (Nat.le_trans HS.out.lt.1 (Nat.le_of_lt HS.out.lt.2.1))
      rw [hall] at hax
      have hlie := hax.lies (by simp; omega)
      have HLI := Lib.hid hlie
      clear hax hlie hall
      go_wp2
      have hset := (HRES.out wr HS.out.below).set3 (.int .i8 3) (.string ⟨#[]⟩) (.slice A4 n4 c4)
      obtain ⟨v0, v1, v2, _⟩ := blk3 hset
      have hkf : Kept (fun i => i = w.heap.size) wr (((wr.setCell ⟨w.heap.size, 0, none⟩ (.int .i8 3)).setCell ⟨w.heap.size, 1, none⟩ (.string ⟨#[]⟩)).setCell ⟨w.heap.size, 2, none⟩ (.slice A4 n4 c4)) :=
        Kept.setCell (S := fun i => i = w.heap.size) (Kept.setCell (S := fun i => i = w.heap.size) (Kept.setCell (S := fun i => i = w.heap.size) (Kept.refl _ wr) (p := ⟨w.heap.size, 0, none⟩) (.inl rfl) _) (p := ⟨w.heap.size, 1, none⟩) (.inl rfl) _) (p := ⟨w.heap.size, 2, none⟩) (.inl rfl) _
      refine bodyPost_ret (v := .tuple #[.agg #[.int .i8 3, .string ⟨#[]⟩, .slice A4 n4 c4], .int .i64 0]) ?_ rfl ?_
      · simp [results, Tryz.results10, go_sem, v0, v1, v2]
      refine SexpOut.yes HA.out ⟨3, ⟨#[]⟩, A4, n4, c4⟩ ?_ rfl ?_
      · exact (HLI.out.kept hkf (fun b _ h1 h2 => by have := HSW.out; omega)).mono fun b _ h1 => by have := HSW.out; omega
      · exact HW.out.trans ((HS.out.below.mono HW.out.size).trans (hkf.below (by have := HS.out.below.size; have := HSW.out; omega) (fun k hk => by omega)))
end Go.Proofs.YtiklliiamljogaaGreatDoor

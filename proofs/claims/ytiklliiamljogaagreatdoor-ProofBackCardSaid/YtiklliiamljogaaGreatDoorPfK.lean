/- proof.text: an expression's text into a builder. -/
import Derived.Test.YtiklliiamljogaaGreatDoorPfJ
import Derived.Test.YtiklliiamljogaaGreatDoorBldA
import Derived.Lib.OwnKind
namespace Go.Proofs.YtiklliiamljogaaGreatDoor
open Go.RowKit Go.Lib

theorem rawt_snoc : ∀ (l : List Sx) (y : Sx), Sx.rawt (l ++ [y]) = Sx.rawt l ++ 32 :: y.raw
  | [], y => by simp [Sx.rawt]
  | x :: r, y => by
    show 32 :: (x.raw ++ Sx.rawt (r ++ [y])) = 32 :: (x.raw ++ Sx.rawt r) ++ 32 :: y.raw
    rw [rawt_snoc r y]
    simp
theorem raws_snoc (l : List Sx) (y : Sx) (h : l ≠ []) : Sx.raws (l ++ [y]) = Sx.raws l ++ 32 :: y.raw := by
  cases l with
  | nil => exact absurd rfl h
  | cons x r =>
    show x.raw ++ Sx.rawt (r ++ [y]) = (x.raw ++ Sx.rawt r) ++ 32 :: y.raw
    rw [rawt_snoc, List.append_assoc]
theorem rawt_take : ∀ (l : List Sx) (i : Nat), (Sx.rawt (l.take i)).length ≤ (Sx.rawt l).length
  | [], i => by simp [Sx.rawt]
  | x :: r, 0 => by simp [Sx.rawt]
  | x :: r, i + 1 => by
    have := rawt_take r i
    rw [List.take_succ_cons, Sx.rawt, Sx.rawt]
    simp only [List.length_cons, List.length_append]
    omega
theorem raws_take (l : List Sx) (i : Nat) : (Sx.raws (l.take i)).length ≤ (Sx.raws l).length := by
  cases l with
  | nil => simp [Sx.raws]
  | cons x r =>
    cases i with
    | zero => simp [Sx.raws]
    | succ i =>
      have := rawt_take r i
      rw [List.take_succ_cons, Sx.raws, Sx.raws]
      simp only [List.length_append]
      omega

/-- Rows of bytes at or beyond D alone, and the block b, are written. -/
structure Bk (D : Nat) (b : Option Nat) (w w' : World) : Prop where
  os : w'.os = w.os
  tape : w'.tape = w.tape
  output : w'.output = w.output
  size : w.heap.size ≤ w'.heap.size
  block : ∀ k, k < w.heap.size → b ≠ some k → (k < D ∨ ∀ c fz, w.heap[k]? ≠ some (.cells c 5 fz)) → w'.heap[k]? = w.heap[k]?
theorem Bk.refl (D : Nat) (b : Option Nat) (w : World) : Bk D b w w := ⟨rfl, rfl, rfl, Nat.le_refl _, fun _ _ _ _ => rfl⟩
theorem Bk.trans {D : Nat} {b : Option Nat} {w w1 w2 : World} (h : Bk D b w w1) (k : Bk D b w1 w2) : Bk D b w w2 :=
  ⟨k.os.trans h.os, k.tape.trans h.tape, k.output.trans h.output, Nat.le_trans h.size k.size, fun j hj hb hu => by
    have e := h.block j hj hb hu
    exact (k.block j (Nat.lt_of_lt_of_le hj h.size) hb (hu.imp id fun hu c fz => by rw [e]; exact hu c fz)).trans e⟩
theorem Bk.kept {D : Nat} {b : Option Nat} {w w' : World} (h : Bk D b w w') : Kept (fun i => b = some i ∨ D ≤ i) w w' :=
  ⟨h.os, h.tape, h.output, h.size, fun k hk hn => h.block k hk (fun e => hn (.inl e)) (.inl (Nat.lt_of_not_le fun e => hn (.inr e)))⟩
theorem Bk.of_kept {D : Nat} {b : Option Nat} {w w' : World} {v : Value} {n : Nat} {xs : List Value} (ho : w.ownsRow D 5 1 v n xs) (h : Kept (fun i => b = some i ∨ v.ownBlock = some i) w w') : Bk D b w w' :=
  ⟨h.os, h.tape, h.output, h.size, fun k hk hb hu => h.block k hk fun e => by
    rcases e with e | e
    · exact hb e
    · rcases hu with hu | hu
      · have := (ho.lt k e).1; omega
      · obtain ⟨c, fz, hc⟩ := ownsRow_kind ho k e
        exact hu c fz hc⟩
theorem Bk.blk {D : Nat} {b : Option Nat} {w w' : World} {x : Nat} {t : TypeId} {cs : Array Value} (h : Bk D b w w') (hB : Blk w x t cs) (ht : t ≠ 5) (hx : b ≠ some x) : Blk w' x t cs := by
  have hlt := hB.lt
  unfold Blk at *
  rw [h.block x hlt hx (.inr fun c fz => by rw [hB]; rintro h; injection h with h; injection h with _ h; exact ht h), hB]
theorem Bk.of_below {D : Nat} {b : Option Nat} {w w' : World} (h : Below w.heap.size w w') : Bk D b w w' := ⟨h.os, h.tape, h.output, h.size, fun k hk _ _ => h.block k hk⟩

theorem check_at (w : World) (D b : Nat) (bs : List UInt8) (p v : Value) (hp : p = .pointer none ∨ p = .pointer (some ⟨b, 0, none⟩)) (hB : Blk w b 54 #[p, v]) (ho : w.ownsRow D 5 1 v bs.length (Lib.byteCells bs)) (hlt : b < D) :
    Calls Tryz.prog 72 #[.pointer (some ⟨b, 0, none⟩)] w fun e w' => e = .returned (.tuple #[]) ∧ Blk w' b 54 #[.pointer (some ⟨b, 0, none⟩), v] ∧ w'.ownsRow D 5 1 v bs.length (Lib.byteCells bs) ∧ Kept (fun i => i = b) w w' := by
  rcases hp with rfl | rfl
  · refine (check_fresh w b v hB).mono ?_
    rintro e w' ⟨rfl, rfl⟩
    have hk := (Kept.refl (fun i => i = b) w).setCell (p := ⟨b, 0, none⟩) (.inl rfl) (.pointer (some ⟨b, 0, none⟩))
    exact ⟨rfl, hB.set_ 0 _, own_kept ho hk (fun g hg e => by have := (ho.lt g hg).1; omega), hk⟩
  · refine (check_used w b (hB.cell 0)).mono ?_
    rintro e w' ⟨rfl, rfl⟩
    exact ⟨rfl, hB, ho, Kept.refl _ _⟩

set_option maxHeartbeats 1000000 in
set_option maxRecDepth 100000 in
theorem xbyte_ok (w : World) (D b : Nat) (bs : List UInt8) (h : WB w D b bs) (c : UInt8) (hn : bs.length ≤ 100000000) :
    Calls Tryz.prog 56 #[.pointer (some ⟨b, 0, none⟩), .int .u8 c.toNat] w fun e w' => e = .returned .nilIface ∧ WB w' D b (bs ++ [c]) ∧ Bk D (some b) w w' := by
  obtain ⟨p, v, hp, hB0, ho0⟩ := h.box
  have hlt := h.lt
  have hle := h.le
  have HC := Lib.hid (check_at w D b bs p v hp hB0 ho0 hlt)
  have HO := Lib.hid ho0
  obtain ⟨i0, hi, hz0, hz1, hz2⟩ := info_parts byte_info
  clear h hB0 hp ho0
  go_enter Tryz.func56, Tryz.ntmps56
  go_wp2_with (first
    | (go_at_call 72; refine HC.out.mono ?_; rintro e w1 ⟨rfl, hB, ho, hk⟩; obtain ⟨A, cap, rfl⟩ := own_slice ho; obtain ⟨c0, c1, f0, f1⟩ := wcells hB)
    | (at_builtin; have z1 := ho.alloc (.cells #[.int .u8 c.toNat] 5); have z2 : Blk (w1.alloc (.cells #[.int .u8 c.toNat] 5)) w1.heap.size 5 #[.int .u8 c.toNat] := Blk.new _ _ _; have z4 : ∀ u ∈ (#[Value.int .u8 c.toNat] : Array Value).toList, u.oneCell' = true := (by simp [Value.oneCell']); have z3 : D ≤ w1.heap.size := Nat.le_trans hle hk.size; refine list_push _ rfl (.tmp 11) (.tmp 13) 52 rfl D 5 i0 (.int .u8 0) 1 1 Tryz.underlying52 hi hz0 hz1 hz2 rfl (by decide) (.slice A bs.length cap) bs.length (Lib.byteCells bs) rfl z1 w1.heap.size #[.int .u8 c.toNat] rfl z2 rfl z4 (by omega) (by decide) z3 ?_; intro g cap2 w5 hown hgrow hat hlt5; have hX5 := (hB.alloc (.cells #[.int .u8 c.toNat] 5)).grown hgrow (fun h => by have := (ho.lt b h.symm).1; omega); obtain ⟨v0, v1, g0, g1⟩ := wcells hX5))
  go_ret
  have hkk := ((((hk.mono (S' := fun i => some b = some i ∨ (Value.slice A bs.length cap).ownBlock = some i) (fun _ _ h => .inl (by rw [h]))).alloc (.cells #[.int .u8 c.toNat] 5)).grown hgrow (fun i hi => .inl (.inr hi))).setCell (p := ⟨b, 1, none⟩) (.inl (.inl rfl)) (.slice (some ⟨g, 0, none⟩) (bs.length + 1) cap2))
  refine ⟨rfl, ⟨⟨_, _, .inr rfl, hX5.set_ 1 _, ?_⟩, hlt, Nat.le_trans hle hkk.size⟩, Bk.of_kept HO.out hkk⟩
  have hz := own_kept hown (Kept.set1 w5 b 1 (.slice (some ⟨g, 0, none⟩) (bs.length + 1) cap2)) (fun g hg e => by have := (hown.lt g hg).1; omega)
  rw [List.length_append, List.length_singleton, byteCells_append]
  exact hz

set_option maxHeartbeats 1000000 in
set_option maxRecDepth 100000 in
theorem xstring_ok (w : World) (D b : Nat) (bs : List UInt8) (h : WB w D b bs) (s : ByteArray) (hn : bs.length + s.size ≤ 100000000) :
    Calls Tryz.prog 55 #[.pointer (some ⟨b, 0, none⟩), .string s] w fun e w' => e = .returned (.tuple #[.int .i64 s.size, .nilIface]) ∧ WB w' D b (bs ++ byts s) ∧ Bk D (some b) w w' := by
  obtain ⟨p, v, hp, hB0, ho0⟩ := h.box
  have hlt := h.lt
  have hle := h.le
  have HC := Lib.hid (check_at w D b bs p v hp hB0 ho0 hlt)
  have HO := Lib.hid ho0
  obtain ⟨i0, hi, hz0, hz1, hz2⟩ := info_parts byte_info
  clear h hB0 hp ho0
  go_enter Tryz.func55, Tryz.ntmps55
  go_wp2_with (first
    | (go_at_call 72; refine HC.out.mono ?_; rintro e w1 ⟨rfl, hB, ho, hk⟩; obtain ⟨A, cap, rfl⟩ := own_slice ho; obtain ⟨c0, c1, f0, f1⟩ := wcells hB)
    | (at_builtin; have z3 : D ≤ w1.heap.size := Nat.le_trans hle hk.size; refine wpList_append_own_string w1 rfl (.tmp 12) (.tmp 13) 52 9 rfl D 5 i0 Tryz.underlying52 Tryz.underlying9 hi hz0 hz1 hz2 (.slice A bs.length cap) bs.length (Lib.byteCells bs) rfl ho s rfl (by unfold maxLen; omega) (by omega) z3 ?_; intro v' w5 hown hgrow _; have hX5 := hB.grown hgrow (fun h => by have := (ho.lt b h.symm).1; omega); obtain ⟨v0, v1, g0, g1⟩ := wcells hX5; obtain ⟨A5, cap5, rfl⟩ := own_slice hown))
  have hkk := (((hk.mono (S' := fun i => some b = some i ∨ (Value.slice A bs.length cap).ownBlock = some i) (fun _ _ h => .inl (by rw [h]))).grown hgrow (fun i hi => .inl (.inr hi))).setCell (p := ⟨b, 1, none⟩) (.inl (.inl rfl)) (.slice A5 (bs.length + s.size) cap5))
  refine bodyPost_ret (v := .tuple #[.int .i64 s.size, .nilIface]) (by simp [results, Tryz.results55, go_sem]) rfl ⟨rfl, ⟨⟨_, _, .inr rfl, hX5.set_ 1 _, ?_⟩, hlt, Nat.le_trans hle hkk.size⟩, Bk.of_kept HO.out hkk⟩
  have hz := own_kept hown (Kept.set1 w5 b 1 (.slice A5 (bs.length + s.size) cap5)) (fun g hg e => by have := (hown.lt g hg).1; omega)
  rw [List.length_append, byts_len, byteCells_append]
  exact hz

theorem Kids.kept3 {S K : Nat → Prop} {w w' : World} {A : Option Addr} {l : List Sx} (h : Kids S w A l) (hk : Kept K w w') (hS : ∀ b, b < w.heap.size → S b → ¬ K b) : Kids S w' A l := fun i hi => by
  obtain ⟨b, off, k, t, B, n, c, e, hSb, hlt, h0, h1, h2, hl⟩ := h i hi
  have hb := hk.block b hlt (hS b hlt hSb)
  have ec : ∀ i, w'.cell? ⟨b, i, none⟩ = w.cell? ⟨b, i, none⟩ := fun i => by unfold World.cell?; rw [hb]
  exact ⟨b, off, k, t, B, n, c, e, hSb, Nat.lt_of_lt_of_le hlt hk.size, (ec _).trans h0, (ec _).trans h1, (ec _).trans h2, hl.kept hk hS⟩

theorem Bk.kids {D b : Nat} {w w' : World} {A : Option Addr} {l : List Sx} (hk : Bk D (some b) w w') (h : Kids (fun i => i < D ∧ i ≠ b) w A l) : Kids (fun i => i < D ∧ i ≠ b) w' A l :=
  h.kept3 hk.kept fun k _ h1 h2 => by
    rcases h2 with h2 | h2
    · injection h2 with h2; exact h1.2 h2.symm
    · have := h1.1; omega
theorem Bk.lies {D b : Nat} {w w' : World} {v : Value} {x : Sx} (hk : Bk D (some b) w w') (h : Lies (fun i => i < D ∧ i ≠ b) w v x) : Lies (fun i => i < D ∧ i ≠ b) w' v x :=
  h.kept hk.kept fun k _ h1 h2 => by
    rcases h2 with h2 | h2
    · injection h2 with h2; exact h1.2 h2.symm
    · have := h1.1; omega

/-- What text does to an expression. -/
def TextAt (x : Sx) : Prop := ∀ (w : World) (D b : Nat) (bs : List UInt8) (_ : WB w D b bs) (v : Value) (_ : Lies (fun i => i < D ∧ i ≠ b) w v x) (_ : bs.length + x.raw.length ≤ 50000000),
    Calls Tryz.prog 30 #[.pointer (some ⟨b, 0, none⟩), v] w fun e w' => e = .returned (.tuple #[]) ∧ WB w' D b (bs ++ x.raw) ∧ Bk D (some b) w w'

theorem raws_one (l : List Sx) (i : Nat) (hi : i < l.length) (h0 : i ≠ 0) : Sx.raws (l.take (i + 1)) = Sx.raws (l.take i) ++ 32 :: (l[i]).raw := by
  rw [List.take_succ_eq_append_getElem hi]
  refine raws_snoc _ _ fun e => ?_
  have := congrArg List.length e
  rw [List.length_take, List.length_nil] at this
  omega

set_option maxHeartbeats 2000000 in
set_option maxRecDepth 100000 in
theorem text_leaf (k : Int) (hk : k ≠ 3) (t : ByteArray) (A : Option Addr) (n c : Nat) (w : World) (D b : Nat) (bs : List UInt8) (h : WB w D b bs) (hn : bs.length + t.size ≤ 100000000) :
    Calls Tryz.prog 30 #[.pointer (some ⟨b, 0, none⟩), C3.val ⟨k, t, A, n, c⟩] w fun e w' => e = .returned (.tuple #[]) ∧ WB w' D b (bs ++ byts t) ∧ Bk D (some b) w w' := by
  obtain ⟨W, hW⟩ : ∃ W, w.alloc (.cells #[.int .i8 k, .string t, .slice A n c] 28) = W := ⟨_, rfl⟩
  have hb : Below w.heap.size w W := hW ▸ (Below.refl _ w).alloc (Nat.le_refl _) _
  have HS := Lib.hid (xstring_ok W D b bs (h.keep hb) t hn)
  have HB := Lib.hid hb
  have hB := Blk.new w 28 #[.int .i8 k, .string t, .slice A n c]
  rw [hW] at hB
  obtain ⟨x0, x1, x2, _⟩ := blk3 hB
  have d1 : decide (k = 3) = false := decide_eq_false hk
  clear h hb hB
  unfold C3.val
  subst hW
  go_enter Tryz.func30, Tryz.ntmps30
  go_wp2_with (go_at_call 55; refine HS.out.mono ?_; rintro e w1 ⟨rfl, hw1, hk1⟩)
  exact bodyPost_ret (v := .tuple #[]) (by simp [results, Tryz.results30, go_sem]) rfl ⟨rfl, hw1, (Bk.of_below HB.out).trans hk1⟩

set_option maxHeartbeats 4000000 in
set_option maxRecDepth 100000 in
theorem text_list (l : List Sx) (t : ByteArray) (A : Option Addr) (c : Nat) (hmax : l.length ≤ 9223372036854775807) (ih : ∀ y ∈ l, TextAt y) (w : World) (D b : Nat) (bs : List UInt8) (h : WB w D b bs) (hA : Kids (fun i => i < D ∧ i ≠ b) w A l) (hn : bs.length + (Sx.raws l).length + 2 ≤ 50000000) :
    Calls Tryz.prog 30 #[.pointer (some ⟨b, 0, none⟩), C3.val ⟨3, t, A, l.length, c⟩] w fun e w' => e = .returned (.tuple #[]) ∧ WB w' D b (bs ++ 40 :: (Sx.raws l ++ [41])) ∧ Bk D (some b) w w' := by
  obtain ⟨W, hW⟩ : ∃ W, w.alloc (.cells #[.int .i8 3, .string t, .slice A l.length c] 28) = W := ⟨_, rfl⟩
  have hb : Below w.heap.size w W := hW ▸ (Below.refl _ w).alloc (Nat.le_refl _) _
  have hB := Blk.new w 28 #[.int .i8 3, .string t, .slice A l.length c]
  rw [hW] at hB
  have hlt := h.lt
  have hle := h.le
  have H40 := Lib.hid (xbyte_ok W D b bs (h.keep hb) 40 (by omega))
  have HA := Lib.hid (hA.keep hb)
  have HI := Lib.hid ih
  have HB := Lib.hid hb
  have HX := Lib.hid hB
  obtain ⟨x0, x1, x2, _⟩ := blk3 hB
  clear h hb hB hA ih
  unfold C3.val
  subst hW
  go_enter Tryz.func30, Tryz.ntmps30
  go_wp2_with (go_at_call 56; refine H40.out.mono ?_; rintro e w1 ⟨rfl, hw1, hk1⟩; obtain ⟨z0, z1, z2, _⟩ := blk3 (hk1.blk HX.out (by decide) (fun e => by injection e with e; omega)))
  have HW1 := Lib.hid hw1
  have HK1 := Lib.hid ((Bk.of_below HB.out).trans hk1)
  have HA1 := Lib.hid (hk1.kids HA.out)
  clear hw1 hk1 HA HB HX x0 x1 x2
  go_loopw [18] (fun v wx => ∃ i : Nat, i ≤ l.length ∧ v = .int .i64 i ∧ WB wx D b (bs ++ 40 :: Sx.raws (l.take i)) ∧ Bk D (some b) w1 wx) (fun v _ => (l.length - intOf v).toNat)
  case atStart => exact ⟨0, Nat.zero_le _, rfl, HW1.out, Bk.refl _ _ _⟩
  case round =>
    obtain ⟨i, hi, rfl, hW, hK⟩ := hrel
    clear HW1
    have HW := Lib.hid hW
    have HK := Lib.hid hK
    clear hW hK
    by_cases hin : i < l.length
    · have hiz : (i : Int) < (l.length : Int) := by omega
      have d1 : decide ((i : Int) < l.length) = true := decide_eq_true hiz
      have HAr := Lib.hid (HK.out.kids HA1.out)
      obtain ⟨b', off', k1, t1, B1, n1, m1, rfl, hSb, hlt', y0, y1, y2, hy⟩ := HAr.out i hin
      obtain ⟨wb, hwb⟩ : ∃ wb, wr.alloc (.cells #[.int .i8 k1, .string t1, .slice B1 n1 m1] 28) = wb := ⟨_, rfl⟩
      have hbb : Below wr.heap.size wr wb := hwb ▸ (Below.refl _ wr).alloc (Nat.le_refl _) _
      have hBB := Blk.new wr 28 #[.int .i8 k1, .string t1, .slice B1 n1 m1]
      rw [hwb] at hBB
      have hWb := HW.out.keep hbb
      have hyb := hy.keep hbb
      have htk := raws_take l (i + 1)
      have hput := HI.out (l[i]) (List.getElem_mem hin)
      have hDw := HW.out.le
      obtain ⟨v0, v1, v2, _⟩ := blk3 hBB
      by_cases hi0 : i = 0
      · subst hi0
        have e1 : Sx.raws (l.take 1) = (l[0]).raw := by
          rw [List.take_succ_eq_append_getElem hin]
          simp [Sx.raws, Sx.rawt]
        rw [Nat.zero_add, e1] at htk
        have HPUT := Lib.hid (hput wb D b (bs ++ 40 :: Sx.raws (l.take 0)) hWb _ hyb (by simp [Sx.raws]; omega))
        have HE := Lib.hid e1
        rw [Nat.zero_mul, Nat.add_zero] at y0 y1 y2
        have HBB := Lib.hid hbb
        clear hput hy hyb e1 htk HI HAr HA1 hbb hBB hWb
        go_wp2_with (go_at_call 30; refine HPUT.out.mono ?_; rintro e w2 ⟨rfl, hw2, hk2⟩)
        go_roundw
        case rel =>
          refine ⟨1, by omega, rfl, ?_, (HK.out.trans (Bk.of_below HBB.out)).trans hk2⟩
          have := hw2
          rw [HE.out]
          simpa [Sx.raws] using this
        case measure => simp only [intOf]; omega
      · have d2 : decide ((i : Int) > 0) = true := decide_eq_true (by omega)
        have d3 : decide ((0 : Int) < (i : Int)) = true := decide_eq_true (by omega)
        have e1 := raws_one l i hin hi0
        rw [e1, List.length_append, List.length_cons] at htk
        have hw32 := Lib.hid (xbyte_ok wb D b (bs ++ 40 :: Sx.raws (l.take i)) hWb 32 (by simp; omega))
        have HPUT := Lib.hid (fun w2 (hw2 : WB w2 D b ((bs ++ 40 :: Sx.raws (l.take i)) ++ [32])) (hk2 : Bk D (some b) wb w2) => hput w2 D b _ hw2 _ (hk2.lies hyb) (by simp; omega))
        have HE := Lib.hid e1
        have HBB := Lib.hid hbb
        have HBX := Lib.hid hBB
        clear hput hy hyb e1 htk HI HAr HA1 hbb hBB hWb
        go_wp2_with (first
          | (go_at_call 56; refine hw32.out.mono ?_; rintro e w2 ⟨rfl, hw2, hk2⟩; obtain ⟨u0, u1, u2, _⟩ := blk3 (hk2.blk HBX.out (by decide) (fun e => by injection e with e; omega)))
          | (go_at_call 30; refine (HPUT.out _ hw2 hk2).mono ?_; rintro e w3 ⟨rfl, hw3, hk3⟩))
        go_roundw
        case rel =>
          refine ⟨i + 1, by omega, by go_num, ?_, ((HK.out.trans (Bk.of_below HBB.out)).trans hk2).trans hk3⟩
          rw [HE.out]
          simpa using hw3
        case measure => simp only [intOf]; omega
    · have d1 : decide ((i : Int) < l.length) = false := decide_eq_false (by omega)
      have e : l.take i = l := List.take_of_length_le (by omega)
      rw [e] at HW
      have H41 := Lib.hid (xbyte_ok wr D b _ HW.out 41 (by simp; omega))
      clear HI HA1
      go_wp2_with (go_at_call 56; refine H41.out.mono ?_; rintro e w2 ⟨rfl, hw2, hk2⟩)
      go_end0
      refine ⟨rfl, ?_, (HK1.out.trans HK.out).trans hk2⟩
      simpa using hw2

theorem text_at (x : Sx) : TextAt x := by
  induction x using Sx.ind with
  | h k T l ih =>
  intro w D b bs h v hl hn
  obtain ⟨t, A, c, rfl, rfl, hlc, _, hmax, hk⟩ := hl.open_
  rw [Sx.raw] at hn ⊢
  by_cases h3 : k = 3
  · subst h3
    rw [if_pos rfl] at hn ⊢
    exact text_list l t A c hmax ih w D b bs h hk (by simp at hn; omega)
  · rw [if_neg h3] at hn ⊢
    exact text_leaf k h3 t A _ c w D b bs h (by rw [byts_len] at hn; omega)
end Go.Proofs.YtiklliiamljogaaGreatDoor

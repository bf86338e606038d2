/- The reference's text: bytes behind bytes. -/
import Derived.Test.YtiklliiamljogaaGreatDoorPfK
import Derived.Test.YtiklliiamljogaaGreatDoorPfJ
import Derived.Test.YtiklliiamljogaaGreatDoorPfA
namespace Go.Proofs.YtiklliiamljogaaGreatDoor
open Go.RowKit Go.Lib

/-- A row of bytes of one's own. -/
structure RB (w : World) (D : Nat) (v : Value) (bs : List UInt8) : Prop where
  own : w.ownsRow D 5 1 v bs.length (Lib.byteCells bs)
  le : D ≤ w.heap.size
theorem RB.keep {w w' : World} {D : Nat} {v : Value} {bs : List UInt8} (h : RB w D v bs) (hb : Below w.heap.size w w') : RB w' D v bs :=
  ⟨own_kept h.own (Kept.of_below (S := fun _ => False) hb) (fun _ _ h => h), Nat.le_trans h.le hb.size⟩

theorem Bk.cell {D : Nat} {w w' : World} (h : Bk D none w w') {k off : Nat} (hk : k < D) (hlt : k < w.heap.size) {v : Value} (hc : w.cell? ⟨k, off, none⟩ = some v) : w'.cell? ⟨k, off, none⟩ = some v := by
  have := h.block k hlt (fun e => by cases e) (.inl hk)
  unfold World.cell? at *
  rw [this]
  exact hc
theorem RB.form {w : World} {D : Nat} {v : Value} {bs : List UInt8} (h : RB w D v bs) : ∃ A N c, v = .slice A N c := by
  obtain ⟨A, c, rfl⟩ := own_slice h.own
  exact ⟨_, _, _, rfl⟩
theorem byte_push {ops : Array Oper} {rest : List Oper} {o : Oper} {a : Act} {Q : Exit → Act → World → Prop} (w0 : World) (hgd : o.guard = none) (s x : Operand)
    (ho : o.op = .call { callee := .builtin .append, args := #[s, x], argTypes := #[52, 52] }) (w : World) (u : Int) (hw : w0 = w.alloc (.cells #[.int .u8 u] 5)) (D : Nat) (v : Value) (bs : List UInt8) (c : UInt8) (hu : u = c.toNat) (hs : a.eval s = v) (hR : RB w D v bs)
    (hx : a.eval x = .slice (some ⟨w.heap.size, 0, none⟩) 1 1) (hn : bs.length ≤ 100000000)
    (h : ∀ v' w', RB w' D v' (bs ++ [c]) → Bk D none w w' → wpList Tryz.prog ops Q rest (a.put o.dst v') w') : wpList Tryz.prog ops Q (o :: rest) a w0 := by
  subst hu hw
  obtain ⟨i0, hi, hz0, hz1, hz2⟩ := info_parts byte_info
  have hle := hR.le
  refine list_push _ hgd s x 52 ho D 5 i0 (.int .u8 0) 1 1 Tryz.underlying52 hi hz0 hz1 hz2 rfl (by decide) v bs.length (Lib.byteCells bs) hs (hR.own.alloc _) w.heap.size #[.int .u8 c.toNat] hx (Blk.new _ _ _) rfl (by simp [Value.oneCell']) (by omega) (by decide) hle ?_
  intro g cap w5 hown hgrow hat hlt
  have hk : Kept (fun i => none = some i ∨ v.ownBlock = some i) w w5 := ((Kept.refl _ w).alloc (.cells #[.int .u8 c.toNat] 5)).grown hgrow (fun i hi => .inl (.inr hi))
  refine h _ _ ⟨?_, Nat.le_trans hle hk.size⟩ (Bk.of_kept hR.own hk)
  rw [List.length_append, List.length_singleton, byteCells_append]
  exact hown
theorem string_push {ops : Array Oper} {rest : List Oper} {o : Oper} {a : Act} {Q : Exit → Act → World → Prop} (w : World) (hgd : o.guard = none) (s x : Operand)
    (ho : o.op = .call { callee := .builtin .append, args := #[s, x], argTypes := #[52, 9] }) (D : Nat) (v : Value) (bs : List UInt8) (t : ByteArray) (hs : a.eval s = v) (hR : RB w D v bs)
    (hx : a.eval x = .string t) (hn : bs.length + t.size ≤ 100000000)
    (h : ∀ v' w', RB w' D v' (bs ++ byts t) → Bk D none w w' → wpList Tryz.prog ops Q rest (a.put o.dst v') w') : wpList Tryz.prog ops Q (o :: rest) a w := by
  obtain ⟨i0, hi, hz0, hz1, hz2⟩ := info_parts byte_info
  have hle := hR.le
  refine wpList_append_own_string w hgd s x 52 9 ho D 5 i0 Tryz.underlying52 Tryz.underlying9 hi hz0 hz1 hz2 v bs.length (Lib.byteCells bs) hs hR.own t hx (by unfold maxLen; omega) (by omega) hle ?_
  intro v' w5 hown hgrow _
  have hk : Kept (fun i => none = some i ∨ v.ownBlock = some i) w w5 := (Kept.refl _ w).grown hgrow (fun i hi => .inl (.inr hi))
  refine h _ _ ⟨?_, Nat.le_trans hle hk.size⟩ (Bk.of_kept hR.own hk)
  rw [List.length_append, byts_len, byteCells_append]
  exact hown
theorem Bk.kids0 {D : Nat} {w w' : World} {A : Option Addr} {l : List Sx} (hk : Bk D none w w') (h : Kids (fun i => i < D) w A l) : Kids (fun i => i < D) w' A l :=
  h.kept3 hk.kept fun k _ h1 h2 => by
    rcases h2 with h2 | h2
    · cases h2
    · omega
theorem Bk.lies0 {D : Nat} {w w' : World} {v : Value} {x : Sx} (hk : Bk D none w w') (h : Lies (fun i => i < D) w v x) : Lies (fun i => i < D) w' v x :=
  h.kept hk.kept fun k _ h1 h2 => by
    rcases h2 with h2 | h2
    · cases h2
    · omega

/-- What the reference's text does to an expression. -/
def RTextAt (x : Sx) : Prop := ∀ (w : World) (D : Nat) (sv : Value) (bs : List UInt8) (_ : RB w D sv bs) (v : Value) (_ : Lies (fun i => i < D) w v x) (_ : bs.length + x.raw.length ≤ 50000000),
    Calls Tryz.prog 32 #[sv, v] w fun e w' => ∃ v', e = .returned v' ∧ RB w' D v' (bs ++ x.raw) ∧ Bk D none w w'

set_option maxHeartbeats 2000000 in
set_option maxRecDepth 100000 in
theorem rtext_leaf (k : Int) (hk : k ≠ 3) (t : ByteArray) (A : Option Addr) (n c : Nat) (w : World) (D : Nat) (sv : Value) (bs : List UInt8) (h : RB w D sv bs) (hn : bs.length + t.size ≤ 100000000) :
    Calls Tryz.prog 32 #[sv, C3.val ⟨k, t, A, n, c⟩] w fun e w' => ∃ v', e = .returned v' ∧ RB w' D v' (bs ++ byts t) ∧ Bk D none w w' := by
  obtain ⟨W, hW⟩ : ∃ W, w.alloc (.cells #[.int .i8 k, .string t, .slice A n c] 28) = W := ⟨_, rfl⟩
  have hb : Below w.heap.size w W := hW ▸ (Below.refl _ w).alloc (Nat.le_refl _) _
  have HS := Lib.hid (h.keep hb)
  obtain ⟨A0, N0, c0, rfl⟩ := h.form
  have HB := Lib.hid hb
  have hB := Blk.new w 28 #[.int .i8 k, .string t, .slice A n c]
  rw [hW] at hB
  obtain ⟨x0, x1, x2, _⟩ := blk3 hB
  have d1 : decide (k = 3) = false := decide_eq_false hk
  clear h hb hB
  unfold C3.val
  subst hW
  go_enter Tryz.func32, Tryz.ntmps32
  go_wp2_with (at_builtin; refine string_push _ rfl (.tmp 9) (.tmp 11) rfl D _ bs t rfl HS.out rfl hn ?_; intro v' w1 hr1 hk1)
  exact bodyPost_ret (v := v') (by simp [results, Tryz.results32, go_sem]) rfl ⟨v', rfl, hr1, (Bk.of_below HB.out).trans hk1⟩

set_option maxHeartbeats 4000000 in
set_option maxRecDepth 100000 in
theorem rtext_list (l : List Sx) (t : ByteArray) (A : Option Addr) (c : Nat) (hmax : l.length ≤ 9223372036854775807) (ih : ∀ y ∈ l, RTextAt y) (w : World) (D : Nat) (sv : Value) (bs : List UInt8) (h : RB w D sv bs) (hA : Kids (fun i => i < D) w A l) (hn : bs.length + (Sx.raws l).length + 2 ≤ 50000000) :
    Calls Tryz.prog 32 #[sv, C3.val ⟨3, t, A, l.length, c⟩] w fun e w' => ∃ v', e = .returned v' ∧ RB w' D v' (bs ++ 40 :: (Sx.raws l ++ [41])) ∧ Bk D none w w' := by
  obtain ⟨W, hW⟩ : ∃ W, w.alloc (.cells #[.int .i8 3, .string t, .slice A l.length c] 28) = W := ⟨_, rfl⟩
  have hb : Below w.heap.size w W := hW ▸ (Below.refl _ w).alloc (Nat.le_refl _) _
  have hB := Blk.new w 28 #[.int .i8 3, .string t, .slice A l.length c]
  rw [hW] at hB
  have hle := h.le
  have HR := Lib.hid (h.keep hb)
  obtain ⟨A0, N0, c0, rfl⟩ := h.form
  have hsz : (w.alloc (.cells #[.int .i8 3, .string t, .slice A l.length c] 28)).heap.size = w.heap.size + 1 := by simp
  have HA := Lib.hid (hA.keep hb)
  have HI := Lib.hid ih
  have HB := Lib.hid hb
  have HX := Lib.hid hB
  obtain ⟨x0, x1, x2, _⟩ := blk3 hB
  clear h hb hB hA ih
  unfold C3.val
  subst hW
  go_enter Tryz.func32, Tryz.ntmps32
  go_wp2_with (at_builtin; refine byte_push _ rfl (.tmp 13) (.tmp 14) rfl (w.alloc (.cells #[.int .i8 3, .string t, .slice A l.length c] 28)) 40 rfl D _ bs 40 rfl rfl HR.out (by rw [hsz]; rfl) (by omega) ?_; intro v1 w1 hr1 hk1; obtain ⟨A1, N1, c1, rfl⟩ := hr1.form; obtain ⟨z0, z1, z2, _⟩ := blk3 (hk1.blk HX.out (by decide) (fun e => by cases e)))
  have HX1 := Lib.hid (hk1.blk HX.out (by decide) (fun e => by cases e))
  have HR1 := Lib.hid hr1
  have HK1 := Lib.hid ((Bk.of_below HB.out).trans hk1)
  have HA1 := Lib.hid (hk1.kids0 HA.out)
  clear hr1 hk1 HA HB HX x0 x1 x2
  go_loopw [0, 5] (fun v d wx => ∃ i : Nat, i ≤ l.length ∧ d = .int .i64 i ∧ RB wx D v (bs ++ 40 :: Sx.raws (l.take i)) ∧ Bk D none w1 wx) (fun _ d _ => (l.length - intOf d).toNat)
  case atStart => exact ⟨0, Nat.zero_le _, rfl, HR1.out, Bk.refl _ _ _⟩
  case round =>
    obtain ⟨i, hi, rfl, hW, hK⟩ := hrel
    clear HR1
    have HW := Lib.hid hW
    have HK := Lib.hid hK
    clear hW hK
    obtain ⟨x0, x1, x2, _⟩ := blk3 (HK.out.blk HX1.out (by decide) (fun e => by cases e))
    obtain ⟨Ar, Nr, cr, rfl⟩ := HW.out.form
    by_cases hin : i < l.length
    · have hiz : (i : Int) < (l.length : Int) := by omega
      have d1 : decide ((i : Int) < l.length) = true := decide_eq_true hiz
      have HAr := Lib.hid (HK.out.kids0 HA1.out)
      obtain ⟨b', off', k1, t1, B1, n1, m1, rfl, hSb, hlt', y0, y1, y2, hy⟩ := HAr.out i hin
      have htk := raws_take l (i + 1)
      have hput := HI.out (l[i]) (List.getElem_mem hin)
      have hDw := HW.out.le
      by_cases hi0 : i = 0
      · subst hi0
        have e1 : Sx.raws (l.take 1) = (l[0]).raw := by
          rw [List.take_succ_eq_append_getElem hin]
          simp [Sx.raws, Sx.rawt]
        rw [Nat.zero_add, e1] at htk
        have HPUT := Lib.hid (hput wr D _ (bs ++ 40 :: Sx.raws (l.take 0)) HW.out _ hy (by simp [Sx.raws]; omega))
        have HE := Lib.hid e1
        rw [Nat.zero_mul, Nat.add_zero] at y0 y1 y2
        clear hput hy e1 htk HI HAr HA1
        go_wp2_with (go_at_call 32; refine HPUT.out.mono ?_; rintro e w2 ⟨v2, rfl, hr2, hk2⟩)
        go_roundw
        case rel =>
          refine ⟨1, by omega, rfl, ?_, HK.out.trans hk2⟩
          have := hr2
          rw [HE.out]
          simpa [Sx.raws] using this
        case measure => simp only [intOf]; omega
      · have d2 : decide ((i : Int) > 0) = true := decide_eq_true (by omega)
        have d3 : decide ((0 : Int) < (i : Int)) = true := decide_eq_true (by omega)
        have d4 : decide (0 < i) = true := decide_eq_true (by omega)
        have e1 := raws_one l i hin hi0
        rw [e1, List.length_append, List.length_cons] at htk
        have hbl : (bs ++ 40 :: Sx.raws (l.take i)).length ≤ 100000000 := by simp; omega
        have HPUT := Lib.hid (fun w2 v2 (hr2 : RB w2 D v2 ((bs ++ 40 :: Sx.raws (l.take i)) ++ [32])) (hk2 : Bk D none wr w2) => hput w2 D v2 _ hr2 _ (hk2.lies0 hy) (by simp; omega))
        have HE := Lib.hid e1
        clear hput hy e1 htk HI HAr HA1
        go_wp2_with (first
          | (at_builtin; refine byte_push _ rfl (.tmp 25) (.tmp 26) rfl wr 32 rfl D _ _ 32 rfl rfl HW.out rfl hbl ?_; intro v2 w2 hr2 hk2; obtain ⟨A2, N2, c2, rfl⟩ := hr2.form; obtain ⟨z0, z1, z2, _⟩ := blk3 ((HK.out.trans hk2).blk HX1.out (by decide) (fun e => by cases e)); have q0 := hk2.cell hSb hlt' y0; have q1 := hk2.cell hSb hlt' y1; have q2 := hk2.cell hSb hlt' y2)
          | (go_at_call 32; refine (HPUT.out _ _ hr2 hk2).mono ?_; rintro e w3 ⟨v3, rfl, hr3, hk3⟩))
        go_roundw
        case rel =>
          refine ⟨i + 1, by omega, by go_num, ?_, (HK.out.trans hk2).trans hk3⟩
          rw [HE.out]
          simpa using hr3
        case measure => simp only [intOf]; omega
    · have d1 : decide ((i : Int) < l.length) = false := decide_eq_false (by omega)
      have e : l.take i = l := List.take_of_length_le (by omega)
      rw [e] at HW
      have hbl : (bs ++ 40 :: Sx.raws l).length ≤ 100000000 := by simp; omega
      clear HI HA1
      go_wp2_with (at_builtin; refine byte_push _ rfl (.tmp 35) (.tmp 36) rfl wr 41 rfl D _ _ 41 rfl rfl HW.out rfl hbl ?_; intro v2 w2 hr2 hk2)
      refine bodyPost_ret (v := v2) (by simp [results, Tryz.results32, go_sem]) rfl ⟨v2, rfl, ?_, (HK1.out.trans HK.out).trans hk2⟩
      simpa using hr2
theorem rtext_at (x : Sx) : RTextAt x := by
  induction x using Sx.ind with
  | h k T l ih =>
  intro w D sv bs h v hl hn
  obtain ⟨t, A, c, rfl, rfl, hlc, _, hmax, hk⟩ := hl.open_
  rw [Sx.raw] at hn ⊢
  by_cases h3 : k = 3
  · subst h3
    rw [if_pos rfl] at hn ⊢
    exact rtext_list l t A c hmax ih w D sv bs h hk (by simp at hn; omega)
  · rw [if_neg h3] at hn ⊢
    exact rtext_leaf k h3 t A _ c w D sv bs h (by rw [byts_len] at hn; omega)
end Go.Proofs.YtiklliiamljogaaGreatDoor

/- Text, both. -/
namespace Go.Proofs.YtiklliiamljogaaGreatDoor
open Go.RowKit Go.Lib

/-- What Text hands over. -/
def TextOut (L : List Stp) (w w' : World) (e : Ending) : Prop := (if L.all Stp.may = true then ∃ q : ByteArray, e = .returned (.tuple #[.string q, .int .i64 0]) ∧ byts q = (proofX L).raw
  else e = .returned (.tuple #[.string ⟨#[]⟩, .int .i64 2])) ∧ Below w.heap.size w w'
theorem TextOut.yes {L : List Stp} {w w' : World} {e : Ending} (h : L.all Stp.may = true) (q : ByteArray) (he : e = .returned (.tuple #[.string q, .int .i64 0])) (hq : byts q = (proofX L).raw) (hb : Below w.heap.size w w') : TextOut L w w' e := ⟨by rw [if_pos h]; exact ⟨q, he, hq⟩, hb⟩
theorem TextOut.no {L : List Stp} {w w' : World} {e : Ending} (h : L.all Stp.may = false) (he : e = .returned (.tuple #[.string ⟨#[]⟩, .int .i64 2])) (hb : Below w.heap.size w w') : TextOut L w w' e := ⟨by rw [if_neg (by rw [h]; decide)]; exact he, hb⟩
theorem SexpOut.get {L : List Stp} {w w' : World} {e : Ending} (h : SexpOut L w w' e) (hm : L.all Stp.may = true) : (∃ y : C3, Lies (fun b => w.heap.size ≤ b) w' y.val (proofX L) ∧ e = .returned (.tuple #[.agg #[.int .i8 y.k, .string y.t, .slice y.A y.n y.c], .int .i64 0])) ∧ Below w.heap.size w w' := by
  unfold SexpOut at h
  rw [if_pos hm] at h
  exact h
theorem SexpOut.not {L : List Stp} {w w' : World} {e : Ending} (h : SexpOut L w w' e) (hm : L.all Stp.may = false) : e = .returned (.tuple #[zeroX, .int .i64 2]) ∧ Below w.heap.size w w' := by
  unfold SexpOut at h
  rw [hm, if_neg (by decide)] at h
  exact h
theorem Bk.below {B D : Nat} {b : Option Nat} {w w' : World} (h : Bk D b w w') (hB : B ≤ w.heap.size) (hD : B ≤ D) (hb : ∀ k, b = some k → B ≤ k) : Below B w w' :=
  h.kept.below hB fun k hk => by
    rcases hk with hk | hk
    · exact hb k hk
    · omega
theorem raw_ne (L : List Stp) : (proofX L).raw ≠ [] := by
  unfold proofX
  rw [Sx.raw, if_pos rfl]
  simp

set_option maxHeartbeats 2000000 in
set_option maxRecDepth 100000 in
theorem ptext_ok (L : List Stp) (hf : Fine L) (hr : L.all Stp.may = true → (proofX L).raw.length ≤ 40000000) (w : World) (ht : Tab w) (A : Option Addr) (c : Nat) (h : Steps w A L) :
    Calls Tryz.prog 12 #[.slice A L.length c] w fun e w' => TextOut L w w' e := by
  have hs := sexp_ok L hf w ht A c h
  clear h hf ht
  cases hm : L.all Stp.may with
  | false =>
    have HS := Lib.hid (hs.mono fun e w' h => h.not hm)
    unfold zeroX at HS
    clear hs
    go_enter Tryz.func12, Tryz.ntmps12
    go_wp2_with (go_at_call 10; refine HS.out.mono ?_; rintro e w1 ⟨rfl, hb1⟩)
    refine bodyPost_ret (v := .tuple #[.string ⟨#[]⟩, .int .i64 2]) (by simp [results, Tryz.results12, go_sem]) rfl (TextOut.no hm rfl ?_)
    exact hb1.alloc (hb1.size) _
  | true =>
    have hr := hr hm
    have HS := Lib.hid (hs.mono fun e w' h => h.get hm)
    clear hs
    have hput : ∀ w1 (y : C3), Below w.heap.size w w1 → Lies (fun b => w.heap.size ≤ b) w1 y.val (proofX L) → Calls Tryz.prog 30 #[.pointer (some ⟨w1.heap.size + 1, 0, none⟩), .agg #[.int .i8 y.k, .string y.t, .slice y.A y.n y.c]] ((w1.alloc (.cells #[.int .i8 y.k, .string y.t, .slice y.A y.n y.c] 28)).alloc (.cells #[.pointer none, .slice none 0 0] 54)) fun e w' => e = .returned (.tuple #[]) ∧ WB w' (w1.heap.size + 2) (w1.heap.size + 1) (proofX L).raw ∧ Below w.heap.size w w' := fun w1 y h1 hl => by
      obtain ⟨w2, e2⟩ : ∃ w2, w1.alloc (.cells #[.int .i8 y.k, .string y.t, .slice y.A y.n y.c] 28) = w2 := ⟨_, rfl⟩
      obtain ⟨w3, e3⟩ : ∃ w3, w2.alloc (.cells #[.pointer none, .slice none 0 0] 54) = w3 := ⟨_, rfl⟩
      have s2 : w2.heap.size = w1.heap.size + 1 := by rw [← e2]; simp
      have s3 : w3.heap.size = w1.heap.size + 2 := by rw [← e3]; simp; omega
      have b2 : Below w1.heap.size w1 w2 := e2 ▸ (Below.refl _ w1).alloc (Nat.le_refl _) _
      have b3 : Below w2.heap.size w2 w3 := e3 ▸ (Below.refl _ w2).alloc (Nat.le_refl _) _
      have hB : Blk w3 (w1.heap.size + 1) 54 #[.pointer none, .slice none 0 0] := by rw [← s2]; exact e3 ▸ Blk.new w2 _ _
      have hwb : WB w3 (w1.heap.size + 2) (w1.heap.size + 1) [] := ⟨⟨_, _, .inl rfl, hB, World.ownsRow_nil _ _ _ _⟩, by omega, by omega⟩
      have hc := text_at (proofX L) w3 (w1.heap.size + 2) (w1.heap.size + 1) [] hwb y.val (((hl.mono (S' := fun i => i < w1.heap.size) (fun b hb _ => hb)).keep b2 |>.keep b3).mono (fun b _ hb => ⟨by omega, by omega⟩)) (by simp; omega)
      rw [e2, e3]
      refine hc.mono ?_
      rintro e w4 ⟨he, hw, hk⟩
      have hs1 := h1.size
      exact ⟨he, by simpa using hw, ((h1.trans (b2.mono hs1)).trans (b3.mono (by omega))).trans (hk.below (by omega) (by omega) (fun i hi => by injection hi with hi; omega))⟩
    have HP := Lib.hid hput
    have hne := raw_ne L
    have HNE := Lib.hid hne
    have HM := Lib.hid hm
    clear hput hr hne hm
    go_enter Tryz.func12, Tryz.ntmps12
    go_wp2_with (first
      | (go_at_call 10; refine HS.out.mono ?_; rintro e w1 ⟨⟨y, hl, rfl⟩, hb1⟩; have HPC := Lib.hid (HP.out w1 y hb1 hl); have hsz : (w1.alloc (.cells #[.int .i8 y.k, .string y.t, .slice y.A y.n y.c] 28)).heap.size = w1.heap.size + 1 := by simp)
      | (go_at_call 30; refine HPC.out.mono ?_; rintro e w4 ⟨rfl, hw4, hb4⟩)
      | (go_at_call 31; refine (wstr_ok _ _ _ _ hw4 HNE.out).mono ?_; rintro e w5 ⟨rfl, hb5⟩))
    refine bodyPost_ret (v := .tuple #[.string ⟨(proofX L).raw.toArray⟩, .int .i64 0]) (by simp [results, Tryz.results12, go_sem]) rfl (TextOut.yes HM.out _ rfl (by simp [byts]) ?_)
    exact hb4.trans (hb5.mono (by have := hb1.size; omega))

theorem rb_bytes {w : World} {D : Nat} {v : Value} {bs : List UInt8} (h : RB w D v bs) (h0 : bs ≠ []) : ∃ g c, v = .slice (some ⟨g, 0, none⟩) bs.length c ∧ Bytes w g 0 ⟨bs.toArray⟩ := by
  have hl0 : 0 < bs.length := List.length_pos_iff.2 h0
  have ho := h.own
  rcases ho.2 with ⟨_, hz⟩ | ⟨g, cap, cur, rfl, hbg, hg, hnc, hcm, hcs, htake⟩
  · omega
  refine ⟨g, cap, rfl, fun j hj => ?_⟩
  have hj' : j < bs.length := by
    have : (⟨bs.toArray⟩ : ByteArray).size = bs.length := by rw [← byts_len]
    omega
  have := ho.cells (g := g) rfl j (.int .u8 (bs[j]).toNat) (by simp [Lib.byteCells, hj'])
  have e : (⟨g, 0, none⟩ : Addr).add j = ⟨g, 0 + j, none⟩ := by
    unfold Addr.add
    split
    · simp_all
    · rfl
  rw [e] at this
  exact this

set_option maxHeartbeats 2000000 in
set_option maxRecDepth 100000 in
theorem rptext_ok (L : List Stp) (hf : Fine L) (hr : L.all Stp.may = true → (proofX L).raw.length ≤ 40000000) (w : World) (A : Option Addr) (c : Nat) (h : Steps w A L) :
    Calls Tryz.prog 13 #[.slice A L.length c] w fun e w' => TextOut L w w' e := by
  have hs := rsexp_ok L hf w A c h
  clear h hf
  cases hm : L.all Stp.may with
  | false =>
    have HS := Lib.hid (hs.mono fun e w' h => h.not hm)
    unfold zeroX at HS
    clear hs
    go_enter Tryz.func13, Tryz.ntmps13
    go_wp2_with (go_at_call 11; refine HS.out.mono ?_; rintro e w1 ⟨rfl, hb1⟩)
    refine bodyPost_ret (v := .tuple #[.string ⟨#[]⟩, .int .i64 2]) (by simp [results, Tryz.results13, go_sem]) rfl (TextOut.no hm rfl ?_)
    exact hb1.alloc (hb1.size) _
  | true =>
    have hr := hr hm
    have HS := Lib.hid (hs.mono fun e w' h => h.get hm)
    clear hs
    have hput : ∀ w1 (y : C3), Below w.heap.size w w1 → Lies (fun b => w.heap.size ≤ b) w1 y.val (proofX L) → Calls Tryz.prog 32 #[.slice none 0 0, .agg #[.int .i8 y.k, .string y.t, .slice y.A y.n y.c]] (w1.alloc (.cells #[.int .i8 y.k, .string y.t, .slice y.A y.n y.c] 28)) fun e w' => (∃ g c, e = .returned (.slice (some ⟨g, 0, none⟩) (proofX L).raw.length c) ∧ Bytes w' g 0 ⟨(proofX L).raw.toArray⟩) ∧ Below w.heap.size w w' := fun w1 y h1 hl => by
      obtain ⟨w2, e2⟩ : ∃ w2, w1.alloc (.cells #[.int .i8 y.k, .string y.t, .slice y.A y.n y.c] 28) = w2 := ⟨_, rfl⟩
      have s2 : w2.heap.size = w1.heap.size + 1 := by rw [← e2]; simp
      have b2 : Below w1.heap.size w1 w2 := e2 ▸ (Below.refl _ w1).alloc (Nat.le_refl _) _
      have hwb : RB w2 w2.heap.size (.slice none 0 0) [] := ⟨World.ownsRow_nil _ _ _ _, Nat.le_refl _⟩
      have hc := rtext_at (proofX L) w2 w2.heap.size _ [] hwb y.val (((hl.mono (S' := fun i => i < w1.heap.size) (fun b hb _ => hb)).keep b2).mono (fun b _ hb => by omega)) (by simp; omega)
      rw [e2]
      refine hc.mono ?_
      rintro e w4 ⟨v, he, hw, hk⟩
      have hs1 := h1.size
      obtain ⟨g, c, rfl, hby⟩ := rb_bytes hw (by simpa using raw_ne L)
      refine ⟨⟨g, c, by simpa using he, by simpa using hby⟩, (h1.trans (b2.mono hs1)).trans (hk.below (by omega) (by omega) (fun i hi => by cases hi))⟩
    have HP := Lib.hid hput
    have HM := Lib.hid hm
    clear hput hr hm
    go_enter Tryz.func13, Tryz.ntmps13
    go_wp2_with (first
      | (go_at_call 11; refine HS.out.mono ?_; rintro e w1 ⟨⟨y, hl, rfl⟩, hb1⟩; have HPC := Lib.hid (HP.out w1 y hb1 hl))
      | (go_at_call 32; go_loud (refine HPC.out.mono ?_; rintro e w4 ⟨⟨g, c4, rfl, hby⟩, hb4⟩; have hcv := Lib.run_convert_whole w4 52 5 9 Tryz.underlying52 Tryz.underlying5 Tryz.underlying9 g 0 ⟨(proofX L).raw.toArray⟩ hby c4; have hsz2 : (⟨(proofX L).raw.toArray⟩ : ByteArray).size = (proofX L).raw.length := (by rw [← byts_len]); rw [hsz2] at hcv)))
    refine bodyPost_ret (v := .tuple #[.string ⟨(proofX L).raw.toArray⟩, .int .i64 0]) (by simp [results, Tryz.results13, go_sem]) rfl (TextOut.yes HM.out _ rfl (by simp [byts]) hb4)
end Go.Proofs.YtiklliiamljogaaGreatDoor

/- What all the laws ask last. -/
namespace Go.Proofs.YtiklliiamljogaaGreatDoor
open Go.RowKit Go.Lib

def wStp : Stp := ⟨5, 0, 0, []⟩
def wTxt : List UInt8 := [40, 112, 114, 111, 111, 102, 32, 40, 114, 117, 112, 32, 40, 41, 41, 41]
def wIn : List UInt8 := [32, 40, 112, 114, 111, 111, 102, 32, 40, 115, 104, 97, 114, 101, 32, 49, 32, 50, 32, 40, 51, 32, 52, 41, 41, 41]
theorem make_nil : makeM [] = [] := by
  unfold makeM
  simp
  rfl
theorem make_two : makeM [3, 4] = [3, 4] := by
  unfold makeM
  have h : ([3, 4] : List Int).filter (fun x => !decide (x < 0)) = [3, 4] := by decide
  rw [h]
  have h2 : ([3, 4] : List Int).mergeSort (fun x y => decide (x ≤ y)) = [3, 4] := by
    simp [List.mergeSort, List.MergeSort.Internal.splitInTwo]
  rw [h2]
  rfl
theorem w_may : [wStp].all Stp.may = true := by
  rw [List.all_cons, (may_iff wStp).2 ⟨by decide, by decide, make_nil.symm, by decide, by decide, by decide, by decide⟩]
  rfl
theorem w_raw : (proofX [wStp]).raw = wTxt := by rfl
def wSx : Sx := .mk 3 [] [.mk 0 wProof [], .mk 3 [] [.mk 0 (headK 2) [], .mk 1 [49] [], .mk 1 [50] [], .mk 3 [] [.mk 1 [51] [], .mk 1 [52] []]]]
theorem w_all : (allM wIn).1 = [wSx] ∧ (allM wIn).2.2 = 0 := by
  have h : allM wIn = ([wSx], 26, 0) := by kernel_rfl
  rw [h]
  exact ⟨rfl, rfl⟩
theorem w_parse : parseP wSx = some [⟨2, 1, 2, [3, 4]⟩] := by
  have h1 : numP (.mk 1 [49] []) = some 1 := by kernel_rfl
  have h2 : numP (.mk 1 [50] []) = some 2 := by kernel_rfl
  have h3 : numP (.mk 1 [51] []) = some 3 := by kernel_rfl
  have h4 : numP (.mk 1 [52] []) = some 4 := by kernel_rfl
  have hm : Stp.may ⟨2, 1, 2, [3, 4]⟩ = true := (may_iff _).2 ⟨by decide, by decide, make_two.symm, by decide, by decide, by decide, by decide⟩
  have hs : stepP (.mk 3 [] [.mk 0 (headK 2) [], .mk 1 [49] [], .mk 1 [50] [], .mk 3 [] [.mk 1 [51] [], .mk 1 [52] []]]) = some ⟨2, 1, 2, [3, 4]⟩ := by
    unfold stepP
    dsimp only
    rw [if_pos ⟨rfl, rfl⟩]
    rw [show kindOf (.mk 0 (headK 2) []) = some 2 from rfl]
    dsimp only
    rw [if_pos ⟨rfl, rfl⟩]
    rw [show ([Sx.mk 1 [49] [], Sx.mk 1 [50] [], Sx.mk 3 [] [Sx.mk 1 [51] [], Sx.mk 1 [52] []]].take (manyK 2)) = [Sx.mk 1 [49] [], Sx.mk 1 [50] []] from rfl,
      show ([Sx.mk 1 [49] [], Sx.mk 1 [50] [], Sx.mk 3 [] [Sx.mk 1 [51] [], Sx.mk 1 [52] []]].getD (manyK 2) noSx).kids = [Sx.mk 1 [51] [], Sx.mk 1 [52] []] from rfl]
    rw [allP, h1, allP, h2, allP, allP, h3, allP, h4, allP]
    dsimp only
    rw [show stepOf 2 [1, 2] [3, 4] = ⟨2, 1, 2, [3, 4]⟩ from rfl, if_pos hm]
  unfold wSx parseP
  dsimp only
  rw [if_pos ⟨rfl, rfl, by decide⟩, if_pos ((Sx.same_eq (.mk 0 wProof []) (symS wProof)).2 rfl), allP, hs, allP]
theorem w_read : readS wIn = some [⟨2, 1, 2, [3, 4]⟩] := by rw [readS_one w_all.2 w_all.1, w_parse]
theorem w_steps (w : World) : Steps (w.alloc (.cells #[.int .i8 5, .int .i64 0, .int .i64 0, .slice none 0 0] 46)) (some ⟨w.heap.size, 0, none⟩) [wStp] := fun i hi => by
  obtain rfl : i = 0 := by simpa using hi
  have hB := Blk.new w 46 #[.int .i8 5, .int .i64 0, .int .i64 0, .slice none 0 0]
  exact ⟨w.heap.size, 0, ⟨5, 0, 0, none, 0, 0⟩, rfl, hB.lt, ⟨hB.cell 0, hB.cell 1, hB.cell 2, hB.cell 3⟩, ⟨rfl, rfl, rfl, rfl, Nat.le_refl _, fun _ => rfl, ⟨by simp [wStp], .inl rfl⟩⟩⟩

theorem text_yes {L : List Stp} {w w' : World} {e : Ending} (hm : L.all Stp.may = true) (h : TextOut L w w' e) : e = .returned (.tuple #[.string ⟨(proofX L).raw.toArray⟩, .int .i64 0]) ∧ Below w.heap.size w w' := by
  obtain ⟨h1, h2⟩ := h
  rw [if_pos hm] at h1
  obtain ⟨q, rfl, hq⟩ := h1
  refine ⟨?_, h2⟩
  rw [← hq]
theorem w_cells {w : World} {A : Option Addr} (h : Steps w A [⟨2, 1, 2, [3, 4]⟩]) : ∃ (b off : Nat) (B : Option Addr) (m : Nat), A = some ⟨b, off, none⟩ ∧ w.cell? ⟨b, off, none⟩ = some (.int .i8 2) ∧ w.cell? ⟨b, off + 2, none⟩ = some (.int .i64 2) ∧ w.cell? ⟨b, off + 3, none⟩ = some (.slice B 2 m) := by
  obtain ⟨b, off, y, rfl, _, ⟨h0, _, h2, h3⟩, hy⟩ := h 0 (Nat.zero_lt_succ _)
  rw [Nat.zero_mul, Nat.add_zero] at h0 h2 h3
  rw [hy.k] at h0
  rw [hy.b] at h2
  rw [hy.n] at h3
  exact ⟨b, off, _, _, rfl, h0, h2, h3⟩

theorem read_w (w : World) : Calls Tryz.prog 18 #[.string ⟨#[32, 40, 112, 114, 111, 111, 102, 32, 40, 115, 104, 97, 114, 101, 32, 49, 32, 50, 32, 40, 51, 32, 52, 41, 41, 41]⟩] w fun e w' => (∃ (b off c : Nat) (B : Option Addr) (m : Nat), e = .returned (.tuple #[.slice (some ⟨b, off, none⟩) 1 c, .int .i64 0]) ∧ w'.cell? ⟨b, off, none⟩ = some (.int .i8 2) ∧ w'.cell? ⟨b, off + 2, none⟩ = some (.int .i64 2) ∧ w'.cell? ⟨b, off + 3, none⟩ = some (.slice B 2 m)) ∧ Below w.heap.size w w' := by
  refine (readx_ok ⟨wIn.toArray⟩ (by decide) w).mono fun e w' h => ?_
  obtain ⟨h1, h2⟩ := h
  rw [show byts ⟨wIn.toArray⟩ = wIn from rfl, w_read] at h1
  obtain ⟨A, c, he, hs⟩ := h1
  obtain ⟨b, off, B, m, rfl, c0, c2, c3⟩ := w_cells hs
  exact ⟨⟨b, off, c, B, m, he, c0, c2, c3⟩, h2⟩

set_option maxHeartbeats 1000000 in
set_option maxRecDepth 100000 in
theorem wakes_ok (w : World) (ht : Tab w) : Calls Tryz.prog 9 #[] w fun e w' => e = .returned (.bool true) ∧ Below w.heap.size w w' := by
  obtain ⟨W, eW⟩ : ∃ W, w.alloc (.cells #[.int .i8 5, .int .i64 0, .int .i64 0, .slice none 0 0] 46) = W := ⟨_, rfl⟩
  have hbW : Below w.heap.size w W := eW ▸ (Below.refl _ w).alloc (Nat.le_refl _) _
  have hT : Calls Tryz.prog 12 #[.slice (some ⟨w.heap.size, 0, none⟩) 1 1] W fun e w' => TextOut [wStp] W w' e := ptext_ok [wStp] ⟨by simp, fun s hs => by rw [List.mem_singleton.1 hs]; simp [wStp], fun s hs => by rw [List.mem_singleton.1 hs]; simp [wStp]⟩ (fun _ => by rw [w_raw]; decide) W (ht.keep hbW) (some ⟨w.heap.size, 0, none⟩) 1 (eW ▸ w_steps w)
  have HT := Lib.hid (hT.mono (fun e w' h => text_yes w_may h))
  rw [w_raw] at HT
  have HR := Lib.hid (fun w1 => read_w w1)
  have HW := Lib.hid hbW
  clear hT ht hbW
  go_enter Tryz.func9, Tryz.ntmps9
  go_wp2_with (first
    | (go_at_call 12; (with_reducible refine HT.out.mono ?_); rintro e w1 ⟨rfl, hb1⟩; have HB1 := Lib.hid (below_then HW.out (Nat.le_refl _) hb1); clear hb1)
    | (go_at_call 18; refine (HR.out w1).mono ?_; rintro e w2 ⟨⟨b, off, c, B, m, rfl, c0, c2, c3⟩, hb2⟩; have HB2 := Lib.hid (below_then HB1.out (Nat.le_refl _) hb2); clear hb2))
  go_ret
  exact ⟨rfl, HB2.out⟩
end Go.Proofs.YtiklliiamljogaaGreatDoor

/- The reference's Great. -/
namespace Go.Proofs.YtiklliiamljogaaGreatDoor
open Go.RowKit

def gsum (l : List Stp) : Nat := (l.map fun s => 1 + min s.l.length 9000).sum
def greatM (L : List Stp) : Bool := decide (5000 < L.length) || decide (9000 < gsum (L.take 5001))
theorem gsum_snoc (l : List Stp) (i : Nat) (hi : i < l.length) : gsum (l.take (i + 1)) = gsum (l.take i) + (1 + min (l[i]).l.length 9000) := by
  rw [List.take_succ_eq_append_getElem hi]
  unfold gsum
  rw [List.map_append, List.sum_append]
  simp
theorem gsum_le (l : List Stp) : gsum l ≤ 9001 * l.length := by
  induction l with
  | nil => simp [gsum]
  | cons x r ih =>
    unfold gsum at *
    rw [List.map_cons, List.sum_cons, List.length_cons]
    omega

set_option maxHeartbeats 2000000 in
set_option maxRecDepth 100000 in
theorem great28_ok (L : List Stp) (hmax : L.length ≤ 9223372036854775807) (w : World) (A : Option Addr) (c : Nat) (h : Steps w A L) :
    Calls Tryz.prog 8 #[.slice A L.length c] w fun e w' => e = .returned (.bool (greatM L)) ∧ w = w' := by
  have HST := Lib.hid h
  clear h
  go_enter Tryz.func8, Tryz.ntmps8
  go_wp2
  go_loopw [3, 4] (fun v d wx => wx = w ∧ ∃ i : Nat, i ≤ L.length ∧ i ≤ 5001 ∧ v = .int .i64 (gsum (L.take i)) ∧ d = .int .i64 i) (fun _ d _ => (5001 - intOf d).toNat)
  case atStart => exact ⟨rfl, 0, Nat.zero_le _, Nat.zero_le _, rfl, rfl⟩
  case round =>
    obtain ⟨rfl, i, hi, hi5, rfl, rfl⟩ := hrel
    have hgl := gsum_le (L.take i)
    rw [List.length_take] at hgl
    by_cases hin : i < L.length ∧ i ≤ 5000
    · have hiz : (i : Int) < (L.length : Int) := by omega
      have d1 : decide ((i : Int) < L.length) = true := decide_eq_true hiz
      have d2 : decide ((i : Int) ≤ 5000) = true := decide_eq_true (by omega)
      obtain ⟨b, off, y, rfl, hlt, ⟨c0, c1, c2, c3⟩, hy⟩ := HST.out i hin.1
      have hn := hy.n
      have hc := hy.c
      have hsn := gsum_snoc L i hin.1
      clear HST
      go_wp2
      go_roundw
      case rel => exact ⟨trivial, i + 1, by omega, by omega, by (rw [hsn]; congr 1; omega), by go_num⟩
      case measure => simp only [intOf]; omega
    · by_cases hiL : i < L.length
      · have hiz : (i : Int) < (L.length : Int) := by omega
        have d1 : decide ((i : Int) < L.length) = true := decide_eq_true hiz
        have d2 : decide ((i : Int) ≤ 5000) = false := decide_eq_false (by omega)
        have d3 : decide ((L.length : Int) > 5000) = true := decide_eq_true (by omega)
        have d4 : decide ((5000 : Int) < L.length) = true := d3
        clear HST
        go_wp2
        go_ret
        refine ⟨ret_bool ?_, rfl⟩
        unfold greatM
        rw [decide_eq_true (show 5000 < L.length by omega), Bool.true_or]
      · have hL : L.take i = L := List.take_of_length_le (by omega)
        have d1 : decide ((i : Int) < L.length) = false := decide_eq_false (by omega)
        clear HST
        by_cases h5 : 5000 < L.length
        · have d3 : decide ((L.length : Int) > 5000) = true := decide_eq_true (by omega)
          have d4 : decide ((5000 : Int) < L.length) = true := d3
          go_wp2
          go_ret
          refine ⟨ret_bool ?_, rfl⟩
          unfold greatM
          rw [decide_eq_true h5, Bool.true_or]
        · have d3 : decide ((L.length : Int) > 5000) = false := decide_eq_false (by omega)
          have d4 : decide ((5000 : Int) < L.length) = false := d3
          go_wp2
          go_ret
          refine ⟨ret_bool ?_, rfl⟩
          unfold greatM
          rw [decide_eq_false h5, Bool.false_or, List.take_of_length_le (show L.length ≤ 5001 by omega)]
          exact decide_eq_decide.2 (by omega)
end Go.Proofs.YtiklliiamljogaaGreatDoor

/- The writer's strings.Builder. -/
import Derived.Test.YtephhendkmhggaaStD
import Derived.Lib.Builder
import Derived.Lib.AppendStr
import Derived.Lib.UnsafeStr
import Derived.Laws.Externs
namespace Go.Proofs.Ytephhendkmhggaa
open Go.RowKit Go.Lib

/-- A writer whose builder holds some bytes; its box is b, its row lies behind D. -/
structure WB (w : World) (D b : Nat) (bs : List UInt8) : Prop where
  box : ∃ p v, (p = .pointer none ∨ p = .pointer (some ⟨b, 0, none⟩)) ∧ Blk w b 53 #[p, v] ∧ w.ownsRow D 5 1 v bs.length (byteCells bs)
  lt : b < D
  le : D ≤ w.heap.size

theorem WB.keep {w w' : World} {D b : Nat} {bs : List UInt8} (h : WB w D b bs) (hb : Below w.heap.size w w') : WB w' D b bs := by
  obtain ⟨p, v, hp, hB, ho⟩ := h.box
  exact ⟨⟨p, v, hp, hB.below hb hB.lt, own_kept ho (Kept.of_below (S := fun _ => False) hb) (fun _ _ h => h)⟩, h.lt, Nat.le_trans h.le hb.size⟩
theorem wcells {w : World} {b : Nat} {t : TypeId} {c0 c1 : Value} (h : Blk w b t #[c0, c1]) :
    w.cell? ⟨b, 0, none⟩ = some c0 ∧ w.cell? ⟨b, 1, none⟩ = some c1 ∧ w.frozen? ⟨b, 0, none⟩ = false ∧ w.frozen? ⟨b, 1, none⟩ = false :=
  ⟨h.cell 0, h.cell 1, h.frozen 0, h.frozen 1⟩
theorem Blk.shape {w : World} {b : Nat} {t : TypeId} {cs : Array Value} (h : Blk w b t cs) : w.shape? b = some (t, cs.size) := by
  unfold Blk at h
  unfold World.shape?
  rw [h]
theorem builder_info : (Try.prog.info? 51).map (·.size) = some 2 := by kernel_rfl
theorem builder_lies : liesAt Try.prog Try.prog.depth 53 (2 / Try.prog.cellsOf 53) 0 51 1 = true := by kernel_rfl
theorem byte_info : (Try.prog.info? 5).map (fun i => (i.zero, i.size, i.bytes)) = some (some (.int .u8 0), 1, 1) := by kernel_rfl
theorem byte_cells : Try.prog.cellsOf 5 = 1 := by kernel_rfl

set_option maxHeartbeats 1000000 in
set_option maxRecDepth 100000 in
theorem check_used (w : World) (b : Nat) (h0 : w.cell? ⟨b, 0, none⟩ = some (.pointer (some ⟨b, 0, none⟩))) :
    Calls Try.prog 88 #[.pointer (some ⟨b, 0, none⟩)] w fun e w' => e = .returned (.tuple #[]) ∧ w = w' := by
  obtain ⟨j, hj, _⟩ := Option.map_eq_some_iff.1 builder_info
  go_enter Try.func88, Try.ntmps88
  go_wp2
  rw [Lib.run_neq_ptr_same w _ Try.underlying48 hj]
  go_wp2
  go_end0
  exact ⟨rfl, rfl⟩
set_option maxHeartbeats 1000000 in
set_option maxRecDepth 100000 in
theorem check_fresh (w : World) (b : Nat) (v : Value) (h : Blk w b 53 #[.pointer none, v]) :
    Calls Try.prog 88 #[.pointer (some ⟨b, 0, none⟩)] w fun e w' => e = .returned (.tuple #[]) ∧ w.setCell ⟨b, 0, none⟩ (.pointer (some ⟨b, 0, none⟩)) = w' := by
  obtain ⟨j, hj, hjs⟩ := Option.map_eq_some_iff.1 builder_info
  have hsh := h.shape
  obtain ⟨c0, c1, f0, f1⟩ := wcells h
  go_enter Try.func88, Try.ntmps88
  go_wp2
  rw [Lib.run_to_unsafe w ⟨b, 0, none⟩ Try.underlying48 Try.underlying98 hj (by rw [hjs]; decide) hsh (Nat.zero_lt_succ 1)]
  simp only [Result.andThen]
  rw [Oper.upon_value]
  go_wp2
  rw [run_callFunc_extern Try.func95 (by kernel_rfl) (by kernel_rfl) (by kernel_rfl) (e := Extern.AbiNoEscape.same) (by kernel_rfl)]
  rw [Lib.run_noEscape]
  simp only [Result.andThen]
  rw [Oper.upon_value]
  go_wp2
  rw [Lib.run_from_unsafe w ⟨b, 0, none⟩ Try.underlying98 Try.underlying48 hj hsh builder_lies]
  simp only [Result.andThen]
  rw [Oper.upon_value]
  go_wp2
  go_end0
  exact ⟨rfl, rfl⟩

/-- copyCheck: behind it the builder is one that has been used. -/
theorem check_ok (w : World) (D b : Nat) (bs : List UInt8) (h : WB w D b bs) :
    Calls Try.prog 88 #[.pointer (some ⟨b, 0, none⟩)] w fun e w' => e = .returned (.tuple #[]) ∧ (∃ v, Blk w' b 53 #[.pointer (some ⟨b, 0, none⟩), v] ∧ w'.ownsRow D 5 1 v bs.length (byteCells bs)) ∧ Kept (fun i => i = b) w w' := by
  obtain ⟨p, v, hp, hB, ho⟩ := h.box
  have hlt := h.lt
  rcases hp with rfl | rfl
  · refine (check_fresh w b v hB).mono ?_
    rintro e w' ⟨rfl, rfl⟩
    have hk := (Kept.refl (fun i => i = b) w).setCell (p := ⟨b, 0, none⟩) (.inl rfl) (.pointer (some ⟨b, 0, none⟩))
    exact ⟨rfl, ⟨v, hB.set_ 0 _, own_kept ho hk (fun g hg e => by have := (ho.lt g hg).1; omega)⟩, hk⟩
  · refine (check_used w b (hB.cell 0)).mono ?_
    rintro e w' ⟨rfl, rfl⟩
    exact ⟨rfl, ⟨v, hB, ho⟩, Kept.refl _ _⟩

set_option maxHeartbeats 1000000 in
set_option maxRecDepth 100000 in
theorem wbyte_ok (w : World) (D b : Nat) (bs : List UInt8) (h : WB w D b bs) (c : UInt8) (hn : bs.length ≤ 100000000) :
    Calls Try.prog 70 #[.pointer (some ⟨b, 0, none⟩), .int .u8 c.toNat] w fun e w' => e = .returned .nilIface ∧ WB w' D b (bs ++ [c]) ∧ Kept (fun i => i = b ∨ D ≤ i) w w' := by
  have HC := Lib.hid (check_ok w D b bs h)
  obtain ⟨i0, hi, hz0, hz1, hz2⟩ := info_parts byte_info
  have hlt := h.lt
  have hle := h.le
  clear h
  go_enter Try.func70, Try.ntmps70
  go_wp2_with (first
    | (go_at_call 88; refine HC.out.mono ?_; rintro e w1 ⟨rfl, ⟨v, hB, ho⟩, hk⟩; obtain ⟨A, cap, rfl⟩ := own_slice ho; obtain ⟨c0, c1, f0, f1⟩ := wcells hB)
    | (at_builtin; have z1 := ho.alloc (.cells #[.int .u8 c.toNat] 5); have z2 : Blk (w1.alloc (.cells #[.int .u8 c.toNat] 5)) w1.heap.size 5 #[.int .u8 c.toNat] := Blk.new _ _ _; have z4 : ∀ u ∈ (#[Value.int .u8 c.toNat] : Array Value).toList, u.oneCell' = true := (by simp [Value.oneCell']); have z3 : D ≤ w1.heap.size := Nat.le_trans hle hk.size; refine list_push _ rfl (.tmp 11) (.tmp 13) 49 rfl D 5 i0 (.int .u8 0) 1 1 Try.underlying49 hi hz0 hz1 hz2 rfl (by decide) (.slice A bs.length cap) bs.length (byteCells bs) rfl z1 w1.heap.size #[.int .u8 c.toNat] rfl z2 rfl z4 (by omega) (by decide) z3 ?_; intro g cap2 w5 hown hgrow hat hlt5; have hX5 := (hB.alloc (.cells #[.int .u8 c.toNat] 5)).grown hgrow (fun h => by have := (ho.lt b h.symm).1; omega); obtain ⟨v0, v1, g0, g1⟩ := wcells hX5))
  go_ret
  have hkk := ((((hk.mono (S' := fun i => i = b ∨ D ≤ i) (fun _ _ h => .inl h)).alloc (.cells #[.int .u8 c.toNat] 5)).grown hgrow (fun i hi => .inl (.inr (ho.lt i hi).1))).setCell (p := ⟨b, 1, none⟩) (.inl (.inl rfl)) (.slice (some ⟨g, 0, none⟩) (bs.length + 1) cap2))
  refine ⟨rfl, ⟨⟨_, _, .inr rfl, hX5.set_ 1 _, ?_⟩, hlt, Nat.le_trans hle hkk.size⟩, hkk⟩
  have hz := own_kept hown (Kept.set1 w5 b 1 (.slice (some ⟨g, 0, none⟩) (bs.length + 1) cap2)) (fun g hg e => by have := (hown.lt g hg).1; omega)
  rw [List.length_append, List.length_singleton, byteCells_append]
  exact hz

set_option maxHeartbeats 1000000 in
set_option maxRecDepth 100000 in
theorem wstring_ok (w : World) (D b : Nat) (bs : List UInt8) (h : WB w D b bs) (s : ByteArray) (hn : bs.length + s.size ≤ 100000000) :
    Calls Try.prog 68 #[.pointer (some ⟨b, 0, none⟩), .string s] w fun e w' => e = .returned (.tuple #[.int .i64 s.size, .nilIface]) ∧ WB w' D b (bs ++ byts s) ∧ Kept (fun i => i = b ∨ D ≤ i) w w' := by
  have HC := Lib.hid (check_ok w D b bs h)
  obtain ⟨i0, hi, hz0, hz1, hz2⟩ := info_parts byte_info
  have hlt := h.lt
  have hle := h.le
  clear h
  go_enter Try.func68, Try.ntmps68
  go_wp2_with (first
    | (go_at_call 88; refine HC.out.mono ?_; rintro e w1 ⟨rfl, ⟨v, hB, ho⟩, hk⟩; obtain ⟨A, cap, rfl⟩ := own_slice ho; obtain ⟨c0, c1, f0, f1⟩ := wcells hB)
    | (at_builtin; have z3 : D ≤ w1.heap.size := Nat.le_trans hle hk.size; refine wpList_append_own_string w1 rfl (.tmp 12) (.tmp 13) 49 9 rfl D 5 i0 Try.underlying49 Try.underlying9 hi hz0 hz1 hz2 (.slice A bs.length cap) bs.length (byteCells bs) rfl ho s rfl (by unfold maxLen; omega) (by omega) z3 ?_; intro v' w5 hown hgrow _; have hX5 := hB.grown hgrow (fun h => by have := (ho.lt b h.symm).1; omega); obtain ⟨v0, v1, g0, g1⟩ := wcells hX5; obtain ⟨A5, cap5, rfl⟩ := own_slice hown))
  have hkk := (((hk.mono (S' := fun i => i = b ∨ D ≤ i) (fun _ _ h => .inl h)).grown hgrow (fun i hi => .inl (.inr (ho.lt i hi).1))).setCell (p := ⟨b, 1, none⟩) (.inl (.inl rfl)) (.slice A5 (bs.length + s.size) cap5))
  refine bodyPost_ret (v := .tuple #[.int .i64 s.size, .nilIface]) (by simp [results, Try.results68, go_sem]) rfl ⟨rfl, ⟨⟨_, _, .inr rfl, hX5.set_ 1 _, ?_⟩, hlt, Nat.le_trans hle hkk.size⟩, hkk⟩
  have hz := own_kept hown (Kept.set1 w5 b 1 (.slice A5 (bs.length + s.size) cap5)) (fun g hg e => by have := (hown.lt g hg).1; omega)
  rw [List.length_append, byts_len, byteCells_append]
  exact hz

theorem wlen_ok (w : World) (D b : Nat) (bs : List UInt8) (h : WB w D b bs) :
    Calls Try.prog 30 #[.pointer (some ⟨b, 0, none⟩)] w fun e w' => e = .returned (.int .i64 bs.length) ∧ w = w' := by
  obtain ⟨p, v, _, hB, ho⟩ := h.box
  obtain ⟨A, cap, rfl⟩ := own_slice ho
  obtain ⟨c0, c1, f0, f1⟩ := wcells hB
  go_enter Try.func30, Try.ntmps30
  go_wp2
  go_ret
  exact ⟨rfl, rfl⟩

set_option maxHeartbeats 1000000 in
set_option maxRecDepth 100000 in
theorem wstr_ok (w : World) (D b : Nat) (bs : List UInt8) (h : WB w D b bs) (h0 : bs ≠ []) :
    Calls Try.prog 31 #[.pointer (some ⟨b, 0, none⟩)] w fun e w' => e = .returned (.string ⟨bs.toArray⟩) ∧ Below D w w' := by
  obtain ⟨p, v, _, hB, ho⟩ := h.box
  have hl0 : 0 < bs.length := List.length_pos_iff.2 h0
  rcases ho.2 with ⟨_, hz⟩ | ⟨g, cap, cur, rfl, hbg, hg, hnc, hcm, hcs, htake⟩
  · omega
  have c1 : w.drew.cell? ⟨b, 1, none⟩ = some (.slice (some ⟨g, 0, none⟩) bs.length cap) := (hB.drew).cell 1
  have hSD : (Builtin.unsafeSliceData_ #[49] 70 #[.slice (some ⟨g, 0, none⟩) bs.length cap]).run Try.prog w.drew = .ok (.pointer (some ⟨g, 0, none⟩)) w.drew :=
    Lib.run_unsafeSliceData_row _ _ _ _ _ _ (by omega)
  have hUS : (Builtin.unsafeString_ #[70, 3] 9 #[.pointer (some ⟨g, 0, none⟩), .int .i64 bs.length]).run Try.prog w.drew = .ok (.string ⟨bs.toArray⟩) (w.drew.freeze ⟨g, 0, none⟩ bs.length) := by
    refine Lib.run_unsafeString_row w.drew 70 3 9 5 Try.underlying70 byte_cells g cur.size (by have hg' : w.drew.heap[g]? = some (.cells cur 5 (0, 0)) := hg; simp [World.shape?, hg']) bs h0 (by omega) (by unfold maxLen at hcm; omega) ?_
    intro j x hx
    exact ho.cells (g := g) rfl j (.int .u8 x.toNat) (by simp [Lib.byteCells, hx])
  have hfin := Lib.below_freeze (Below.drew (Below.refl D w)) (p := ⟨g, 0, none⟩) hbg bs.length
  clear h ho hg hcs htake hnc hcm
  go_enter Try.func31, Try.ntmps31
  go_wp2
  go_region
  go_wp2
  go_ret
  exact ⟨rfl, hfin⟩
end Go.Proofs.Ytephhendkmhggaa

/- The writer: symbols, numbers, keywords. -/
namespace Go.Proofs.Ytephhendkmhggaa
open Go.RowKit Go.Lib

theorem kept_undrew {S : Nat → Prop} {a w1 : World} (h : Kept S a.drew w1) : Kept S a w1 := ⟨h.os, h.tape, h.output, h.size, h.block⟩
theorem WB.drew {w : World} {D b : Nat} {bs : List UInt8} (h : WB w D b bs) : WB w.drew D b bs := h.keep ((Below.refl _ w).drew)

set_option maxHeartbeats 1000000 in
set_option maxRecDepth 100000 in
theorem wnum_ok (w : World) (D b : Nat) (bs : List UInt8) (h : WB w D b bs) (bx off : Nat) (y : C3) (hp : PC w bx off y) (hx1 : bx < D) (hx2 : bx ≠ b) (hn : bs.length + y.t.size ≤ 100000000) :
    Calls Try.prog 44 #[.pointer (some ⟨b, 0, none⟩), .pointer (some ⟨bx, off, none⟩)] w fun e w' => e = .returned (.tuple #[]) ∧ WB w' D b (bs ++ byts y.t) ∧ Kept (fun i => i = b ∨ D ≤ i) w w' := by
  have HC := Lib.hid (wstring_ok w.drew D b bs h.drew y.t hn)
  obtain ⟨hlt, x0, x1, x2⟩ := hp
  go_enter Try.func44, Try.ntmps44
  go_wp2
  go_region_held3 (fun w' => w'.cell? ⟨bx, off + 1, none⟩ = some (.string y.t)) (go_keep) (first | (go_at_call 68; refine HC.out.mono ?_; rintro e w1 ⟨rfl, hw, hk⟩; have hj : w1.cell? ⟨bx, off + 1, none⟩ = w.cell? ⟨bx, off + 1, none⟩ := (by unfold World.cell?; rw [(kept_undrew hk).block bx hlt (by omega)])))
  go_end0
  exact ⟨rfl, hw, kept_undrew hk⟩

set_option maxHeartbeats 1000000 in
set_option maxRecDepth 100000 in
theorem wkey_ok (w : World) (D b : Nat) (bs : List UInt8) (h : WB w D b bs) (bx off : Nat) (y : C3) (hp : PC w bx off y) (hx1 : bx < D) (hx2 : bx ≠ b) (hn : bs.length + (y.t.size + 1) ≤ 100000000) :
    Calls Try.prog 45 #[.pointer (some ⟨b, 0, none⟩), .pointer (some ⟨bx, off, none⟩)] w fun e w' => e = .returned (.tuple #[]) ∧ WB w' D b (bs ++ 58 :: byts y.t) ∧ Kept (fun i => i = b ∨ D ≤ i) w w' := by
  obtain ⟨q, hq⟩ : ∃ q, (⟨#[58]⟩ : ByteArray) ++ y.t = q := ⟨_, rfl⟩
  have hqb : byts q = 58 :: byts y.t := by
    rw [← hq]
    simp [byts]
  have hqs : q.size = y.t.size + 1 := by
    have := congrArg List.length hqb
    rw [byts_len, List.length_cons, byts_len] at this
    exact this
  have HC := Lib.hid (wstring_ok w.drew D b bs h.drew q (by omega))
  rw [hqb] at HC
  obtain ⟨hlt, x0, x1, x2⟩ := hp
  go_enter Try.func45, Try.ntmps45
  go_wp2
  go_region_with (go_at_call 68; refine HC.out.mono ?_; rintro e w1 ⟨rfl, hw, hk⟩)
  go_end0
  exact ⟨rfl, hw, kept_undrew hk⟩

set_option maxHeartbeats 1000000 in
set_option maxRecDepth 100000 in
theorem wsym_ok (w : World) (D b : Nat) (bs : List UInt8) (h : WB w D b bs) (bx off : Nat) (y : C3) (hp : PC w bx off y) (hx1 : bx < D) (hx2 : bx ≠ b) (hs : y.t.size ≤ 1000) (hn : bs.length + (quoteL (byts y.t)).length ≤ 100000000) :
    Calls Try.prog 43 #[.pointer (some ⟨b, 0, none⟩), .pointer (some ⟨bx, off, none⟩)] w fun e w' => e = .returned (.tuple #[]) ∧ WB w' D b (bs ++ quoteL (byts y.t)) ∧ Kept (fun i => i = b ∨ D ≤ i) w w' := by
  have HQ := Lib.hid (quote_ok y.t w.drew hs)
  have HC := Lib.hid (fun q (hq : byts q = quoteL (byts y.t)) => wstring_ok w.drew D b bs h.drew q (by rw [← byts_len, hq]; exact hn))
  obtain ⟨hlt, x0, x1, x2⟩ := hp
  go_enter Try.func43, Try.ntmps43
  go_wp2
  go_region_held3 (fun w' => w'.cell? ⟨bx, off + 1, none⟩ = some (.string y.t)) (go_keep) (first
    | (go_at_call 69; refine HQ.out.mono ?_; rintro e w1 ⟨⟨q, rfl, hq⟩, rfl⟩; have Hq := Lib.hid hq; clear hq)
    | (go_at_call 68; refine (HC.out _ Hq.out).mono ?_; rintro e w1 ⟨rfl, hw, hk⟩; have hj : w1.cell? ⟨bx, off + 1, none⟩ = w.cell? ⟨bx, off + 1, none⟩ := (by unfold World.cell?; rw [(kept_undrew hk).block bx hlt (by omega)])))
  go_end0
  rw [Hq.out] at hw
  exact ⟨rfl, hw, kept_undrew hk⟩

mutual
/-- An expression as it is written. -/
def Sx.print : Sx → List UInt8
  | .mk k t l => if k = 0 then quoteL t else if k = 2 then 58 :: t else if k = 3 then 40 :: (Sx.prints l ++ [41]) else t
def Sx.prints : List Sx → List UInt8
  | [] => []
  | x :: r => x.print ++ Sx.tails r
def Sx.tails : List Sx → List UInt8
  | [] => []
  | x :: r => 32 :: (x.print ++ Sx.tails r)
end
theorem tails_snoc : ∀ (l : List Sx) (y : Sx), Sx.tails (l ++ [y]) = Sx.tails l ++ 32 :: y.print
  | [], y => by simp [Sx.tails]
  | x :: r, y => by
    show 32 :: (x.print ++ Sx.tails (r ++ [y])) = 32 :: (x.print ++ Sx.tails r) ++ 32 :: y.print
    rw [tails_snoc r y]
    simp
theorem prints_snoc (l : List Sx) (y : Sx) (h : l ≠ []) : Sx.prints (l ++ [y]) = Sx.prints l ++ 32 :: y.print := by
  cases l with
  | nil => exact absurd rfl h
  | cons x r =>
    show x.print ++ Sx.tails (r ++ [y]) = (x.print ++ Sx.tails r) ++ 32 :: y.print
    rw [tails_snoc, List.append_assoc]
theorem tails_take : ∀ (l : List Sx) (i : Nat), (Sx.tails (l.take i)).length ≤ (Sx.tails l).length
  | [], i => by simp [Sx.tails]
  | x :: r, 0 => by simp [Sx.tails]
  | x :: r, i + 1 => by
    have := tails_take r i
    rw [List.take_succ_cons, Sx.tails, Sx.tails]
    simp only [List.length_cons, List.length_append]
    omega
theorem prints_take (l : List Sx) (i : Nat) : (Sx.prints (l.take i)).length ≤ (Sx.prints l).length := by
  cases l with
  | nil => simp [Sx.prints]
  | cons x r =>
    cases i with
    | zero => simp [Sx.prints]
    | succ i =>
      have := tails_take r i
      rw [List.take_succ_cons, Sx.prints, Sx.prints]
      simp only [List.length_append]
      omega

/-- put, at an expression. -/
def PutAt (x : Sx) : Prop := ∀ (w : World) (D b : Nat) (bs : List UInt8) (bx off : Nat) (y : C3), WB w D b bs → PC w bx off y → Lies (fun i => i < D ∧ i ≠ b) w y.val x → bx < D → bx ≠ b → x.stands = true → bs.length + x.print.length ≤ 100000000 →
  Calls Try.prog 29 #[.pointer (some ⟨b, 0, none⟩), .pointer (some ⟨bx, off, none⟩)] w fun e w' => e = .returned (.tuple #[]) ∧ WB w' D b (bs ++ x.print) ∧ Kept (fun i => i = b ∨ D ≤ i) w w'
end Go.Proofs.Ytephhendkmhggaa

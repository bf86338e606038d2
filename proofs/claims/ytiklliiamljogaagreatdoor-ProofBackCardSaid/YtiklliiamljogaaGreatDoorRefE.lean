/- Next. -/
import Derived.Test.YtiklliiamljogaaGreatDoorRefD
import Derived.Laws.EntriesVeiled
namespace Go.Proofs.YtiklliiamljogaaGreatDoor
open Go.RowKit

/-- What Next hands back when the first byte that is not skipped is at n. -/
def NextIs (L : List UInt8) (n : Nat) (e : Ending) : Prop :=
  (L.drop n = [] ∧ e = .returned (.tuple #[.agg #[.int .i8 0, .string ⟨#[]⟩, .int .i64 0, .int .i64 0], .bool false, .int .i64 0])) ∨
  (L.drop n ≠ [] ∧ tok (L.drop n) = none ∧ e = .returned (.tuple #[.agg #[.int .i8 0, .string ⟨#[]⟩, .int .i64 n, .int .i64 0], .bool false, .int .i64 20])) ∨
  (∃ r t, tok (L.drop n) = some r ∧ byts t = r.t ∧ e = .returned (.tuple #[.agg #[.int .i8 r.k, .string t, .int .i64 n, .int .i64 (n + r.n)], .bool true, .int .i64 0]))

/-- Where the token begins that Next reads. -/
def startI (s : ByteArray) (a : Int) : Nat := fromI a s.size + sk false ((byts s).drop (fromI a s.size))
theorem startI_le (s : ByteArray) (a : Int) : startI s a ≤ s.size := by
  unfold startI
  have h1 := sk_le false ((byts s).drop (fromI a s.size))
  have h2 := fromI_le a s.size
  rw [List.length_drop, byts_len] at h1
  omega

theorem next_end (s : ByteArray) (a : Int) (w : World) (hs : s.size ≤ 1000000) (hn : startI s a = s.size) :
    Calls Tryz.prog 91 #[.string s, .int .i64 a] w fun e w' => e = .returned (.tuple #[.agg #[.int .i8 0, .string ⟨#[]⟩, .int .i64 0, .int .i64 0], .bool false, .int .i64 0]) ∧ Below w.heap.size w w' := by
  have Hn := Lib.hid hn
  clear hn
  have d1 : ((s.size : Int) == (s.size : Int)) = true := beq_self_eq_true _
  go_enter Tryz.func91, Tryz.ntmps91
  go_wp2_with (go_at_call 62; refine (skip_ok s a _ hs).mono ?_; rintro e w1 ⟨rfl, rfl⟩; rw [show fromI a s.size + sk false ((byts s).drop (fromI a s.size)) = s.size from Hn.out])
  refine bodyPost_ret (v := .tuple #[.agg #[.int .i8 0, .string ⟨#[]⟩, .int .i64 0, .int .i64 0], .bool false, .int .i64 0]) (by simp [results, Tryz.results91, go_sem]) rfl ⟨rfl, ((Below.refl _ _).alloc (Nat.le_refl _) _).alloc (by simp) _⟩

theorem cells4' {w : World} {g : Nat} {t : TypeId} {a b c d : Value} (h : Blk w g t #[a, b, c, d]) :
    w.cell? ⟨g, 0, none⟩ = some a ∧ w.cell? ⟨g, 1, none⟩ = some b ∧ w.cell? ⟨g, 2, none⟩ = some c ∧ w.cell? ⟨g, 3, none⟩ = some d := (cells4 h).1

set_option maxHeartbeats 1000000 in
theorem next_open (s : ByteArray) (a : Int) (w : World) (n : Nat) (hs : s.size ≤ 1000000) (hst : startI s a = n) (hn : n < s.size) (hby : byN (s[n]'hn).toNat = 0) :
    Calls Tryz.prog 91 #[.string s, .int .i64 a] w fun e w' =>
      (((raw 0 [] 1) = none ∧ e = .returned (.tuple #[.agg #[.int .i8 0, .string ⟨#[]⟩, .int .i64 n, .int .i64 0], .bool false, .int .i64 20])) ∨
       (∃ r t, (raw 0 [] 1) = some r ∧ byts t = r.t ∧ e = .returned (.tuple #[.agg #[.int .i8 r.k, .string t, .int .i64 n, .int .i64 (n + r.n)], .bool true, .int .i64 0]))) ∧ Below w.heap.size w w' := by
  have Hst := Lib.hid hst
  have d1 : ((n : Int) == (s.size : Int)) = false := beq_eq_false_iff_ne.2 (by omega)
  have hnz : (n : Int) < (s.size : Int) := by omega
  obtain ⟨x, hx⟩ : ∃ x : UInt8, s[n]'hn = x := ⟨_, rfl⟩
  rw [hx] at hby
  have hx8 := x.toNat_lt
  have Hby := Lib.hid hby
  clear hst hby
  generalize hoo : (raw 0 [] 1) = o
  have Hoo := Lib.hid hoo
  clear hoo
  go_enter Tryz.func91, Tryz.ntmps91
  go_upto_region 6 with (first
    | (go_at_call 62; refine (skip_ok s a _ hs).mono ?_; rintro e w1 ⟨rfl, rfl⟩; rw [show fromI a s.size + sk false ((byts s).drop (fromI a s.size)) = n from Hst.out])
    | (go_at_call 109; refine (by_ok x.toNat hx8).mono ?_; rintro e w1 ⟨rfl, rfl⟩; rw [Hby.out])
    | (go_at_call 102; refine (open_ok s n _ (by omega)).mono ?_; rintro e w2 ⟨hrd, hb2⟩; rw [Hoo.out] at hrd; obtain ⟨k, t, a1, b1, rfl, hr⟩ := hrd; have hbk := blk_box0 _ _ _ _ hb2 rfl; obtain ⟨⟨c0, c1, c2, c3⟩, ⟨f0, f1, f2, f3⟩⟩ := cells4 hbk; have Hr := Lib.hid hr; have Hbl := Lib.hid (below_box _ _ hb2); have Hbk := Lib.hid hbk; clear hb2 hbk hr))
  have hput := put4 Hbk.out (.int .i8 k) (.string t) (.int .i64 a1) (.int .i64 b1)
  have hbl2 := below4 Hbl.out (Nat.le_refl _) (.int .i8 k) (.string t) (.int .i64 a1) (.int .i64 b1)
  clear Hbk Hbl c0 c1 c2 c3 f0 f1 f2 f3
  generalize (((w2.setCell ⟨w.heap.size, 0, none⟩ (.int .i8 k)).setCell ⟨w.heap.size, 1, none⟩ (.string t)).setCell ⟨w.heap.size, 2, none⟩ (.int .i64 a1)).setCell ⟨w.heap.size, 3, none⟩ (.int .i64 b1) = w3 at *
  obtain ⟨⟨c0, c1, c2, c3⟩, ⟨f0, f1, f2, f3⟩⟩ := cells4 hput
  have Hput := Lib.hid hput
  have Hbl2 := Lib.hid hbl2
  clear hput hbl2
  cases o with
  | none =>
    simp only [Option.isSome_none]
    go_wp2
    have hput := put4 Hput.out (.int .i8 0) (.string ⟨#[]⟩) (.int .i64 n) (.int .i64 0)
    have hbl3 := below4 Hbl2.out (Nat.le_refl _) (.int .i8 0) (.string ⟨#[]⟩) (.int .i64 n) (.int .i64 0)
    obtain ⟨q0, q1, q2, q3⟩ := cells4' hput
    refine bodyPost_ret (v := .tuple #[.agg #[.int .i8 0, .string ⟨#[]⟩, .int .i64 n, .int .i64 0], .bool false, .int .i64 20]) (by simp [results, Tryz.results91, go_sem, q0, q1, q2, q3]) rfl ⟨by first | exact rfl | exact .inl ⟨rfl, rfl⟩, hbl3⟩
  | some r =>
    obtain ⟨rfl, h2, rfl, rfl⟩ := Hr.out r rfl
    simp only [Option.isSome_some]
    have H2 := Lib.hid h2
    clear h2
    go_wp2
    have hput := put4 Hput.out (.int .i8 r.k) (.string t) (.int .i64 n) (.int .i64 (n + r.n))
    have hbl3 := below4 Hbl2.out (Nat.le_refl _) (.int .i8 r.k) (.string t) (.int .i64 n) (.int .i64 (n + r.n))
    obtain ⟨q0, q1, q2, q3⟩ := cells4' hput
    refine bodyPost_ret (v := .tuple #[.agg #[.int .i8 r.k, .string t, .int .i64 n, .int .i64 (n + r.n)], .bool true, .int .i64 0]) (by simp [results, Tryz.results91, go_sem, q0, q1, q2, q3]) rfl ⟨by first | exact ⟨t, H2.out, rfl⟩ | exact .inr ⟨r, t, rfl, H2.out, rfl⟩, hbl3⟩

set_option maxHeartbeats 1000000 in
theorem next_close (s : ByteArray) (a : Int) (w : World) (n : Nat) (hs : s.size ≤ 1000000) (hst : startI s a = n) (hn : n < s.size) (hby : byN (s[n]'hn).toNat = 1) :
    Calls Tryz.prog 91 #[.string s, .int .i64 a] w fun e w' =>
      (((raw 1 [] 1) = none ∧ e = .returned (.tuple #[.agg #[.int .i8 0, .string ⟨#[]⟩, .int .i64 n, .int .i64 0], .bool false, .int .i64 20])) ∨
       (∃ r t, (raw 1 [] 1) = some r ∧ byts t = r.t ∧ e = .returned (.tuple #[.agg #[.int .i8 r.k, .string t, .int .i64 n, .int .i64 (n + r.n)], .bool true, .int .i64 0]))) ∧ Below w.heap.size w w' := by
  have Hst := Lib.hid hst
  have d1 : ((n : Int) == (s.size : Int)) = false := beq_eq_false_iff_ne.2 (by omega)
  have hnz : (n : Int) < (s.size : Int) := by omega
  obtain ⟨x, hx⟩ : ∃ x : UInt8, s[n]'hn = x := ⟨_, rfl⟩
  rw [hx] at hby
  have hx8 := x.toNat_lt
  have Hby := Lib.hid hby
  clear hst hby
  generalize hoo : (raw 1 [] 1) = o
  have Hoo := Lib.hid hoo
  clear hoo
  go_enter Tryz.func91, Tryz.ntmps91
  go_upto_region 6 with (first
    | (go_at_call 62; refine (skip_ok s a _ hs).mono ?_; rintro e w1 ⟨rfl, rfl⟩; rw [show fromI a s.size + sk false ((byts s).drop (fromI a s.size)) = n from Hst.out])
    | (go_at_call 109; refine (by_ok x.toNat hx8).mono ?_; rintro e w1 ⟨rfl, rfl⟩; rw [Hby.out])
    | (go_at_call 103; refine (close_ok s n _ (by omega)).mono ?_; rintro e w2 ⟨hrd, hb2⟩; rw [Hoo.out] at hrd; obtain ⟨k, t, a1, b1, rfl, hr⟩ := hrd; have hbk := blk_box0 _ _ _ _ hb2 rfl; obtain ⟨⟨c0, c1, c2, c3⟩, ⟨f0, f1, f2, f3⟩⟩ := cells4 hbk; have Hr := Lib.hid hr; have Hbl := Lib.hid (below_box _ _ hb2); have Hbk := Lib.hid hbk; clear hb2 hbk hr))
  have hput := put4 Hbk.out (.int .i8 k) (.string t) (.int .i64 a1) (.int .i64 b1)
  have hbl2 := below4 Hbl.out (Nat.le_refl _) (.int .i8 k) (.string t) (.int .i64 a1) (.int .i64 b1)
  clear Hbk Hbl c0 c1 c2 c3 f0 f1 f2 f3
  generalize (((w2.setCell ⟨w.heap.size, 0, none⟩ (.int .i8 k)).setCell ⟨w.heap.size, 1, none⟩ (.string t)).setCell ⟨w.heap.size, 2, none⟩ (.int .i64 a1)).setCell ⟨w.heap.size, 3, none⟩ (.int .i64 b1) = w3 at *
  obtain ⟨⟨c0, c1, c2, c3⟩, ⟨f0, f1, f2, f3⟩⟩ := cells4 hput
  have Hput := Lib.hid hput
  have Hbl2 := Lib.hid hbl2
  clear hput hbl2
  cases o with
  | none =>
    simp only [Option.isSome_none]
    go_wp2
    have hput := put4 Hput.out (.int .i8 0) (.string ⟨#[]⟩) (.int .i64 n) (.int .i64 0)
    have hbl3 := below4 Hbl2.out (Nat.le_refl _) (.int .i8 0) (.string ⟨#[]⟩) (.int .i64 n) (.int .i64 0)
    obtain ⟨q0, q1, q2, q3⟩ := cells4' hput
    refine bodyPost_ret (v := .tuple #[.agg #[.int .i8 0, .string ⟨#[]⟩, .int .i64 n, .int .i64 0], .bool false, .int .i64 20]) (by simp [results, Tryz.results91, go_sem, q0, q1, q2, q3]) rfl ⟨by first | exact rfl | exact .inl ⟨rfl, rfl⟩, hbl3⟩
  | some r =>
    obtain ⟨rfl, h2, rfl, rfl⟩ := Hr.out r rfl
    simp only [Option.isSome_some]
    have H2 := Lib.hid h2
    clear h2
    go_wp2
    have hput := put4 Hput.out (.int .i8 r.k) (.string t) (.int .i64 n) (.int .i64 (n + r.n))
    have hbl3 := below4 Hbl2.out (Nat.le_refl _) (.int .i8 r.k) (.string t) (.int .i64 n) (.int .i64 (n + r.n))
    obtain ⟨q0, q1, q2, q3⟩ := cells4' hput
    refine bodyPost_ret (v := .tuple #[.agg #[.int .i8 r.k, .string t, .int .i64 n, .int .i64 (n + r.n)], .bool true, .int .i64 0]) (by simp [results, Tryz.results91, go_sem, q0, q1, q2, q3]) rfl ⟨by first | exact ⟨t, H2.out, rfl⟩ | exact .inr ⟨r, t, rfl, H2.out, rfl⟩, hbl3⟩

set_option maxHeartbeats 1000000 in
theorem next_bar (s : ByteArray) (a : Int) (w : World) (n : Nat) (hs : s.size ≤ 1000000) (hst : startI s a = n) (hn : n < s.size) (hby : byN (s[n]'hn).toNat = 2) :
    Calls Tryz.prog 91 #[.string s, .int .i64 a] w fun e w' =>
      (((tokBar ((byts s).drop (n + 1))) = none ∧ e = .returned (.tuple #[.agg #[.int .i8 0, .string ⟨#[]⟩, .int .i64 n, .int .i64 0], .bool false, .int .i64 20])) ∨
       (∃ r t, (tokBar ((byts s).drop (n + 1))) = some r ∧ byts t = r.t ∧ e = .returned (.tuple #[.agg #[.int .i8 r.k, .string t, .int .i64 n, .int .i64 (n + r.n)], .bool true, .int .i64 0]))) ∧ Below w.heap.size w w' := by
  have Hst := Lib.hid hst
  have d1 : ((n : Int) == (s.size : Int)) = false := beq_eq_false_iff_ne.2 (by omega)
  have hnz : (n : Int) < (s.size : Int) := by omega
  obtain ⟨x, hx⟩ : ∃ x : UInt8, s[n]'hn = x := ⟨_, rfl⟩
  rw [hx] at hby
  have hx8 := x.toNat_lt
  have Hby := Lib.hid hby
  clear hst hby
  generalize hoo : (tokBar ((byts s).drop (n + 1))) = o
  have Hoo := Lib.hid hoo
  clear hoo
  go_enter Tryz.func91, Tryz.ntmps91
  go_upto_region 6 with (first
    | (go_at_call 62; refine (skip_ok s a _ hs).mono ?_; rintro e w1 ⟨rfl, rfl⟩; rw [show fromI a s.size + sk false ((byts s).drop (fromI a s.size)) = n from Hst.out])
    | (go_at_call 109; refine (by_ok x.toNat hx8).mono ?_; rintro e w1 ⟨rfl, rfl⟩; rw [Hby.out])
    | (go_at_call 104; refine (bar_ok s n _ hn hs).mono ?_; rintro e w2 ⟨hrd, hb2⟩; rw [Hoo.out] at hrd; obtain ⟨k, t, a1, b1, rfl, hr⟩ := hrd; have hbk := blk_box0 _ _ _ _ hb2 rfl; obtain ⟨⟨c0, c1, c2, c3⟩, ⟨f0, f1, f2, f3⟩⟩ := cells4 hbk; have Hr := Lib.hid hr; have Hbl := Lib.hid (below_box _ _ hb2); have Hbk := Lib.hid hbk; clear hb2 hbk hr))
  have hput := put4 Hbk.out (.int .i8 k) (.string t) (.int .i64 a1) (.int .i64 b1)
  have hbl2 := below4 Hbl.out (Nat.le_refl _) (.int .i8 k) (.string t) (.int .i64 a1) (.int .i64 b1)
  clear Hbk Hbl c0 c1 c2 c3 f0 f1 f2 f3
  generalize (((w2.setCell ⟨w.heap.size, 0, none⟩ (.int .i8 k)).setCell ⟨w.heap.size, 1, none⟩ (.string t)).setCell ⟨w.heap.size, 2, none⟩ (.int .i64 a1)).setCell ⟨w.heap.size, 3, none⟩ (.int .i64 b1) = w3 at *
  obtain ⟨⟨c0, c1, c2, c3⟩, ⟨f0, f1, f2, f3⟩⟩ := cells4 hput
  have Hput := Lib.hid hput
  have Hbl2 := Lib.hid hbl2
  clear hput hbl2
  cases o with
  | none =>
    simp only [Option.isSome_none]
    go_wp2
    have hput := put4 Hput.out (.int .i8 0) (.string ⟨#[]⟩) (.int .i64 n) (.int .i64 0)
    have hbl3 := below4 Hbl2.out (Nat.le_refl _) (.int .i8 0) (.string ⟨#[]⟩) (.int .i64 n) (.int .i64 0)
    obtain ⟨q0, q1, q2, q3⟩ := cells4' hput
    refine bodyPost_ret (v := .tuple #[.agg #[.int .i8 0, .string ⟨#[]⟩, .int .i64 n, .int .i64 0], .bool false, .int .i64 20]) (by simp [results, Tryz.results91, go_sem, q0, q1, q2, q3]) rfl ⟨by first | exact rfl | exact .inl ⟨rfl, rfl⟩, hbl3⟩
  | some r =>
    obtain ⟨rfl, h2, rfl, rfl⟩ := Hr.out r rfl
    simp only [Option.isSome_some]
    have H2 := Lib.hid h2
    clear h2
    go_wp2
    have hput := put4 Hput.out (.int .i8 r.k) (.string t) (.int .i64 n) (.int .i64 (n + r.n))
    have hbl3 := below4 Hbl2.out (Nat.le_refl _) (.int .i8 r.k) (.string t) (.int .i64 n) (.int .i64 (n + r.n))
    obtain ⟨q0, q1, q2, q3⟩ := cells4' hput
    refine bodyPost_ret (v := .tuple #[.agg #[.int .i8 r.k, .string t, .int .i64 n, .int .i64 (n + r.n)], .bool true, .int .i64 0]) (by simp [results, Tryz.results91, go_sem, q0, q1, q2, q3]) rfl ⟨by first | exact ⟨t, H2.out, rfl⟩ | exact .inr ⟨r, t, rfl, H2.out, rfl⟩, hbl3⟩

set_option maxHeartbeats 1000000 in
theorem next_key (s : ByteArray) (a : Int) (w : World) (n : Nat) (hs : s.size ≤ 1000000) (hst : startI s a = n) (hn : n < s.size) (hby : byN (s[n]'hn).toNat = 3) :
    Calls Tryz.prog 91 #[.string s, .int .i64 a] w fun e w' =>
      (((tokKey ((byts s).drop (n + 1))) = none ∧ e = .returned (.tuple #[.agg #[.int .i8 0, .string ⟨#[]⟩, .int .i64 n, .int .i64 0], .bool false, .int .i64 20])) ∨
       (∃ r t, (tokKey ((byts s).drop (n + 1))) = some r ∧ byts t = r.t ∧ e = .returned (.tuple #[.agg #[.int .i8 r.k, .string t, .int .i64 n, .int .i64 (n + r.n)], .bool true, .int .i64 0]))) ∧ Below w.heap.size w w' := by
  have Hst := Lib.hid hst
  have d1 : ((n : Int) == (s.size : Int)) = false := beq_eq_false_iff_ne.2 (by omega)
  have hnz : (n : Int) < (s.size : Int) := by omega
  obtain ⟨x, hx⟩ : ∃ x : UInt8, s[n]'hn = x := ⟨_, rfl⟩
  rw [hx] at hby
  have hx8 := x.toNat_lt
  have Hby := Lib.hid hby
  clear hst hby
  generalize hoo : (tokKey ((byts s).drop (n + 1))) = o
  have Hoo := Lib.hid hoo
  clear hoo
  go_enter Tryz.func91, Tryz.ntmps91
  go_upto_region 6 with (first
    | (go_at_call 62; refine (skip_ok s a _ hs).mono ?_; rintro e w1 ⟨rfl, rfl⟩; rw [show fromI a s.size + sk false ((byts s).drop (fromI a s.size)) = n from Hst.out])
    | (go_at_call 109; refine (by_ok x.toNat hx8).mono ?_; rintro e w1 ⟨rfl, rfl⟩; rw [Hby.out])
    | (go_at_call 105; refine (key_ok s n _ hn hs).mono ?_; rintro e w2 ⟨hrd, hb2⟩; rw [Hoo.out] at hrd; obtain ⟨k, t, a1, b1, rfl, hr⟩ := hrd; have hbk := blk_box0 _ _ _ _ hb2 rfl; obtain ⟨⟨c0, c1, c2, c3⟩, ⟨f0, f1, f2, f3⟩⟩ := cells4 hbk; have Hr := Lib.hid hr; have Hbl := Lib.hid (below_box _ _ hb2); have Hbk := Lib.hid hbk; clear hb2 hbk hr))
  have hput := put4 Hbk.out (.int .i8 k) (.string t) (.int .i64 a1) (.int .i64 b1)
  have hbl2 := below4 Hbl.out (Nat.le_refl _) (.int .i8 k) (.string t) (.int .i64 a1) (.int .i64 b1)
  clear Hbk Hbl c0 c1 c2 c3 f0 f1 f2 f3
  generalize (((w2.setCell ⟨w.heap.size, 0, none⟩ (.int .i8 k)).setCell ⟨w.heap.size, 1, none⟩ (.string t)).setCell ⟨w.heap.size, 2, none⟩ (.int .i64 a1)).setCell ⟨w.heap.size, 3, none⟩ (.int .i64 b1) = w3 at *
  obtain ⟨⟨c0, c1, c2, c3⟩, ⟨f0, f1, f2, f3⟩⟩ := cells4 hput
  have Hput := Lib.hid hput
  have Hbl2 := Lib.hid hbl2
  clear hput hbl2
  cases o with
  | none =>
    simp only [Option.isSome_none]
    go_wp2
    have hput := put4 Hput.out (.int .i8 0) (.string ⟨#[]⟩) (.int .i64 n) (.int .i64 0)
    have hbl3 := below4 Hbl2.out (Nat.le_refl _) (.int .i8 0) (.string ⟨#[]⟩) (.int .i64 n) (.int .i64 0)
    obtain ⟨q0, q1, q2, q3⟩ := cells4' hput
    refine bodyPost_ret (v := .tuple #[.agg #[.int .i8 0, .string ⟨#[]⟩, .int .i64 n, .int .i64 0], .bool false, .int .i64 20]) (by simp [results, Tryz.results91, go_sem, q0, q1, q2, q3]) rfl ⟨by first | exact rfl | exact .inl ⟨rfl, rfl⟩, hbl3⟩
  | some r =>
    obtain ⟨rfl, h2, rfl, rfl⟩ := Hr.out r rfl
    simp only [Option.isSome_some]
    have H2 := Lib.hid h2
    clear h2
    go_wp2
    have hput := put4 Hput.out (.int .i8 r.k) (.string t) (.int .i64 n) (.int .i64 (n + r.n))
    have hbl3 := below4 Hbl2.out (Nat.le_refl _) (.int .i8 r.k) (.string t) (.int .i64 n) (.int .i64 (n + r.n))
    obtain ⟨q0, q1, q2, q3⟩ := cells4' hput
    refine bodyPost_ret (v := .tuple #[.agg #[.int .i8 r.k, .string t, .int .i64 n, .int .i64 (n + r.n)], .bool true, .int .i64 0]) (by simp [results, Tryz.results91, go_sem, q0, q1, q2, q3]) rfl ⟨by first | exact ⟨t, H2.out, rfl⟩ | exact .inr ⟨r, t, rfl, H2.out, rfl⟩, hbl3⟩

set_option maxHeartbeats 1000000 in
theorem next_number (s : ByteArray) (a : Int) (w : World) (n : Nat) (hs : s.size ≤ 1000000) (hst : startI s a = n) (hn : n < s.size) (hby : byN (s[n]'hn).toNat = 4) (hsg : signs ((byts s).drop n) ≠ []) :
    Calls Tryz.prog 91 #[.string s, .int .i64 a] w fun e w' =>
      (((tokNum ((byts s).drop n)) = none ∧ e = .returned (.tuple #[.agg #[.int .i8 0, .string ⟨#[]⟩, .int .i64 n, .int .i64 0], .bool false, .int .i64 20])) ∨
       (∃ r t, (tokNum ((byts s).drop n)) = some r ∧ byts t = r.t ∧ e = .returned (.tuple #[.agg #[.int .i8 r.k, .string t, .int .i64 n, .int .i64 (n + r.n)], .bool true, .int .i64 0]))) ∧ Below w.heap.size w w' := by
  have Hst := Lib.hid hst
  have d1 : ((n : Int) == (s.size : Int)) = false := beq_eq_false_iff_ne.2 (by omega)
  have hnz : (n : Int) < (s.size : Int) := by omega
  obtain ⟨x, hx⟩ : ∃ x : UInt8, s[n]'hn = x := ⟨_, rfl⟩
  rw [hx] at hby
  have hx8 := x.toNat_lt
  have Hby := Lib.hid hby
  clear hst hby
  generalize hoo : (tokNum ((byts s).drop n)) = o
  have Hoo := Lib.hid hoo
  clear hoo
  go_enter Tryz.func91, Tryz.ntmps91
  go_upto_region 6 with (first
    | (go_at_call 62; refine (skip_ok s a _ hs).mono ?_; rintro e w1 ⟨rfl, rfl⟩; rw [show fromI a s.size + sk false ((byts s).drop (fromI a s.size)) = n from Hst.out])
    | (go_at_call 109; refine (by_ok x.toNat hx8).mono ?_; rintro e w1 ⟨rfl, rfl⟩; rw [Hby.out])
    | (go_at_call 106; refine (number_ok s n _ hn hs hsg).mono ?_; rintro e w2 ⟨hrd, hb2⟩; rw [Hoo.out] at hrd; obtain ⟨k, t, a1, b1, rfl, hr⟩ := hrd; have hbk := blk_box0 _ _ _ _ hb2 rfl; obtain ⟨⟨c0, c1, c2, c3⟩, ⟨f0, f1, f2, f3⟩⟩ := cells4 hbk; have Hr := Lib.hid hr; have Hbl := Lib.hid (below_box _ _ hb2); have Hbk := Lib.hid hbk; clear hb2 hbk hr))
  have hput := put4 Hbk.out (.int .i8 k) (.string t) (.int .i64 a1) (.int .i64 b1)
  have hbl2 := below4 Hbl.out (Nat.le_refl _) (.int .i8 k) (.string t) (.int .i64 a1) (.int .i64 b1)
  clear Hbk Hbl c0 c1 c2 c3 f0 f1 f2 f3
  generalize (((w2.setCell ⟨w.heap.size, 0, none⟩ (.int .i8 k)).setCell ⟨w.heap.size, 1, none⟩ (.string t)).setCell ⟨w.heap.size, 2, none⟩ (.int .i64 a1)).setCell ⟨w.heap.size, 3, none⟩ (.int .i64 b1) = w3 at *
  obtain ⟨⟨c0, c1, c2, c3⟩, ⟨f0, f1, f2, f3⟩⟩ := cells4 hput
  have Hput := Lib.hid hput
  have Hbl2 := Lib.hid hbl2
  clear hput hbl2
  cases o with
  | none =>
    simp only [Option.isSome_none]
    go_wp2
    have hput := put4 Hput.out (.int .i8 0) (.string ⟨#[]⟩) (.int .i64 n) (.int .i64 0)
    have hbl3 := below4 Hbl2.out (Nat.le_refl _) (.int .i8 0) (.string ⟨#[]⟩) (.int .i64 n) (.int .i64 0)
    obtain ⟨q0, q1, q2, q3⟩ := cells4' hput
    refine bodyPost_ret (v := .tuple #[.agg #[.int .i8 0, .string ⟨#[]⟩, .int .i64 n, .int .i64 0], .bool false, .int .i64 20]) (by simp [results, Tryz.results91, go_sem, q0, q1, q2, q3]) rfl ⟨by first | exact rfl | exact .inl ⟨rfl, rfl⟩, hbl3⟩
  | some r =>
    obtain ⟨rfl, h2, rfl, rfl⟩ := Hr.out r rfl
    simp only [Option.isSome_some]
    have H2 := Lib.hid h2
    clear h2
    go_wp2
    have hput := put4 Hput.out (.int .i8 r.k) (.string t) (.int .i64 n) (.int .i64 (n + r.n))
    have hbl3 := below4 Hbl2.out (Nat.le_refl _) (.int .i8 r.k) (.string t) (.int .i64 n) (.int .i64 (n + r.n))
    obtain ⟨q0, q1, q2, q3⟩ := cells4' hput
    refine bodyPost_ret (v := .tuple #[.agg #[.int .i8 r.k, .string t, .int .i64 n, .int .i64 (n + r.n)], .bool true, .int .i64 0]) (by simp [results, Tryz.results91, go_sem, q0, q1, q2, q3]) rfl ⟨by first | exact ⟨t, H2.out, rfl⟩ | exact .inr ⟨r, t, rfl, H2.out, rfl⟩, hbl3⟩

set_option maxHeartbeats 1000000 in
theorem next_name (s : ByteArray) (a : Int) (w : World) (n : Nat) (hs : s.size ≤ 1000000) (hst : startI s a = n) (hn : n < s.size) (hby : byN (s[n]'hn).toNat = 5) :
    Calls Tryz.prog 91 #[.string s, .int .i64 a] w fun e w' =>
      (((tokName ((byts s).drop n)) = none ∧ e = .returned (.tuple #[.agg #[.int .i8 0, .string ⟨#[]⟩, .int .i64 n, .int .i64 0], .bool false, .int .i64 20])) ∨
       (∃ r t, (tokName ((byts s).drop n)) = some r ∧ byts t = r.t ∧ e = .returned (.tuple #[.agg #[.int .i8 r.k, .string t, .int .i64 n, .int .i64 (n + r.n)], .bool true, .int .i64 0]))) ∧ Below w.heap.size w w' := by
  have Hst := Lib.hid hst
  have d1 : ((n : Int) == (s.size : Int)) = false := beq_eq_false_iff_ne.2 (by omega)
  have hnz : (n : Int) < (s.size : Int) := by omega
  obtain ⟨x, hx⟩ : ∃ x : UInt8, s[n]'hn = x := ⟨_, rfl⟩
  rw [hx] at hby
  have hx8 := x.toNat_lt
  have Hby := Lib.hid hby
  clear hst hby
  generalize hoo : (tokName ((byts s).drop n)) = o
  have Hoo := Lib.hid hoo
  clear hoo
  go_enter Tryz.func91, Tryz.ntmps91
  go_upto_region 6 with (first
    | (go_at_call 62; refine (skip_ok s a _ hs).mono ?_; rintro e w1 ⟨rfl, rfl⟩; rw [show fromI a s.size + sk false ((byts s).drop (fromI a s.size)) = n from Hst.out])
    | (go_at_call 109; refine (by_ok x.toNat hx8).mono ?_; rintro e w1 ⟨rfl, rfl⟩; rw [Hby.out])
    | (go_at_call 107; refine (name_ok s n _ (by omega) hs).mono ?_; rintro e w2 ⟨hrd, hb2⟩; rw [Hoo.out] at hrd; obtain ⟨k, t, a1, b1, rfl, hr⟩ := hrd; have hbk := blk_box0 _ _ _ _ hb2 rfl; obtain ⟨⟨c0, c1, c2, c3⟩, ⟨f0, f1, f2, f3⟩⟩ := cells4 hbk; have Hr := Lib.hid hr; have Hbl := Lib.hid (below_box _ _ hb2); have Hbk := Lib.hid hbk; clear hb2 hbk hr))
  have hput := put4 Hbk.out (.int .i8 k) (.string t) (.int .i64 a1) (.int .i64 b1)
  have hbl2 := below4 Hbl.out (Nat.le_refl _) (.int .i8 k) (.string t) (.int .i64 a1) (.int .i64 b1)
  clear Hbk Hbl c0 c1 c2 c3 f0 f1 f2 f3
  generalize (((w2.setCell ⟨w.heap.size, 0, none⟩ (.int .i8 k)).setCell ⟨w.heap.size, 1, none⟩ (.string t)).setCell ⟨w.heap.size, 2, none⟩ (.int .i64 a1)).setCell ⟨w.heap.size, 3, none⟩ (.int .i64 b1) = w3 at *
  obtain ⟨⟨c0, c1, c2, c3⟩, ⟨f0, f1, f2, f3⟩⟩ := cells4 hput
  have Hput := Lib.hid hput
  have Hbl2 := Lib.hid hbl2
  clear hput hbl2
  cases o with
  | none =>
    simp only [Option.isSome_none]
    go_wp2
    have hput := put4 Hput.out (.int .i8 0) (.string ⟨#[]⟩) (.int .i64 n) (.int .i64 0)
    have hbl3 := below4 Hbl2.out (Nat.le_refl _) (.int .i8 0) (.string ⟨#[]⟩) (.int .i64 n) (.int .i64 0)
    obtain ⟨q0, q1, q2, q3⟩ := cells4' hput
    refine bodyPost_ret (v := .tuple #[.agg #[.int .i8 0, .string ⟨#[]⟩, .int .i64 n, .int .i64 0], .bool false, .int .i64 20]) (by simp [results, Tryz.results91, go_sem, q0, q1, q2, q3]) rfl ⟨by first | exact rfl | exact .inl ⟨rfl, rfl⟩, hbl3⟩
  | some r =>
    obtain ⟨rfl, h2, rfl, rfl⟩ := Hr.out r rfl
    simp only [Option.isSome_some]
    have H2 := Lib.hid h2
    clear h2
    go_wp2
    have hput := put4 Hput.out (.int .i8 r.k) (.string t) (.int .i64 n) (.int .i64 (n + r.n))
    have hbl3 := below4 Hbl2.out (Nat.le_refl _) (.int .i8 r.k) (.string t) (.int .i64 n) (.int .i64 (n + r.n))
    obtain ⟨q0, q1, q2, q3⟩ := cells4' hput
    refine bodyPost_ret (v := .tuple #[.agg #[.int .i8 r.k, .string t, .int .i64 n, .int .i64 (n + r.n)], .bool true, .int .i64 0]) (by simp [results, Tryz.results91, go_sem, q0, q1, q2, q3]) rfl ⟨by first | exact ⟨t, H2.out, rfl⟩ | exact .inr ⟨r, t, rfl, H2.out, rfl⟩, hbl3⟩

set_option maxHeartbeats 1000000 in
theorem next_none (s : ByteArray) (a : Int) (w : World) (n : Nat) (hs : s.size ≤ 1000000) (hst : startI s a = n) (hn : n < s.size) (hby : byN (s[n]'hn).toNat = 6) :
    Calls Tryz.prog 91 #[.string s, .int .i64 a] w fun e w' =>
      ((((none : Option Raw)) = none ∧ e = .returned (.tuple #[.agg #[.int .i8 0, .string ⟨#[]⟩, .int .i64 n, .int .i64 0], .bool false, .int .i64 20])) ∨
       (∃ r t, ((none : Option Raw)) = some r ∧ byts t = r.t ∧ e = .returned (.tuple #[.agg #[.int .i8 r.k, .string t, .int .i64 n, .int .i64 (n + r.n)], .bool true, .int .i64 0]))) ∧ Below w.heap.size w w' := by
  have Hst := Lib.hid hst
  have d1 : ((n : Int) == (s.size : Int)) = false := beq_eq_false_iff_ne.2 (by omega)
  have hnz : (n : Int) < (s.size : Int) := by omega
  obtain ⟨x, hx⟩ : ∃ x : UInt8, s[n]'hn = x := ⟨_, rfl⟩
  rw [hx] at hby
  have hx8 := x.toNat_lt
  have Hby := Lib.hid hby
  clear hst hby
  generalize hoo : ((none : Option Raw)) = o
  have Hoo := Lib.hid hoo
  clear hoo
  go_enter Tryz.func91, Tryz.ntmps91
  go_upto_region 6 with (first
    | (go_at_call 62; refine (skip_ok s a _ hs).mono ?_; rintro e w1 ⟨rfl, rfl⟩; rw [show fromI a s.size + sk false ((byts s).drop (fromI a s.size)) = n from Hst.out])
    | (go_at_call 109; refine (by_ok x.toNat hx8).mono ?_; rintro e w1 ⟨rfl, rfl⟩; rw [Hby.out])
    | (go_at_call 108; refine (none_ok s n _).mono ?_; rintro e w2 ⟨hrd, hb2⟩; have hrd := hrd n; rw [Hoo.out] at hrd; obtain ⟨k, t, a1, b1, rfl, hr⟩ := hrd; have hbk := blk_box0 _ _ _ _ hb2 rfl; obtain ⟨⟨c0, c1, c2, c3⟩, ⟨f0, f1, f2, f3⟩⟩ := cells4 hbk; have Hr := Lib.hid hr; have Hbl := Lib.hid (below_box _ _ hb2); have Hbk := Lib.hid hbk; clear hb2 hbk hr))
  have hput := put4 Hbk.out (.int .i8 k) (.string t) (.int .i64 a1) (.int .i64 b1)
  have hbl2 := below4 Hbl.out (Nat.le_refl _) (.int .i8 k) (.string t) (.int .i64 a1) (.int .i64 b1)
  clear Hbk Hbl c0 c1 c2 c3 f0 f1 f2 f3
  generalize (((w2.setCell ⟨w.heap.size, 0, none⟩ (.int .i8 k)).setCell ⟨w.heap.size, 1, none⟩ (.string t)).setCell ⟨w.heap.size, 2, none⟩ (.int .i64 a1)).setCell ⟨w.heap.size, 3, none⟩ (.int .i64 b1) = w3 at *
  obtain ⟨⟨c0, c1, c2, c3⟩, ⟨f0, f1, f2, f3⟩⟩ := cells4 hput
  have Hput := Lib.hid hput
  have Hbl2 := Lib.hid hbl2
  clear hput hbl2
  cases o with
  | none =>
    simp only [Option.isSome_none]
    go_wp2
    have hput := put4 Hput.out (.int .i8 0) (.string ⟨#[]⟩) (.int .i64 n) (.int .i64 0)
    have hbl3 := below4 Hbl2.out (Nat.le_refl _) (.int .i8 0) (.string ⟨#[]⟩) (.int .i64 n) (.int .i64 0)
    obtain ⟨q0, q1, q2, q3⟩ := cells4' hput
    refine bodyPost_ret (v := .tuple #[.agg #[.int .i8 0, .string ⟨#[]⟩, .int .i64 n, .int .i64 0], .bool false, .int .i64 20]) (by simp [results, Tryz.results91, go_sem, q0, q1, q2, q3]) rfl ⟨by first | exact rfl | exact .inl ⟨rfl, rfl⟩, hbl3⟩
  | some r =>
    cases Hoo.out

end Go.Proofs.YtiklliiamljogaaGreatDoor

/- Next, whole. -/
namespace Go.Proofs.YtiklliiamljogaaGreatDoor
open Go.RowKit

theorem digit_sign : ∀ m : Fin 256, byN m.val = 4 → signN m.val = true := by decide +kernel
theorem byN_le (m : Nat) : byN m ≤ 6 := by
  unfold byN
  repeat' split
  all_goals omega
theorem next_ok (s : ByteArray) (a : Int) (w : World) (hs : s.size ≤ 1000000) :
    Calls Tryz.prog 91 #[.string s, .int .i64 a] w fun e w' => NextIs (byts s) (startI s a) e ∧ Below w.heap.size w w' := by
  have hle := startI_le s a
  by_cases hn0 : startI s a = s.size
  · exact (next_end s a w hs hn0).mono fun e w' h => ⟨.inl ⟨byts_end (by omega), h.1⟩, h.2⟩
  obtain ⟨n, hst⟩ : ∃ n, startI s a = n := ⟨_, rfl⟩
  rw [hst] at hn0 hle ⊢
  have hn : n < s.size := by omega
  have hd := byts_drop hn
  have hne : (byts s).drop n ≠ [] := by rw [hd]; simp
  have hx8 := (s[n]'hn).toNat_lt
  have ht : tok ((byts s).drop n) = match byN (s[n]'hn).toNat with
    | 0 => raw 0 [] 1
    | 1 => raw 1 [] 1
    | 2 => tokBar ((byts s).drop (n + 1))
    | 3 => tokKey ((byts s).drop (n + 1))
    | 4 => tokNum ((byts s).drop n)
    | 5 => tokName ((byts s).drop n)
    | _ => none := by rw [hd]; rfl
  have hb := byN_le (s[n]'hn).toNat
  obtain ⟨k, hk⟩ : ∃ k, byN (s[n]'hn).toNat = k := ⟨_, rfl⟩
  rw [hk] at ht hb
  have hsg : k = 4 → signs ((byts s).drop n) ≠ [] := fun h4 => by
    have := digit_sign ⟨(s[n]'hn).toNat, hx8⟩ (hk.trans h4)
    rw [signs_drop hn, if_pos this]
    simp
  have key : ∀ (o : Option Raw), tok ((byts s).drop n) = o → ∀ (e : Ending) (w' : World),
      (((o = none ∧ e = .returned (.tuple #[.agg #[.int .i8 0, .string ⟨#[]⟩, .int .i64 n, .int .i64 0], .bool false, .int .i64 20])) ∨
       (∃ r t, o = some r ∧ byts t = r.t ∧ e = .returned (.tuple #[.agg #[.int .i8 r.k, .string t, .int .i64 n, .int .i64 (n + r.n)], .bool true, .int .i64 0]))) ∧ Below w.heap.size w w') → NextIs (byts s) n e ∧ Below w.heap.size w w' :=
    fun o ho e w' h => ⟨h.1.elim (fun h1 => .inr (.inl ⟨hne, ho.trans h1.1, h1.2⟩)) (fun ⟨r, t, h1, h2, h3⟩ => .inr (.inr ⟨r, t, ho.trans h1, h2, h3⟩)), h.2⟩
  match k, hk, ht, hb, hsg with
  | 0, hk, ht, _, _ => exact (next_open s a w n hs hst hn hk).mono (key _ ht)
  | 1, hk, ht, _, _ => exact (next_close s a w n hs hst hn hk).mono (key _ ht)
  | 2, hk, ht, _, _ => exact (next_bar s a w n hs hst hn hk).mono (key _ ht)
  | 3, hk, ht, _, _ => exact (next_key s a w n hs hst hn hk).mono (key _ ht)
  | 4, hk, ht, _, hsg => exact (next_number s a w n hs hst hn hk (hsg rfl)).mono (key _ ht)
  | 5, hk, ht, _, _ => exact (next_name s a w n hs hst hn hk).mono (key _ ht)
  | 6, hk, ht, _, _ => exact (next_none s a w n hs hst hn hk).mono (key _ ht)
  | k + 7, _, _, hb, _ => omega
end Go.Proofs.YtiklliiamljogaaGreatDoor

/- The reference's Next. -/
namespace Go.Proofs.YtiklliiamljogaaGreatDoor
open Go.RowKit

theorem rnext_end (s : ByteArray) (a : Int) (w : World) (hs : s.size ≤ 1000000) (hn : startI s a = s.size) :
    Calls Tryz.prog 93 #[.string s, .int .i64 a] w fun e w' => e = .returned (.tuple #[.agg #[.int .i8 0, .string ⟨#[]⟩, .int .i64 0, .int .i64 0], .bool false, .int .i64 0]) ∧ Below w.heap.size w w' := by
  have K := fun W => rskip_ok s a W hs
  rw [show fromI a s.size + sk false ((byts s).drop (fromI a s.size)) = startI s a from rfl, hn] at K
  have hB : ∀ c, Below w.heap.size w (w.alloc (.cells c 118)) := fun c => (Below.refl _ _).alloc (Nat.le_refl _) _
  clear hn
  go_enter Tryz.func93, Tryz.ntmps93
  go_wp2_with (go_at_call 64; refine (K _).mono ?_; rintro e w1 ⟨rfl, rfl⟩)
  refine bodyPost_ret (v := .tuple #[.agg #[.int .i8 0, .string ⟨#[]⟩, .int .i64 0, .int .i64 0], .bool false, .int .i64 0]) (by simp [results, Tryz.results93, go_sem]) rfl ⟨rfl, hB _⟩
theorem rnext_open (s : ByteArray) (a : Int) (w : World) (n : Nat) (hs : s.size ≤ 1000000) (hst : startI s a = n) (hn : n < s.size) (hk : (s[n]'hn).toNat = 40) :
    Calls Tryz.prog 93 #[.string s, .int .i64 a] w fun e w' => e = .returned (.tuple #[.agg #[.int .i8 0, .string ⟨#[]⟩, .int .i64 n, .int .i64 (n + 1)], .bool true, .int .i64 0]) ∧ Below w.heap.size w w' := by
  have K := fun W => rskip_ok s a W hs
  rw [show fromI a s.size + sk false ((byts s).drop (fromI a s.size)) = startI s a from rfl, hst] at K
  have KR := fun W => rrun_ok s n W hs (by omega)
  have hB : ∀ c c2, Below w.heap.size w ((w.alloc (.cells c 118)).alloc (.cells c2 118)) := fun c c2 => ((Below.refl _ _).alloc (Nat.le_refl _) _).alloc (by simp) _
  have hc : ∀ c c2 i, ((w.alloc (.cells c 118)).alloc (.cells c2 118)).cell? ⟨w.heap.size, i, none⟩ = c[i]? := fun c c2 i => ((Blk.new w _ c).alloc _).cell i
  have HC := Lib.hid hc
  obtain ⟨x, hx⟩ : ∃ x : UInt8, s[n]'hn = x := ⟨_, rfl⟩
  rw [hx] at hk
  have b1 : ((x.toNat : Int) == 40) = true := by rw [hk]; rfl
  have d1 : decide ((s.size : Int) ≤ n) = false := decide_eq_false (by omega)
  have hnz : (n : Int) < s.size := by omega
  have t1 : (0 : Int) ≤ n := by omega
  generalize (signs ((byts s).drop n)).length = m at KR
  clear hst hk hc
  go_enter Tryz.func93, Tryz.ntmps93
  go_wp2_with (first
    | (go_at_call 64; refine (K _).mono ?_; rintro e w1 ⟨rfl, rfl⟩)
    | (go_at_call 110; refine (KR _).mono ?_; rintro e w1 ⟨rfl, rfl⟩))
  refine bodyPost_ret (v := .tuple #[.agg #[.int .i8 0, .string ⟨#[]⟩, .int .i64 n, .int .i64 (n + 1)], .bool true, .int .i64 0]) (by simp [results, Tryz.results93, go_sem, HC.out]) rfl ⟨rfl, hB _ _⟩
end Go.Proofs.YtiklliiamljogaaGreatDoor

/- The readers of tokens: names, keywords, none. -/
import Derived.Test.YtpmdgjihgiieoaaLexF
namespace Go.Proofs.Ytpmdgjihgiieoaa
open Go.RowKit

theorem cells2 {w : World} {g : Nat} {t : TypeId} {a b : Value} (h : Blk w g t #[a, b]) : w.cell? ⟨g, 0, none⟩ = some a ∧ w.cell? ⟨g, 1, none⟩ = some b := ⟨h.cell 0, h.cell 1⟩

theorem none_ok (s : ByteArray) (p0 : Nat) (w : World) :
    Calls Try.prog 23 #[.agg #[.string s, .int .i64 p0]] w fun e w' => (∀ p, Reads p none e) ∧ Below w.heap.size w w' := by
  go_enter Try.func23, Try.ntmps23
  go_wp2
  refine bodyPost_ret (v := .tuple #[.agg #[.int .i8 0, .string ⟨#[]⟩, .int .i64 0, .int .i64 0], .bool false]) ?_ rfl ⟨fun p => ⟨0, ⟨#[]⟩, 0, 0, rfl, fun r hr => by cases hr⟩, ((Below.refl _ _).alloc (Nat.le_refl _) _).alloc (by simp) _⟩
  simp [results, Try.results23, go_sem]

theorem signs_size {s d : ByteArray} {p : Nat} (h : byts d = signs ((byts s).drop p)) (hs : s.size ≤ 1000000) : d.size ≤ 1000000 := by
  rw [← byts_len, h]
  have := signs_le ((byts s).drop p)
  rw [List.length_drop, byts_len] at this
  omega
theorem raw_dec {k : Nat} {d : ByteArray} {l : List UInt8} {n : Nat} (h : byts d = l) : (raw k l n).isSome = decide ((d.size : Int) ≤ 100) := by
  rw [raw_some, ← h, byts_len]
  exact decide_eq_decide.2 (by omega)

theorem name_ok (s : ByteArray) (p : Nat) (w : World) (hp : p ≤ s.size) (hs : s.size ≤ 1000000) :
    Calls Try.prog 22 #[.agg #[.string s, .int .i64 p]] w fun e w' => Reads p (tokName ((byts s).drop p)) e ∧ Below w.heap.size w w' := by
  have hp : p ≤ 1000000 := by omega
  go_enter Try.func22, Try.ntmps22
  go_wp2_with (first | (go_at_call 33; refine (run_ok s p (p) _ hs (by omega)).mono ?_; rintro e w1 ⟨⟨d, rfl, hd⟩, hb1⟩; have hd5 := signs_size hd hs; have Hd := Lib.hid hd;  have hbk := blk_box _ _ _ _ hb1 rfl; have hbx := blk_box0 _ _ _ _ hb1 rfl; have hlt := hbk.lt; obtain ⟨x0, x1⟩ := cells2 hbx; have Hbl := Lib.hid (below_box _ _ hb1); have Hbk := Lib.hid hbk; clear hb1 hbk hbx hd) | (go_at_call 30; refine (token_ok s p _ d (d.size) _ hp (by omega) hd5).mono ?_; rintro e w2 ⟨rfl, hb2⟩;  have hbk2 := Hbk.out.below hb2 hlt; obtain ⟨⟨c0, c1, c2, c3⟩, ⟨f0, f1, f2, f3⟩⟩ := cells4 hbk2; have Hbl2 := Lib.hid (Hbl.out.trans (hb2.mono Hbl.out.size)); have Hbk2 := Lib.hid hbk2; clear hb2 hbk2 x0 x1 Hbk Hbl))
  have hput := put4 Hbk2.out (.int .i8 2) (.string d) (.int .i64 p) (.int .i64 (p + d.size))
  have hbl2 := below4 Hbl2.out (Nat.le_succ _) (.int .i8 2) (.string d) (.int .i64 p) (.int .i64 (p + d.size))
  clear Hbk2 Hbl2 c0 c1 c2 c3 f0 f1 f2 f3
  generalize (((w2.setCell ⟨w.heap.size + 1, 0, none⟩ (.int .i8 2)).setCell ⟨w.heap.size + 1, 1, none⟩ (.string d)).setCell ⟨w.heap.size + 1, 2, none⟩ (.int .i64 p)).setCell ⟨w.heap.size + 1, 3, none⟩ (.int .i64 (p + d.size)) = w3 at *
  obtain ⟨⟨c0, c1, c2, c3⟩, -⟩ := cells4 hput
  have e1 : (tokName ((byts s).drop p)).isSome = decide ((d.size : Int) ≤ 100) := raw_dec Hd.out
  refine bodyPost_ret (v := .tuple #[.agg #[.int .i8 2, .string d, .int .i64 p, .int .i64 (p + d.size)], .bool (decide ((d.size : Int) ≤ 100))]) ?_ rfl ⟨⟨2, d, p, p + d.size, by rw [e1], ?_⟩, hbl2⟩
  · simp [results, Try.results22, go_sem, c0, c1, c2, c3]
  · intro r hr
    rw [raw_eq hr]
    exact ⟨rfl, Hd.out, rfl, by rw [← Hd.out, byts_len]⟩

theorem size_dec {d : ByteArray} {l : List UInt8} {b : Bool} (h : byts d = l) (hb : decide (l.length ≤ 100) = b) : decide ((d.size : Int) ≤ 100) = b := by
  rw [← hb, ← h, byts_len]
  exact decide_eq_decide.2 (by omega)
theorem empty_dec {d : ByteArray} {l : List UInt8} {b : Bool} (h : byts d = l) (hb : l.isEmpty = b) : d.toList.isEmpty = b := by
  rw [← hb, ← h, Lib.toList_data]
theorem tokKey_some (l : List UInt8) : (tokKey l).isSome = (decide ((signs l).length ≤ 100) && !(signs l).isEmpty) := by
  unfold tokKey
  by_cases h : signs l = []
  · simp [h]
  · have : (signs l).isEmpty = false := List.isEmpty_eq_false_iff.2 h
    simp only [if_neg h, this, raw_some, Bool.not_false, Bool.and_true]
theorem tokKey_eq {l : List UInt8} {r : Raw} (h : tokKey l = some r) : r = ⟨4, signs l, (signs l).length + 1⟩ := by
  unfold tokKey at h
  by_cases h2 : signs l = []
  · simp [h2] at h
  · simp only [if_neg h2] at h
    exact raw_eq h

theorem key_ok (s : ByteArray) (p : Nat) (w : World) (hp0 : p < s.size) (hs : s.size ≤ 1000000) :
    Calls Try.prog 20 #[.agg #[.string s, .int .i64 p]] w fun e w' => Reads p (tokKey ((byts s).drop (p + 1))) e ∧ Below w.heap.size w w' := by
  have hp : p ≤ 1000000 := by omega
  have hsome := tokKey_some ((byts s).drop (p + 1))
  generalize hbo : decide ((signs ((byts s).drop (p + 1))).length ≤ 100) = bo at hsome
  generalize hbe : (signs ((byts s).drop (p + 1))).isEmpty = be at hsome
  have Hbo := Lib.hid hbo
  have Hbe := Lib.hid hbe
  have Hsome := Lib.hid hsome
  clear hbo hbe hsome
  cases bo <;> cases be
  all_goals (
    go_enter Try.func20, Try.ntmps20
    go_wp2_with (first | (go_at_call 33; refine (run_ok s p (p + 1) _ hs (by omega)).mono ?_; rintro e w1 ⟨⟨d, rfl, hd⟩, hb1⟩; have hd5 := signs_size hd hs; have Hd := Lib.hid hd; have hq := size_dec hd Hbo.out; have hem := empty_dec hd Hbe.out; have hbk := blk_box _ _ _ _ hb1 rfl; have hbx := blk_box0 _ _ _ _ hb1 rfl; have hlt := hbk.lt; obtain ⟨x0, x1⟩ := cells2 hbx; have Hbl := Lib.hid (below_box _ _ hb1); have Hbk := Lib.hid hbk; clear hb1 hbk hbx hd) | (go_at_call 30; refine (token_ok s p _ d (d.size + 1) _ hp (by omega) hd5).mono ?_; rintro e w2 ⟨rfl, hb2⟩; rw [hq]; have hA := Hbk.out.below hb2 hlt; have hA := hA.alloc (.cells #[.int .i8 4, .string d, .int .i64 p, .int .i64 (p + (d.size + 1))] 29); obtain ⟨⟨a0, a1, a2, a3⟩, ⟨g0, g1, g2, g3⟩⟩ := cells4 hA; have HA := Lib.hid hA; clear hA; have hbk2 := Hbk.out.below hb2 hlt; obtain ⟨⟨c0, c1, c2, c3⟩, ⟨f0, f1, f2, f3⟩⟩ := cells4 hbk2; have Hbl2 := Lib.hid (Hbl.out.trans (hb2.mono Hbl.out.size)); have Hbk2 := Lib.hid hbk2; clear hb2 hbk2 x0 x1 Hbk Hbl))
    have hput := put4 HA.out (.int .i8 4) (.string d) (.int .i64 p) (.int .i64 (p + (d.size + 1)))
    have hbl2 := below4 (Hbl2.out.alloc Hbl2.out.size (.cells #[.int .i8 4, .string d, .int .i64 p, .int .i64 (p + (d.size + 1))] 29)) (Nat.le_succ w.heap.size) (.int .i8 4) (.string d) (.int .i64 p) (.int .i64 (p + (d.size + 1)))
    clear HA Hbk2 Hbl2 c0 c1 c2 c3 f0 f1 f2 f3 a0 a1 a2 a3 g0 g1 g2 g3
    generalize ((((w2.alloc (.cells #[.int .i8 4, .string d, .int .i64 p, .int .i64 (p + (d.size + 1))] 29)).setCell ⟨w.heap.size + 1, 0, none⟩ (.int .i8 4)).setCell ⟨w.heap.size + 1, 1, none⟩ (.string d)).setCell ⟨w.heap.size + 1, 2, none⟩ (.int .i64 p)).setCell ⟨w.heap.size + 1, 3, none⟩ (.int .i64 (p + (d.size + 1))) = w3 at *
    obtain ⟨⟨c0, c1, c2, c3⟩, -⟩ := cells4 hput
    refine bodyPost_ret (v := .tuple #[.agg #[.int .i8 4, .string d, .int .i64 p, .int .i64 (p + (d.size + 1))], .bool _]) (by simp [results, Try.results20, go_sem, c0, c1, c2, c3]; rfl) rfl ⟨⟨4, d, p, p + (d.size + 1), by rw [Hsome.out]; rfl, ?_⟩, hbl2⟩
    intro r hr
    rw [tokKey_eq hr]
    exact ⟨rfl, Hd.out, rfl, by rw [← Hd.out, byts_len]; simp⟩)
end Go.Proofs.Ytpmdgjihgiieoaa

/- The readers of tokens: names in bars. -/
import Derived.Test.YtpmdgjihgiieoaaLexG
import Derived.Deep.RegionHeld3
namespace Go.Proofs.Ytpmdgjihgiieoaa
open Go.RowKit

theorem bar_none : ∀ (l : List UInt8), Lib.indexByte l 124 = -1 → (124 : UInt8) ∉ l := by
  intro l h hm
  obtain ⟨k, hk, he⟩ := List.getElem_of_mem hm
  exact Lib.indexByte_none h k (by rw [List.getElem?_eq_getElem hk, he])
theorem bar_some : ∀ (l : List UInt8) (o : Nat), Lib.indexByte l 124 = o → o < l.length ∧ (124 : UInt8) ∈ l ∧ l.takeWhile (fun c => c != 124) = l.take o
  | [], o, h => by simp [Lib.indexByte] at h
  | c :: r, o, h => by
    unfold Lib.indexByte at h
    by_cases hc : c = 124
    · rw [if_pos (by simp [hc])] at h
      obtain rfl : o = 0 := by omega
      subst hc
      exact ⟨by simp, by simp, by simp⟩
    · rw [if_neg (by simp [hc])] at h
      by_cases h2 : Lib.indexByte r 124 = -1
      · rw [if_pos (by simp [h2])] at h; omega
      · rw [if_neg (by simp [h2])] at h
        obtain ⟨p, rfl⟩ : ∃ p, o = p + 1 := ⟨o - 1, by have := Lib.indexByte_ge r 124; omega⟩
        obtain ⟨h3, h4, h5⟩ := bar_some r p (by omega)
        refine ⟨by simp; omega, List.mem_cons_of_mem _ h4, ?_⟩
        rw [List.takeWhile_cons, if_pos (by simp [hc]), List.take_succ_cons, h5]

set_option maxHeartbeats 1000000 in
theorem bar_ok (s : ByteArray) (p : Nat) (w : World) (hp0 : p < s.size) (hs : s.size ≤ 1000000) :
    Calls Try.prog 19 #[.agg #[.string s, .int .i64 p]] w fun e w' => Reads p (tokBar ((byts s).drop (p + 1))) e ∧ Below w.heap.size w w' := by
  have hp : p ≤ 1000000 := by omega
  generalize hix : Lib.indexByte ((byts s).drop (p + 1)) 124 = o
  have Hix := Lib.hid hix
  have hge := Lib.indexByte_ge ((byts s).drop (p + 1)) 124
  rw [hix] at hge
  clear hix
  have hpz : (p : Int) + 1 ≤ (s.size : Int) := by omega
  by_cases ho : o < 0
  · have d3 : decide (o < 0) = true := decide_eq_true ho
    have hn : tokBar ((byts s).drop (p + 1)) = none := by
      unfold tokBar
      rw [if_neg (bar_none _ (by rw [Hix.out]; omega))]
    rw [hn]
    clear hn
    go_enter Try.func19, Try.ntmps19
    go_wp2_with (go_at_call 15; refine (Try.strings_IndexByte _ _ _).mono ?_; rintro e w1 ⟨rfl, rfl⟩; rw [extract_end, show (124 : Int).toNat.toUInt8 = 124 from rfl, Hix.out])
    refine bodyPost_ret (v := .tuple #[.agg #[.int .i8 0, .string ⟨#[]⟩, .int .i64 0, .int .i64 0], .bool false]) (by simp [results, Try.results19, go_sem]) rfl ⟨⟨0, ⟨#[]⟩, 0, 0, rfl, fun r hr => by cases hr⟩, ((Below.refl _ _).alloc (Nat.le_refl _) _).alloc (by simp) _⟩
  · obtain ⟨q, rfl⟩ := Int.eq_ofNat_of_zero_le (by omega : 0 ≤ o)
    have d3 : decide ((q : Int) < 0) = false := decide_eq_false ho
    obtain ⟨h3, h4, h5⟩ := bar_some _ q Hix.out
    rw [List.length_drop, byts_len] at h3
    have hu : byts (s.extract (p + 1) (p + 1 + q)) = ((byts s).drop (p + 1)).take q := by
      rw [byts, Lib.extract_data, Nat.add_sub_cancel_left]
    have hus : (s.extract (p + 1) (p + 1 + q)).size = q := by
      rw [← byts_len, hu, List.length_take, List.length_drop, byts_len]
      omega
    have htok : tokBar ((byts s).drop (p + 1)) = if (byts (s.extract (p + 1) (p + 1 + q))).all (fun c => insideN c.toNat) then raw 2 (byts (s.extract (p + 1) (p + 1 + q))) (q + 2) else none := by
      unfold tokBar
      rw [if_pos h4]
      simp only [h5, ← hu]
      rw [byts_len, hus]
    rw [htok]
    clear htok h4 h5 hu
    have hqz : (p : Int) + 1 + q ≤ (s.size : Int) := by omega
    cases hall : (byts (s.extract (p + 1) (p + 1 + q))).all fun c => insideN c.toNat with
    | false =>
      have Hall := Lib.hid hall
      clear hall
      go_enter Try.func19, Try.ntmps19
      go_wp2_with (first | (go_at_call 15; refine (Try.strings_IndexByte _ _ _).mono ?_; rintro e w1 ⟨rfl, rfl⟩; rw [extract_end, show (124 : Int).toNat.toUInt8 = 124 from rfl, Hix.out]) | (go_at_call 31; refine (all_inside _ _ (by omega)).mono ?_; rintro e w1 ⟨rfl, rfl⟩; rw [Hall.out]))
      refine bodyPost_ret (v := .tuple #[.agg #[.int .i8 0, .string ⟨#[]⟩, .int .i64 0, .int .i64 0], .bool false]) (by simp [results, Try.results19, go_sem]) rfl ⟨⟨0, ⟨#[]⟩, 0, 0, rfl, fun r hr => by cases hr⟩, ((Below.refl _ _).alloc (Nat.le_refl _) _).alloc (by simp) _⟩
    | true =>
      have Hall := Lib.hid hall
      clear hall
      go_enter Try.func19, Try.ntmps19
      go_wp2_with (first | (go_at_call 15; refine (Try.strings_IndexByte _ _ _).mono ?_; rintro e w1 ⟨rfl, rfl⟩; rw [extract_end, show (124 : Int).toNat.toUInt8 = 124 from rfl, Hix.out]) | (go_at_call 31; refine (all_inside _ _ (by omega)).mono ?_; rintro e w1 ⟨rfl, rfl⟩; rw [Hall.out]))
      have hB := Lib.hid (((Below.refl w.heap.size w).alloc (Nat.le_refl _) (.cells #[.string s, .int .i64 p] 45)).alloc (by simp) (.cells #[.int .i8 0, .string ⟨#[]⟩, .int .i64 0, .int .i64 0] 29))
      have hbx : Blk ((w.alloc (.cells #[.string s, .int .i64 p] 45)).alloc (.cells #[.int .i8 0, .string ⟨#[]⟩, .int .i64 0, .int .i64 0] 29)) w.heap.size 45 #[.string s, .int .i64 p] := (Blk.new w _ _).alloc _
      have hbk : Blk ((w.alloc (.cells #[.string s, .int .i64 p] 45)).alloc (.cells #[.int .i8 0, .string ⟨#[]⟩, .int .i64 0, .int .i64 0] 29)) (w.heap.size + 1) 29 #[.int .i8 0, .string ⟨#[]⟩, .int .i64 0, .int .i64 0] := by
        have := Blk.new (w.alloc (.cells #[.string s, .int .i64 p] 45)) 29 #[.int .i8 0, .string ⟨#[]⟩, .int .i64 0, .int .i64 0]
        rwa [World.size_alloc] at this
      generalize (w.alloc (.cells #[.string s, .int .i64 p] 45)).alloc (.cells #[.int .i8 0, .string ⟨#[]⟩, .int .i64 0, .int .i64 0] 29) = w1 at *
      obtain ⟨x0, x1⟩ := cells2 hbx
      have hlx := hbx.lt
      have hlt := hbk.lt
      have Hbk := Lib.hid hbk
      have Hbx := Lib.hid hbx
      clear hbx hbk
      have w1a : IntKind.i64.wrap ((p : Int) + 1) = (p : Int) + 1 := by rw [IntKind.wrap_i64]; omega
      have w1b : IntKind.i64.wrap ((p : Int) + 1 + q) = (p : Int) + 1 + q := by rw [IntKind.wrap_i64]; omega
      have w1c : IntKind.i64.wrap ((q : Int) + 2) = (q : Int) + 2 := by rw [IntKind.wrap_i64]; omega
      have i1 : (0 : Int) ≤ (p : Int) + 1 := by omega
      have i2 : (p : Int) + 1 ≤ (p : Int) + 1 + q := by omega
      have i3 : (0 : Int) ≤ (p : Int) + 1 + q := by omega
      have i4 : (0 : Int) ≤ (q : Int) := by omega
      have i5 : ((p : Int) + 1 + q).toNat = p + 1 + q := by omega
      have i6 : ((p : Int) + 1).toNat = p + 1 := by omega
      generalize hd : s.extract (p + 1) (p + 1 + q) = d at *
      go_region_held3 (fun w' => w'.cell? ⟨w.heap.size, 0, none⟩ = some (.string s) ∧ w'.cell? ⟨w.heap.size, 1, none⟩ = some (.int .i64 p)) (go_keep)
        (first | (go_at_call 30; refine (token_ok s p _ _ (q + 2) _ hp (by omega) (by omega)).mono ?_; rintro e w2 ⟨rfl, hb2⟩; (try rw [hd]); have hbk2 := Hbk.out.drew.below hb2 hlt; obtain ⟨⟨c0, c1, c2, c3⟩, ⟨f0, f1, f2, f3⟩⟩ := cells4 hbk2; obtain ⟨y0, y1⟩ := cells2 (Hbx.out.drew.below hb2 hlx); have Hbl2 := Lib.hid (hB.out.trans (Below.trans (b := w1.drew) ⟨rfl, rfl, rfl, Nat.le_refl _, fun _ _ => rfl⟩ (hb2.mono hB.out.size))); have Hbk2 := Lib.hid hbk2; clear hb2 hbk2 x0 x1 Hbk))
      go_wp2
      have hput := put4 Hbk2.out (.int .i8 2) (.string d) (.int .i64 p) (.int .i64 (p + (q + 2)))
      have hbl2 := below4 Hbl2.out (Nat.le_succ _) (.int .i8 2) (.string d) (.int .i64 p) (.int .i64 (p + (q + 2)))
      clear Hbk2 Hbl2 c0 c1 c2 c3 f0 f1 f2 f3
      generalize (((w2.setCell ⟨w.heap.size + 1, 0, none⟩ (.int .i8 2)).setCell ⟨w.heap.size + 1, 1, none⟩ (.string d)).setCell ⟨w.heap.size + 1, 2, none⟩ (.int .i64 p)).setCell ⟨w.heap.size + 1, 3, none⟩ (.int .i64 (p + (q + 2))) = w3 at *
      obtain ⟨⟨c0, c1, c2, c3⟩, -⟩ := cells4 hput
      have e1 : (raw 2 (byts d) (q + 2)).isSome = decide ((q : Int) ≤ 100) := by
        rw [raw_some, byts_len, hus]
        exact decide_eq_decide.2 (by omega)
      refine bodyPost_ret (v := .tuple #[.agg #[.int .i8 2, .string d, .int .i64 p, .int .i64 (p + (q + 2))], .bool (decide ((q : Int) ≤ 100))]) ?_ rfl ⟨⟨2, d, p, p + (q + 2), by rw [e1], ?_⟩, hbl2⟩
      · simp [results, Try.results19, go_sem, c0, c1, c2, c3]
      · intro r hr
        rw [raw_eq hr]
        exact ⟨rfl, rfl, rfl, by simp⟩
end Go.Proofs.Ytpmdgjihgiieoaa

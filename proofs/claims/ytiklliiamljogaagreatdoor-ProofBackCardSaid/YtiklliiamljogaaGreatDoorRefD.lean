/- The readers of tokens: names in bars. -/
import Derived.Test.YtiklliiamljogaaGreatDoorLexG
import Derived.Deep.RegionHeld3
import Derived.Deep.RegionWith
namespace Go.Proofs.YtiklliiamljogaaGreatDoor
open Go.RowKit

theorem bar_none : ∀ (l : List UInt8), Lib.indexByte l 124 = -1 → (124 : UInt8) ∉ l := by
  intro l h hm
  obtain ⟨k, hk, he⟩ := List.getElem_of_mem hm
  exact Lib.indexByte_none h k (by rw [List.getElem?_eq_getElem hk, he])
theorem bar_some : ∀ (l : List UInt8) (o : Nat), Lib.indexByte l 124 = o → o < l.length ∧ (124 : UInt8) ∈ l ∧ l.takeWhile (fun c => c != 124) = l.take o
  | [], o, h => by simp [Lib.indexByte] at h
  | c :: r, o, h => by
    unfold Lib.indexByte at h
    by_cases hc : c = 124
    · rw [if_pos (by simp [hc])] at h
      obtain rfl : o = 0 := by omega
      subst hc
      exact ⟨by simp, by simp, by simp⟩
    · rw [if_neg (by simp [hc])] at h
      by_cases h2 : Lib.indexByte r 124 = -1
      · rw [if_pos (by simp [h2])] at h; omega
      · rw [if_neg (by simp [h2])] at h
        obtain ⟨p, rfl⟩ : ∃ p, o = p + 1 := ⟨o - 1, by have := Lib.indexByte_ge r 124; omega⟩
        obtain ⟨h3, h4, h5⟩ := bar_some r p (by omega)
        refine ⟨by simp; omega, List.mem_cons_of_mem _ h4, ?_⟩
        rw [List.takeWhile_cons, if_pos (by simp [hc]), List.take_succ_cons, h5]

set_option maxHeartbeats 1000000 in
theorem bar_ok (s : ByteArray) (p : Nat) (w : World) (hp0 : p < s.size) (hs : s.size ≤ 1000000) :
    Calls Tryz.prog 104 #[.agg #[.string s, .int .i64 p]] w fun e w' => Reads p (tokBar ((byts s).drop (p + 1))) e ∧ Below w.heap.size w w' := by
  have hp : p ≤ 1000000 := by omega
  generalize hix : Lib.indexByte ((byts s).drop (p + 1)) 124 = o
  have Hix := Lib.hid hix
  have hge := Lib.indexByte_ge ((byts s).drop (p + 1)) 124
  rw [hix] at hge
  clear hix
  have hpz : (p : Int) + 1 ≤ (s.size : Int) := by omega
  by_cases ho : o < 0
  · have d3 : decide (o < 0) = true := decide_eq_true ho
    have hn : tokBar ((byts s).drop (p + 1)) = none := by
      unfold tokBar
      rw [if_neg (bar_none _ (by rw [Hix.out]; omega))]
    rw [hn]
    clear hn
    go_enter Tryz.func104, Tryz.ntmps104
    go_wp2_with (go_at_call 76; refine (Tryz.strings_IndexByte _ _ _).mono ?_; rintro e w1 ⟨rfl, rfl⟩; rw [extract_end, show (124 : Int).toNat.toUInt8 = 124 from rfl, Hix.out])
    refine bodyPost_ret (v := .tuple #[.agg #[.int .i8 0, .string ⟨#[]⟩, .int .i64 0, .int .i64 0], .bool false]) (by simp [results, Tryz.results104, go_sem]) rfl ⟨⟨0, ⟨#[]⟩, 0, 0, rfl, fun r hr => by cases hr⟩, ((Below.refl _ _).alloc (Nat.le_refl _) _).alloc (by simp) _⟩
  · obtain ⟨q, rfl⟩ := Int.eq_ofNat_of_zero_le (by omega : 0 ≤ o)
    have d3 : decide ((q : Int) < 0) = false := decide_eq_false ho
    obtain ⟨h3, h4, h5⟩ := bar_some _ q Hix.out
    rw [List.length_drop, byts_len] at h3
    have hu : byts (s.extract (p + 1) (p + 1 + q)) = ((byts s).drop (p + 1)).take q := by
      rw [byts, Lib.extract_data, Nat.add_sub_cancel_left]
    have hus : (s.extract (p + 1) (p + 1 + q)).size = q := by
      rw [← byts_len, hu, List.length_take, List.length_drop, byts_len]
      omega
    have htok : tokBar ((byts s).drop (p + 1)) = if (byts (s.extract (p + 1) (p + 1 + q))).all (fun c => insideN c.toNat) then raw 2 (byts (s.extract (p + 1) (p + 1 + q))) (q + 2) else none := by
      unfold tokBar
      rw [if_pos h4]
      simp only [h5, ← hu]
      rw [byts_len, hus]
    rw [htok]
    clear htok h4 h5 hu
    have hqz : (p : Int) + 1 + q ≤ (s.size : Int) := by omega
    cases hall : (byts (s.extract (p + 1) (p + 1 + q))).all fun c => insideN c.toNat with
    | false =>
      have Hall := Lib.hid hall
      clear hall
      go_enter Tryz.func104, Tryz.ntmps104
      go_wp2_with (first | (go_at_call 76; refine (Tryz.strings_IndexByte _ _ _).mono ?_; rintro e w1 ⟨rfl, rfl⟩; rw [extract_end, show (124 : Int).toNat.toUInt8 = 124 from rfl, Hix.out]) | (go_at_call 119; refine (all_inside _ _ (by omega)).mono ?_; rintro e w1 ⟨rfl, rfl⟩; rw [Hall.out]))
      refine bodyPost_ret (v := .tuple #[.agg #[.int .i8 0, .string ⟨#[]⟩, .int .i64 0, .int .i64 0], .bool false]) (by simp [results, Tryz.results104, go_sem]) rfl ⟨⟨0, ⟨#[]⟩, 0, 0, rfl, fun r hr => by cases hr⟩, ((Below.refl _ _).alloc (Nat.le_refl _) _).alloc (by simp) _⟩
    | true =>
      have Hall := Lib.hid hall
      clear hall
      go_enter Tryz.func104, Tryz.ntmps104
      go_wp2_with (first | (go_at_call 76; refine (Tryz.strings_IndexByte _ _ _).mono ?_; rintro e w1 ⟨rfl, rfl⟩; rw [extract_end, show (124 : Int).toNat.toUInt8 = 124 from rfl, Hix.out]) | (go_at_call 119; refine (all_inside _ _ (by omega)).mono ?_; rintro e w1 ⟨rfl, rfl⟩; rw [Hall.out]))
      have hB := Lib.hid (((Below.refl w.heap.size w).alloc (Nat.le_refl _) (.cells #[.string s, .int .i64 p] 129)).alloc (by simp) (.cells #[.int .i8 0, .string ⟨#[]⟩, .int .i64 0, .int .i64 0] 118))
      have hbx : Blk ((w.alloc (.cells #[.string s, .int .i64 p] 129)).alloc (.cells #[.int .i8 0, .string ⟨#[]⟩, .int .i64 0, .int .i64 0] 118)) w.heap.size 129 #[.string s, .int .i64 p] := (Blk.new w _ _).alloc _
      have hbk : Blk ((w.alloc (.cells #[.string s, .int .i64 p] 129)).alloc (.cells #[.int .i8 0, .string ⟨#[]⟩, .int .i64 0, .int .i64 0] 118)) (w.heap.size + 1) 118 #[.int .i8 0, .string ⟨#[]⟩, .int .i64 0, .int .i64 0] := by
        have := Blk.new (w.alloc (.cells #[.string s, .int .i64 p] 129)) 118 #[.int .i8 0, .string ⟨#[]⟩, .int .i64 0, .int .i64 0]
        rwa [World.size_alloc] at this
      generalize (w.alloc (.cells #[.string s, .int .i64 p] 129)).alloc (.cells #[.int .i8 0, .string ⟨#[]⟩, .int .i64 0, .int .i64 0] 118) = w1 at *
      obtain ⟨x0, x1⟩ := cells2 hbx
      have hlx := hbx.lt
      have hlt := hbk.lt
      have Hbk := Lib.hid hbk
      have Hbx := Lib.hid hbx
      clear hbx hbk
      have w1a : IntKind.i64.wrap ((p : Int) + 1) = (p : Int) + 1 := by rw [IntKind.wrap_i64]; omega
      have w1b : IntKind.i64.wrap ((p : Int) + 1 + q) = (p : Int) + 1 + q := by rw [IntKind.wrap_i64]; omega
      have w1c : IntKind.i64.wrap ((q : Int) + 2) = (q : Int) + 2 := by rw [IntKind.wrap_i64]; omega
      have i1 : (0 : Int) ≤ (p : Int) + 1 := by omega
      have i2 : (p : Int) + 1 ≤ (p : Int) + 1 + q := by omega
      have i3 : (0 : Int) ≤ (p : Int) + 1 + q := by omega
      have i4 : (0 : Int) ≤ (q : Int) := by omega
      have i5 : ((p : Int) + 1 + q).toNat = p + 1 + q := by omega
      have i6 : ((p : Int) + 1).toNat = p + 1 := by omega
      generalize hd : s.extract (p + 1) (p + 1 + q) = d at *
      go_region_held3 (fun w' => w'.cell? ⟨w.heap.size, 0, none⟩ = some (.string s) ∧ w'.cell? ⟨w.heap.size, 1, none⟩ = some (.int .i64 p)) (go_keep)
        (first | (go_at_call 118; refine (token_ok s p _ _ (q + 2) _ hp (by omega) (by omega)).mono ?_; rintro e w2 ⟨rfl, hb2⟩; (try rw [hd]); have hbk2 := Hbk.out.drew.below hb2 hlt; obtain ⟨⟨c0, c1, c2, c3⟩, ⟨f0, f1, f2, f3⟩⟩ := cells4 hbk2; obtain ⟨y0, y1⟩ := cells2 (Hbx.out.drew.below hb2 hlx); have Hbl2 := Lib.hid (hB.out.trans (Below.trans (b := w1.drew) ⟨rfl, rfl, rfl, Nat.le_refl _, fun _ _ => rfl⟩ (hb2.mono hB.out.size))); have Hbk2 := Lib.hid hbk2; clear hb2 hbk2 x0 x1 Hbk))
      go_wp2
      have hput := put4 Hbk2.out (.int .i8 2) (.string d) (.int .i64 p) (.int .i64 (p + (q + 2)))
      have hbl2 := below4 Hbl2.out (Nat.le_succ _) (.int .i8 2) (.string d) (.int .i64 p) (.int .i64 (p + (q + 2)))
      clear Hbk2 Hbl2 c0 c1 c2 c3 f0 f1 f2 f3
      generalize (((w2.setCell ⟨w.heap.size + 1, 0, none⟩ (.int .i8 2)).setCell ⟨w.heap.size + 1, 1, none⟩ (.string d)).setCell ⟨w.heap.size + 1, 2, none⟩ (.int .i64 p)).setCell ⟨w.heap.size + 1, 3, none⟩ (.int .i64 (p + (q + 2))) = w3 at *
      obtain ⟨⟨c0, c1, c2, c3⟩, -⟩ := cells4 hput
      have e1 : (raw 2 (byts d) (q + 2)).isSome = decide ((q : Int) ≤ 100) := by
        rw [raw_some, byts_len, hus]
        exact decide_eq_decide.2 (by omega)
      refine bodyPost_ret (v := .tuple #[.agg #[.int .i8 2, .string d, .int .i64 p, .int .i64 (p + (q + 2))], .bool (decide ((q : Int) ≤ 100))]) ?_ rfl ⟨⟨2, d, p, p + (q + 2), by rw [e1], ?_⟩, hbl2⟩
      · simp [results, Tryz.results104, go_sem, c0, c1, c2, c3]
      · intro r hr
        rw [raw_eq hr]
        exact ⟨rfl, rfl, rfl, by simp⟩
end Go.Proofs.YtiklliiamljogaaGreatDoor

/- The readers of tokens: numbers. -/
namespace Go.Proofs.YtiklliiamljogaaGreatDoor
open Go.RowKit

theorem tokNum_some (l : List UInt8) : (tokNum l).isSome = (decide ((signs l).length ≤ 100) && (((signs l).all fun c => digitN c.toNat) && (signs l == [48] || headB (signs l) != 48))) := by
  unfold tokNum
  cases h : ((signs l).all fun c => digitN c.toNat) && (signs l == [48] || headB (signs l) != 48) with
  | true => simp only [h, if_true, raw_some, Bool.and_true]
  | false => simp [h]
theorem tokNum_eq {l : List UInt8} {r : Raw} (h : tokNum l = some r) : r = ⟨3, signs l, (signs l).length⟩ := by
  unfold tokNum at h
  cases h2 : ((signs l).all fun c => digitN c.toNat) && (signs l == [48] || headB (signs l) != 48) with
  | true =>
    simp only [h2, if_true] at h
    exact raw_eq h
  | false => simp [h2] at h
theorem all_dec {d : ByteArray} {l : List UInt8} {b : Bool} (h : byts d = l) (hb : (l.all fun c => digitN c.toNat) = b) : ((byts d).all fun c => digitN c.toNat) = b := by rw [← hb, ← h]
theorem zero_dec {d : ByteArray} {l : List UInt8} {b : Bool} (h : byts d = l) (hb : (l == [48]) = b) : (d.toList == [48]) = b := by
  rw [← hb, ← h, Lib.toList_data]
theorem head_dec {d : ByteArray} {l : List UInt8} {b : Bool} (h : byts d = l) (hl : l ≠ []) (hb : (headB l != 48) = b) : ∃ h0 : 0 < d.size, (0 : Int) < d.size ∧ (((d[0]'h0).toNat : Int) != 48) = b := by
  have h0 : 0 < d.size := by
    rw [← byts_len, h]
    exact List.length_pos_iff.2 hl
  refine ⟨h0, by omega, ?_⟩
  have h3 := byts_drop h0
  rw [List.drop_zero] at h3
  rw [← hb, ← h, h3]
  show (((d[0]'h0).toNat : Int) != 48) = ((d[0]'h0).toNat != 48)
  cases h4 : (d[0]'h0).toNat != 48 with
  | true => exact bne_iff_ne.2 (by have := bne_iff_ne.1 h4; omega)
  | false => rw [bne_eq_false_iff_eq] at h4 ⊢; omega
theorem Below.of_drew (B : Nat) (w : World) : Below B w w.drew := ⟨rfl, rfl, rfl, Nat.le_refl _, fun _ _ => rfl⟩

attribute [local go_sem] undef in
set_option maxHeartbeats 1000000 in
theorem number_ok (s : ByteArray) (p : Nat) (w : World) (hp0 : p < s.size) (hs : s.size ≤ 1000000) (hne : signs ((byts s).drop p) ≠ []) :
    Calls Tryz.prog 106 #[.agg #[.string s, .int .i64 p]] w fun e w' => Reads p (tokNum ((byts s).drop p)) e ∧ Below w.heap.size w w' := by
  have hp : p ≤ 1000000 := by omega
  have hsome := tokNum_some ((byts s).drop p)
  generalize hbo : decide ((signs ((byts s).drop p)).length ≤ 100) = bo at hsome
  generalize hba : ((signs ((byts s).drop p)).all fun c => digitN c.toNat) = ba at hsome
  generalize hbz : (signs ((byts s).drop p) == [48]) = bz at hsome
  generalize hbh : (headB (signs ((byts s).drop p)) != 48) = bh at hsome
  have Hbo := Lib.hid hbo
  have Hba := Lib.hid hba
  have Hbz := Lib.hid hbz
  have Hbh := Lib.hid hbh
  have Hne := Lib.hid hne
  have Hsome := Lib.hid hsome
  clear hbo hba hbz hbh hsome hne
  have hcase : bo = false ∨ (bo = true ∧ ba = false) ∨ (bo = true ∧ ba = true ∧ bz = true) ∨ (bo = true ∧ ba = true ∧ bz = false) := by cases bo <;> cases ba <;> cases bz <;> simp
  rcases hcase with rfl | ⟨rfl, rfl⟩ | ⟨rfl, rfl, rfl⟩ | ⟨rfl, rfl, rfl⟩
  all_goals (
    go_enter Tryz.func106, Tryz.ntmps106
    go_wp2_with (first | (go_at_call 121; refine (run_ok s p (p) _ hs (by omega)).mono ?_; rintro e w1 ⟨⟨d, rfl, hd⟩, hb1⟩; have hd5 := signs_size hd hs; have Hd := Lib.hid hd; have hq := size_dec hd Hbo.out; have hal := all_dec hd Hba.out; have Hal := Lib.hid hal; clear hal; have hze := zero_dec hd Hbz.out; obtain ⟨hz0, hz1, hhd⟩ := head_dec hd Hne.out Hbh.out; have hbk := blk_box _ _ _ _ hb1 rfl; have hbx := blk_box0 _ _ _ _ hb1 rfl; have hlt := hbk.lt; obtain ⟨x0, x1⟩ := cells2 hbx; have Hbl := Lib.hid (below_box _ _ hb1); have Hbk := Lib.hid hbk; clear hb1 hbk hbx hd) | (go_at_call 118; refine (token_ok s p _ d (d.size) _ hp (by omega) hd5).mono ?_; rintro e w2 ⟨rfl, hb2⟩; rw [hq]; have hA := Hbk.out.below hb2 hlt; have hA := hA.alloc (.cells #[.int .i8 3, .string d, .int .i64 p, .int .i64 (p + d.size)] 118); obtain ⟨⟨a0, a1, a2, a3⟩, ⟨g0, g1, g2, g3⟩⟩ := cells4 hA; have HA := Lib.hid hA; clear hA; have hbk2 := Hbk.out.below hb2 hlt; obtain ⟨⟨c0, c1, c2, c3⟩, ⟨f0, f1, f2, f3⟩⟩ := cells4 hbk2; have Hbl2 := Lib.hid (Hbl.out.trans (hb2.mono Hbl.out.size)); have Hbk2 := Lib.hid hbk2; clear hb2 hbk2 x0 x1 Hbk Hbl) | (go_at_call 119; refine (all_digit d _ (by omega)).mono ?_; rintro e w3 ⟨rfl, rfl⟩; rw [Hal.out]))
    have hlt2 := hA.lt
    clear hA
    have ht : Blk (w2.alloc (.cells #[.int .i8 3, .string d, .int .i64 p, .int .i64 (p + d.size)] 118)) w2.heap.size 118 #[.int .i8 3, .string d, .int .i64 p, .int .i64 (p + d.size)] := Blk.new _ _ _
    have Hb3 := Lib.hid (Hbl2.out.alloc Hbl2.out.size (.cells #[.int .i8 3, .string d, .int .i64 p, .int .i64 (p + d.size)] 118))
    clear Hbk2 Hbl2 c0 c1 c2 c3 f0 f1 f2 f3
    generalize w2.alloc (.cells #[.int .i8 3, .string d, .int .i64 p, .int .i64 (p + d.size)] 118) = W at *
    obtain ⟨⟨t0, t1, t2, t3⟩, -⟩ := cells4 ht
    clear ht
    generalize w2.heap.size = gt at *
    have hne1 : gt ≠ w.heap.size + 1 := by omega
    have hne2 : w.heap.size + 1 ≠ gt := by omega
    have hkeep : (W.cell? ⟨gt, 0, none⟩ = some (.int .i8 3) ∧ W.cell? ⟨gt, 1, none⟩ = some (.string d) ∧ W.cell? ⟨gt, 2, none⟩ = some (.int .i64 p) ∧ W.cell? ⟨gt, 3, none⟩ = some (.int .i64 (p + d.size))) := ⟨t0, t1, t2, t3⟩
    clear hkeep
    first
      | (go_region_held (fun w' => w'.cell? ⟨gt, 0, none⟩ = some (.int .i8 3) ∧ w'.cell? ⟨gt, 1, none⟩ = some (.string d) ∧ w'.cell? ⟨gt, 2, none⟩ = some (.int .i64 p) ∧ w'.cell? ⟨gt, 3, none⟩ = some (.int .i64 (p + d.size))) (go_keep)
          (first | (go_at_call 119; refine (all_digit d _ (by omega)).mono ?_; rintro e w3 ⟨rfl, rfl⟩; rw [Hal.out])))
      | fail
    all_goals go_wp2
    all_goals (
      have hput := (put4 HA.out (.int .i8 3) (.string d) (.int .i64 p) (.int .i64 (p + d.size))).drew
      have hbl2 := (below4 Hb3.out (Nat.le_succ w.heap.size) (.int .i8 3) (.string d) (.int .i64 p) (.int .i64 (p + d.size))).trans (Below.of_drew _ _)
      obtain ⟨⟨c0, c1, c2, c3⟩, -⟩ := cells4 hput
      refine bodyPost_ret (v := .tuple #[.agg #[.int .i8 3, .string d, .int .i64 p, .int .i64 (p + d.size)], .bool _]) (by simp [results, Tryz.results106, go_sem, c0, c1, c2, c3]; rfl) rfl ⟨⟨3, d, p, p + d.size, by rw [Hsome.out]; rfl, ?_⟩, hbl2⟩
      intro r hr
      rw [tokNum_eq hr]
      exact ⟨rfl, Hd.out, rfl, by rw [← Hd.out, byts_len]⟩))
end Go.Proofs.YtiklliiamljogaaGreatDoor

/- The reference's numeral, quoted. -/
namespace Go.Proofs.YtiklliiamljogaaGreatDoor
open Go.RowKit

theorem rnumeral_ok (s : ByteArray) (w : World) (hs : s.size ≤ 1000000) (h0 : 0 < s.size) :
    Calls Tryz.prog 113 #[.string s] w fun e w' => e = .returned (.bool (((byts s).all fun c => digitN c.toNat) && (byts s == [48] || headB (byts s) != 48))) ∧ w = w' := by
  go_enter Tryz.func113, Tryz.ntmps113
  go_wp2
  go_loopg [3] s.size (fun g v wx => w = wx ∧ ∃ i : Nat, i + g = s.size ∧ v = .int .i64 i ∧ ((byts s).drop i).all (fun c => digitN c.toNat) = (byts s).all fun c => digitN c.toNat)
  case atStart => exact ⟨rfl, 0, by omega, rfl, rfl⟩
  case round =>
    obtain ⟨rfl, i, hig, rfl, hinv⟩ := hrel
    have HI := Lib.hid hinv
    clear hinv
    cases gk with
    | zero =>
      have d1 : decide ((i : Int) < s.size) = false := by simp; omega
      have HF := Lib.hid (show (byts s).all (fun c => digitN c.toNat) = true by rw [← HI.out, byts_end (by omega)]; rfl)
      have hne : byts s ≠ [] := fun e => by
        have := byts_len s
        rw [e] at this
        simp at this
        omega
      have hse : s.toList ≠ [] := fun e => by rw [Lib.toList_data] at e; exact hne e
      have b5 : (s.toList == []) = false := beq_eq_false_iff_ne.2 hse
      have b6 : (s.toList != []) = true := bne_iff_ne.2 hse
      have b7 : decide (s.toList = []) = false := decide_eq_false hse
      cases hz : (byts s == [48]) with
      | true =>
        have hz2 := zero_dec (d := s) rfl hz
        have HZ := Lib.hid hz
        clear hz hne hse
        go_wp2
        go_ret
        rw [HF.out, HZ.out]
        exact ⟨rfl, rfl⟩
      | false =>
        have hz2 := zero_dec (d := s) rfl hz
        have HZ := Lib.hid hz
        cases hh : (headB (byts s) != 48) with
        | true =>
          obtain ⟨h1, h2, h3⟩ := head_dec (d := s) rfl hne hh
          have HH := Lib.hid hh
          clear hz hh hne
          go_wp2
          go_ret
          rw [HF.out, HZ.out, HH.out]
          exact ⟨rfl, rfl⟩
        | false =>
          obtain ⟨h1, h2, h3⟩ := head_dec (d := s) rfl hne hh
          have HH := Lib.hid hh
          clear hz hh hne
          go_wp2
          go_ret
          rw [HF.out, HZ.out, HH.out]
          exact ⟨rfl, rfl⟩
    | succ g =>
      have hiz : (i : Int) < (s.size : Int) := by omega
      have hin : i < s.size := by omega
      have d1 : decide ((i : Int) < s.size) = true := decide_eq_true hiz
      obtain ⟨x, hx⟩ : ∃ x : UInt8, s[i]'(by omega) = x := ⟨_, rfl⟩
      have HX := Lib.hid hx
      cases hp : digitN x.toNat with
      | true =>
        have Hp := Lib.hid hp
        clear hp
        go_wp2_with (go_at_call 112; refine (rdigit_ok x.toNat).mono ?_; rintro e w1 ⟨rfl, rfl⟩; rw [Hp.out])
        go_roundg g
        case measure => omega
        case rel => exact ⟨rfl, i + 1, by omega, by go_num, by rw [← HI.out, byts_drop hin, HX.out, List.all_cons, Hp.out, Bool.true_and]⟩
      | false =>
        have Hp := Lib.hid hp
        clear hp
        go_wp2_with (go_at_call 112; refine (rdigit_ok x.toNat).mono ?_; rintro e w1 ⟨rfl, rfl⟩; rw [Hp.out])
        go_ret
        rw [← HI.out, byts_drop hin, HX.out, List.all_cons, Hp.out, Bool.false_and, Bool.false_and]
        exact ⟨rfl, rfl⟩

/-- Where the bar is that ends a name, all inside ahead of it. -/
def qat : List UInt8 → Option Nat
  | [] => none
  | c :: r => if c.toNat = 124 then some 0 else if insideN c.toNat then (qat r).map (· + 1) else none
theorem tokBar_qat : ∀ (r : List UInt8), tokBar r = match qat r with | some q => raw 2 (r.take q) (q + 2) | none => none := by
  intro r
  have h : ∀ r : List UInt8, (∀ q, qat r = some q → (124 : UInt8) ∈ r ∧ r.takeWhile (fun c => c != 124) = r.take q ∧ (r.take q).all (fun c => insideN c.toNat) = true ∧ (r.take q).length = q) ∧ (qat r = none → (124 : UInt8) ∈ r → (r.takeWhile (fun c => c != 124)).all (fun c => insideN c.toNat) = false) := by
    intro r
    induction r with
    | nil => exact ⟨fun q h => by simp [qat] at h, fun _ h => by cases h⟩
    | cons c r ih =>
      by_cases hc : c.toNat = 124
      · have e : c = 124 := UInt8.toNat_inj.1 hc
        subst e
        exact ⟨fun q h => by simp [qat] at h; subst h; simp, fun h => by simp [qat] at h⟩
      · have hne : c ≠ 124 := fun e => hc (by rw [e]; rfl)
        cases hi : insideN c.toNat with
        | false =>
          refine ⟨fun q h => by simp [qat, hc, hi] at h, fun _ _ => ?_⟩
          rw [List.takeWhile_cons, if_pos (by simp [hne]), List.all_cons, hi, Bool.false_and]
        | true =>
          refine ⟨fun q h => ?_, fun h hm => ?_⟩
          · simp only [qat, hc, if_false, hi, if_true, Option.map_eq_some_iff] at h
            obtain ⟨q', h1, rfl⟩ := h
            obtain ⟨a1, a2, a3, a4⟩ := ih.1 q' h1
            refine ⟨List.mem_cons_of_mem _ a1, ?_, ?_, ?_⟩
            · rw [List.takeWhile_cons, if_pos (by simp [hne]), List.take_succ_cons, a2]
            · rw [List.take_succ_cons, List.all_cons, hi, a3]; rfl
            · rw [List.take_succ_cons, List.length_cons, a4]
          · simp only [qat, hc, if_false, hi, if_true, Option.map_eq_none_iff] at h
            have hm2 : (124 : UInt8) ∈ r := by
              rcases List.mem_cons.1 hm with e | e
              · exact absurd e.symm hne
              · exact e
            rw [List.takeWhile_cons, if_pos (by simp [hne]), List.all_cons, hi, ih.2 h hm2]
            rfl
  unfold tokBar
  cases hq : qat r with
  | some q =>
    obtain ⟨h1, h2, h3, h4⟩ := (h r).1 q hq
    rw [if_pos h1, h2]
    simp only [h3, if_true, h4]
  | none =>
    by_cases hm : (124 : UInt8) ∈ r
    · rw [if_pos hm]
      simp only [(h r).2 hq hm]
      rfl
    · rw [if_neg hm]
end Go.Proofs.YtiklliiamljogaaGreatDoor

/- The reference's quoted. -/
namespace Go.Proofs.YtiklliiamljogaaGreatDoor
open Go.RowKit

def QuotedIs (s : ByteArray) (p : Nat) (e : Ending) : Prop := match qat ((byts s).drop (p + 1)) with
  | some q => p + 1 + q < s.size ∧ e = .returned (.tuple #[.string (s.extract (p + 1) (p + 1 + q)), .int .i64 (p + 1 + q + 1 : Nat), .bool (decide (q ≤ 100))])
  | none => e = .returned (.tuple #[.string ⟨#[]⟩, .int .i64 0, .bool false])
theorem rquoted_ok (s : ByteArray) (p : Nat) (w : World) (hs : s.size ≤ 1000000) (hp : p < s.size) :
    Calls Tryz.prog 111 #[.string s, .int .i64 p] w fun e w' => QuotedIs s p e ∧ w = w' := by
  go_enter Tryz.func111, Tryz.ntmps111
  go_wp2
  go_loopg [7] (s.size - (p + 1)) (fun g v wx => w = wx ∧ ∃ i : Nat, p + 1 + i + g = s.size ∧ v = .int .i64 (p + 1 + i : Nat) ∧ qat ((byts s).drop (p + 1)) = (qat ((byts s).drop (p + 1 + i))).map (· + i))
  case atStart => exact ⟨rfl, 0, by omega, by go_num, by rw [Nat.add_zero]; simp⟩
  case round =>
    obtain ⟨rfl, i, hig, rfl, hinv⟩ := hrel
    have HI := Lib.hid hinv
    clear hinv
    obtain ⟨j, hj⟩ : ∃ j, p + 1 + i = j := ⟨_, rfl⟩
    have HJ := Lib.hid hj
    rw [hj] at hig ⊢
    clear hj
    cases gk with
    | zero =>
      have d1 : decide ((j : Int) < s.size) = false := by simp; omega
      have HF := Lib.hid (show qat ((byts s).drop (p + 1)) = none by rw [HI.out, HJ.out, byts_end (by omega)]; rfl)
      go_wp2
      refine bodyPost_ret (v := .tuple #[.string ⟨#[]⟩, .int .i64 0, .bool false]) (by simp [results, Tryz.results111, go_sem]) rfl ⟨?_, rfl⟩
      unfold QuotedIs
      rw [HF.out]
    | succ g =>
      have hiz : (j : Int) < (s.size : Int) := by omega
      have hin : j < s.size := by omega
      have d1 : decide ((j : Int) < s.size) = true := decide_eq_true hiz
      obtain ⟨x, hx⟩ : ∃ x : UInt8, s[j]'(by omega) = x := ⟨_, rfl⟩
      have hx8 := x.toNat_lt
      have HX := Lib.hid hx
      have HD := Lib.hid (byts_drop hin)
      by_cases h1 : x.toNat = 124
      · have b1 : ((x.toNat : Int) == 124) = true := by rw [h1]; rfl
        have HF := Lib.hid (show qat ((byts s).drop (p + 1)) = some i by rw [HI.out, HJ.out, HD.out, HX.out, qat, if_pos h1]; simp)
        have hji : j = p + 1 + i := HJ.out.symm
        have t1 : (p : Int) + 1 ≤ (j : Int) := by omega
        have t2 : (j : Int) ≤ (s.size : Int) := by omega
        have t3 : (0 : Int) ≤ (p : Int) + 1 := by omega
        have HJ2 := Lib.hid hji
        clear h1 hji
        go_wp2
        refine bodyPost_ret (v := .tuple #[.string (s.extract (p + 1) j), .int .i64 ((j : Int) + 1), .bool (decide ((j : Int) - p - 1 ≤ 100))]) (by simp [results, Tryz.results111, go_sem]) rfl ⟨?_, rfl⟩
        unfold QuotedIs
        rw [HF.out]
        have e := HJ2.out
        refine ⟨by omega, ?_⟩
        rw [← e, show decide ((j : Int) - p - 1 ≤ 100) = decide (i ≤ 100) from decide_eq_decide.2 (by omega)]
        rfl
      · have b1 : ((x.toNat : Int) == 124) = false := beq_eq_false_iff_ne.2 (by omega)
        cases hw : insideN x.toNat with
        | true =>
          have HF := Lib.hid (show qat ((byts s).drop j) = (qat ((byts s).drop (j + 1))).map (· + 1) by rw [HD.out, HX.out, qat, if_neg h1, if_pos hw])
          have Hw := Lib.hid hw
          clear h1 hw
          go_wp2_with (go_at_call 125; refine (rwithin_ok x.toNat hx8).mono ?_; rintro e w1 ⟨rfl, rfl⟩; rw [Hw.out])
          go_roundg g
          case measure => omega
          case rel => exact ⟨rfl, i + 1, by have := HJ.out; omega, by have := HJ.out; rw [show p + 1 + (i + 1) = j + 1 by omega]; go_num, by rw [HI.out, HJ.out, HF.out, show p + 1 + (i + 1) = j + 1 by have := HJ.out; omega, Option.map_map]; congr 1; funext y; show y + 1 + i = y + (i + 1); omega⟩
        | false =>
          have HF := Lib.hid (show qat ((byts s).drop (p + 1)) = none by rw [HI.out, HJ.out, HD.out, HX.out, qat, if_neg h1, if_neg (by rw [hw]; decide)]; rfl)
          have Hw := Lib.hid hw
          clear h1 hw
          go_wp2_with (go_at_call 125; refine (rwithin_ok x.toNat hx8).mono ?_; rintro e w1 ⟨rfl, rfl⟩; rw [Hw.out])
          refine bodyPost_ret (v := .tuple #[.string ⟨#[]⟩, .int .i64 0, .bool false]) (by simp [results, Tryz.results111, go_sem]) rfl ⟨?_, rfl⟩
          unfold QuotedIs
          rw [HF.out]
end Go.Proofs.YtiklliiamljogaaGreatDoor

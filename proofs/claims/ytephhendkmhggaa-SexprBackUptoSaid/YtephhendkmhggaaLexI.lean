/- The readers of tokens: numbers. -/
import Derived.Test.YtephhendkmhggaaLexH
import Derived.Deep.RegionWith
namespace Go.Proofs.Ytephhendkmhggaa
open Go.RowKit

theorem tokNum_some (l : List UInt8) : (tokNum l).isSome = (decide ((signs l).length ≤ 100) && (((signs l).all fun c => digitN c.toNat) && (signs l == [48] || headB (signs l) != 48))) := by
  unfold tokNum
  cases h : ((signs l).all fun c => digitN c.toNat) && (signs l == [48] || headB (signs l) != 48) with
  | true => simp only [h, if_true, raw_some, Bool.and_true]
  | false => simp [h]
theorem tokNum_eq {l : List UInt8} {r : Raw} (h : tokNum l = some r) : r = ⟨3, signs l, (signs l).length⟩ := by
  unfold tokNum at h
  cases h2 : ((signs l).all fun c => digitN c.toNat) && (signs l == [48] || headB (signs l) != 48) with
  | true =>
    simp only [h2, if_true] at h
    exact raw_eq h
  | false => simp [h2] at h
theorem all_dec {d : ByteArray} {l : List UInt8} {b : Bool} (h : byts d = l) (hb : (l.all fun c => digitN c.toNat) = b) : ((byts d).all fun c => digitN c.toNat) = b := by rw [← hb, ← h]
theorem zero_dec {d : ByteArray} {l : List UInt8} {b : Bool} (h : byts d = l) (hb : (l == [48]) = b) : (d.toList == [48]) = b := by
  rw [← hb, ← h, Lib.toList_data]
theorem head_dec {d : ByteArray} {l : List UInt8} {b : Bool} (h : byts d = l) (hl : l ≠ []) (hb : (headB l != 48) = b) : ∃ h0 : 0 < d.size, (0 : Int) < d.size ∧ (((d[0]'h0).toNat : Int) != 48) = b := by
  have h0 : 0 < d.size := by
    rw [← byts_len, h]
    exact List.length_pos_iff.2 hl
  refine ⟨h0, by omega, ?_⟩
  have h3 := byts_drop h0
  rw [List.drop_zero] at h3
  rw [← hb, ← h, h3]
  show (((d[0]'h0).toNat : Int) != 48) = ((d[0]'h0).toNat != 48)
  cases h4 : (d[0]'h0).toNat != 48 with
  | true => exact bne_iff_ne.2 (by have := bne_iff_ne.1 h4; omega)
  | false => rw [bne_eq_false_iff_eq] at h4 ⊢; omega
theorem Below.of_drew (B : Nat) (w : World) : Below B w w.drew := ⟨rfl, rfl, rfl, Nat.le_refl _, fun _ _ => rfl⟩

attribute [local go_sem] undef in
set_option maxHeartbeats 1000000 in
theorem number_ok (s : ByteArray) (p : Nat) (w : World) (hp0 : p < s.size) (hs : s.size ≤ 1000000) (hne : signs ((byts s).drop p) ≠ []) :
    Calls Try.prog 59 #[.agg #[.string s, .int .i64 p]] w fun e w' => Reads p (tokNum ((byts s).drop p)) e ∧ Below w.heap.size w w' := by
  have hp : p ≤ 1000000 := by omega
  have hsome := tokNum_some ((byts s).drop p)
  generalize hbo : decide ((signs ((byts s).drop p)).length ≤ 100) = bo at hsome
  generalize hba : ((signs ((byts s).drop p)).all fun c => digitN c.toNat) = ba at hsome
  generalize hbz : (signs ((byts s).drop p) == [48]) = bz at hsome
  generalize hbh : (headB (signs ((byts s).drop p)) != 48) = bh at hsome
  have Hbo := Lib.hid hbo
  have Hba := Lib.hid hba
  have Hbz := Lib.hid hbz
  have Hbh := Lib.hid hbh
  have Hne := Lib.hid hne
  have Hsome := Lib.hid hsome
  clear hbo hba hbz hbh hsome hne
  have hcase : bo = false ∨ (bo = true ∧ ba = false) ∨ (bo = true ∧ ba = true ∧ bz = true) ∨ (bo = true ∧ ba = true ∧ bz = false) := by cases bo <;> cases ba <;> cases bz <;> simp
  rcases hcase with rfl | ⟨rfl, rfl⟩ | ⟨rfl, rfl, rfl⟩ | ⟨rfl, rfl, rfl⟩
  all_goals (
    go_enter Try.func59, Try.ntmps59
    go_wp2_with (first | (go_at_call 85; refine (run_ok s p (p) _ hs (by omega)).mono ?_; rintro e w1 ⟨⟨d, rfl, hd⟩, hb1⟩; have hd5 := signs_size hd hs; have Hd := Lib.hid hd; have hq := size_dec hd Hbo.out; have hal := all_dec hd Hba.out; have Hal := Lib.hid hal; clear hal; have hze := zero_dec hd Hbz.out; obtain ⟨hz0, hz1, hhd⟩ := head_dec hd Hne.out Hbh.out; have hbk := blk_box _ _ _ _ hb1 rfl; have hbx := blk_box0 _ _ _ _ hb1 rfl; have hlt := hbk.lt; obtain ⟨x0, x1⟩ := cells2 hbx; have Hbl := Lib.hid (below_box _ _ hb1); have Hbk := Lib.hid hbk; clear hb1 hbk hbx hd) | (go_at_call 82; refine (token_ok s p _ d (d.size) _ hp (by omega) hd5).mono ?_; rintro e w2 ⟨rfl, hb2⟩; rw [hq]; have hA := Hbk.out.below hb2 hlt; have hA := hA.alloc (.cells #[.int .i8 3, .string d, .int .i64 p, .int .i64 (p + d.size)] 62); obtain ⟨⟨a0, a1, a2, a3⟩, ⟨g0, g1, g2, g3⟩⟩ := cells4 hA; have HA := Lib.hid hA; clear hA; have hbk2 := Hbk.out.below hb2 hlt; obtain ⟨⟨c0, c1, c2, c3⟩, ⟨f0, f1, f2, f3⟩⟩ := cells4 hbk2; have Hbl2 := Lib.hid (Hbl.out.trans (hb2.mono Hbl.out.size)); have Hbk2 := Lib.hid hbk2; clear hb2 hbk2 x0 x1 Hbk Hbl) | (go_at_call 83; refine (all_digit d _ (by omega)).mono ?_; rintro e w3 ⟨rfl, rfl⟩; rw [Hal.out]))
    have hlt2 := hA.lt
    clear hA
    have ht : Blk (w2.alloc (.cells #[.int .i8 3, .string d, .int .i64 p, .int .i64 (p + d.size)] 62)) w2.heap.size 62 #[.int .i8 3, .string d, .int .i64 p, .int .i64 (p + d.size)] := Blk.new _ _ _
    have Hb3 := Lib.hid (Hbl2.out.alloc Hbl2.out.size (.cells #[.int .i8 3, .string d, .int .i64 p, .int .i64 (p + d.size)] 62))
    clear Hbk2 Hbl2 c0 c1 c2 c3 f0 f1 f2 f3
    generalize w2.alloc (.cells #[.int .i8 3, .string d, .int .i64 p, .int .i64 (p + d.size)] 62) = W at *
    obtain ⟨⟨t0, t1, t2, t3⟩, -⟩ := cells4 ht
    clear ht
    generalize w2.heap.size = gt at *
    have hne1 : gt ≠ w.heap.size + 1 := by omega
    have hne2 : w.heap.size + 1 ≠ gt := by omega
    have hkeep : (W.cell? ⟨gt, 0, none⟩ = some (.int .i8 3) ∧ W.cell? ⟨gt, 1, none⟩ = some (.string d) ∧ W.cell? ⟨gt, 2, none⟩ = some (.int .i64 p) ∧ W.cell? ⟨gt, 3, none⟩ = some (.int .i64 (p + d.size))) := ⟨t0, t1, t2, t3⟩
    clear hkeep
    first
      | (go_region_held (fun w' => w'.cell? ⟨gt, 0, none⟩ = some (.int .i8 3) ∧ w'.cell? ⟨gt, 1, none⟩ = some (.string d) ∧ w'.cell? ⟨gt, 2, none⟩ = some (.int .i64 p) ∧ w'.cell? ⟨gt, 3, none⟩ = some (.int .i64 (p + d.size))) (go_keep)
          (first | (go_at_call 83; refine (all_digit d _ (by omega)).mono ?_; rintro e w3 ⟨rfl, rfl⟩; rw [Hal.out])))
      | fail
    all_goals go_wp2
    all_goals (
      have hput := (put4 HA.out (.int .i8 3) (.string d) (.int .i64 p) (.int .i64 (p + d.size))).drew
      have hbl2 := (below4 Hb3.out (Nat.le_succ w.heap.size) (.int .i8 3) (.string d) (.int .i64 p) (.int .i64 (p + d.size))).trans (Below.of_drew _ _)
      obtain ⟨⟨c0, c1, c2, c3⟩, -⟩ := cells4 hput
      refine bodyPost_ret (v := .tuple #[.agg #[.int .i8 3, .string d, .int .i64 p, .int .i64 (p + d.size)], .bool _]) (by simp [results, Try.results59, go_sem, c0, c1, c2, c3]; rfl) rfl ⟨⟨3, d, p, p + d.size, by rw [Hsome.out]; rfl, ?_⟩, hbl2⟩
      intro r hr
      rw [tokNum_eq hr]
      exact ⟨rfl, Hd.out, rfl, by rw [← Hd.out, byts_len]⟩))
end Go.Proofs.Ytephhendkmhggaa

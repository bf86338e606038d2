/- ProofWrites: the walk. -/
import Derived.Test.YtiklliiamljogaaGreatDoorPgI
namespace Go.Proofs.YtiklliiamljogaaGreatDoor
open Go.RowKit Go.Lib

theorem text_no {L : List Stp} {w w' : World} {e : Ending} (hm : L.all Stp.may = false) (h : TextOut L w w' e) : e = .returned (.tuple #[.string ⟨#[]⟩, .int .i64 2]) ∧ Below w.heap.size w w' := by
  obtain ⟨h1, h2⟩ := h
  rw [if_neg (by rw [hm]; decide)] at h1
  exact ⟨h1, h2⟩
theorem zero_lie28 (S : Nat → Prop) (w : World) : Lies S w (.agg #[.int .i8 0, .string ⟨#[]⟩, .slice none 0 0]) (.mk 0 [] []) := by
  have := sym_of S w []
  exact this

set_option maxHeartbeats 1000000 in
set_option maxRecDepth 100000 in
theorem proofWrites_walk (L : List Stp) (w : World) (ht : Tab w) (A : Option Addr) (c : Nat) (h : GS w A L) :
    Calls Tryz.prog 3 #[.slice A L.length c] w fun e w' => e = .returned (.bool true) ∧ Below w.heap.size w w' := by
  have HG := Lib.hid (great28g_ok L w A c h)
  have HW := Lib.hid (wakes_ok w ht)
  cases hg : greatM L with
  | true =>
    rw [hg] at HG
    clear h ht hg
    go_enter Tryz.func3, Tryz.ntmps3
    go_wp2_with (first
      | (go_at_call 8; (with_reducible refine HG.out.mono ?_); rintro e w1 ⟨rfl, rfl⟩)
      | (go_at_call 9; (with_reducible refine HW.out.mono ?_); rintro e w2 ⟨rfl, hb2⟩))
    go_ret
    exact ⟨rfl, hb2⟩
  | false =>
    rw [hg] at HG
    have hN := not_great hg
    have hk := h.kinds
    have h := h.steps hN
    have hf := hN.fine hk
    have hr : L.all Stp.may = true → (proofX L).raw.length ≤ 40000000 := fun h => Nat.le_trans (hN.raw h) (by decide)
    have HT := Lib.hid (fun w1 (h1 : Below w.heap.size w w1) => ht.keep h1)
    have HWK := Lib.hid (fun w1 (h1 : Below w.heap.size w w1) => wakes_ok w1 (ht.keep h1))
    have HS := Lib.hid (fun w1 (h1 : Below w.heap.size w w1) => h.keep h1)
    cases hm : L.all Stp.may with
    | true =>
      have HA := Lib.hid (fun w1 (h1 : Below w.heap.size w w1) => (sexp_ok L hf w1 (HT.out w1 h1) A c (HS.out w1 h1)).mono fun e w' h => h.get hm)
      have HB := Lib.hid (fun w1 (h1 : Below w.heap.size w w1) => (rsexp_ok L hf w1 A c (HS.out w1 h1)).mono fun e w' h => h.get hm)
      have HC := Lib.hid (fun w1 (h1 : Below w.heap.size w w1) => (ptext_ok L hf hr w1 (HT.out w1 h1) A c (HS.out w1 h1)).mono fun e w' h => text_yes hm h)
      have HD := Lib.hid (fun w1 (h1 : Below w.heap.size w w1) => (rptext_ok L hf hr w1 A c (HS.out w1 h1)).mono fun e w' h => text_yes hm h)
      obtain ⟨X, hX⟩ : ∃ X, proofX L = X := ⟨_, rfl⟩
      rw [hX] at HA HB HC HD
      obtain ⟨tx, htx⟩ : ∃ tx : ByteArray, (⟨X.raw.toArray⟩ : ByteArray) = tx := ⟨_, rfl⟩
      rw [htx] at HC HD
      have HSA := Lib.hid (fun (w1 : World) v v' (h1 : Lies (fun _ => True) w1 v X) (h2 : Lies (fun _ => True) w1 v' X) => rsame_at X X v v' w1 h1 h2)
      rw [same_refl] at HSA
      clear h ht hk hg hN hf hr hm hX htx HW
      go_enter Tryz.func3, Tryz.ntmps3
      go_wp2_with (first
        | (go_at_call 8; (with_reducible refine HG.out.mono ?_); rintro e w1 ⟨rfl, rfl⟩)
        | (go_at_call 10; (with_reducible refine (HA.out _ (Below.refl _ _)).mono ?_); rintro e w2 ⟨⟨y, hl, rfl⟩, hb2⟩; have hbk := Blk.new w2 28 #[.int .i8 y.k, .string y.t, .slice y.A y.n y.c]; have HL2 := Lib.hid ((hl.mono (S' := fun _ => True) (fun _ _ _ => True.intro)).keep ((Below.refl _ w2).alloc (Nat.le_refl _) (.cells #[.int .i8 y.k, .string y.t, .slice y.A y.n y.c] 28))); have HB2 := Lib.hid (hb2.alloc hb2.size (.cells #[.int .i8 y.k, .string y.t, .slice y.A y.n y.c] 28)); have HBK := Lib.hid hbk; clear hl hbk hb2)
        | (go_at_call 11; (with_reducible refine (HB.out _ HB2.out).mono ?_); rintro e w3 ⟨⟨z, hl, rfl⟩, hb3⟩; have hbz := Blk.new w3 28 #[.int .i8 z.k, .string z.t, .slice z.A z.n z.c]; have hb3a := hb3.alloc hb3.size (.cells #[.int .i8 z.k, .string z.t, .slice z.A z.n z.c] 28); have HL3 := Lib.hid ((hl.mono (S' := fun _ => True) (fun _ _ _ => True.intro)).keep ((Below.refl _ w3).alloc (Nat.le_refl _) (.cells #[.int .i8 z.k, .string z.t, .slice z.A z.n z.c] 28))); have HL23 := Lib.hid (HL2.out.keep hb3a); have HBK3 := Lib.hid (HBK.out.below hb3a HBK.out.lt); have HB3 := Lib.hid (below_then HB2.out (Nat.le_refl _) hb3a); have HBZ := Lib.hid hbz; clear hl hbz hb3 hb3a)
        | (go_at_call 12; (with_reducible refine (HC.out _ HB3.out).mono ?_); rintro e w4 ⟨rfl, hb4⟩; have HB4 := Lib.hid (below_then HB3.out (Nat.le_refl _) hb4); have HL34 := Lib.hid (HL3.out.keep hb4); have HL24 := Lib.hid (HL23.out.keep hb4); have HBK4 := Lib.hid (HBK3.out.below hb4 HBK3.out.lt); have HBZ4 := Lib.hid (HBZ.out.below hb4 HBZ.out.lt); clear hb4)
        | (go_at_call 13; (with_reducible refine (HD.out _ HB4.out).mono ?_); rintro e w5 ⟨rfl, hb5⟩; have HB5 := Lib.hid (below_then HB4.out (Nat.le_refl _) hb5); have HL35 := Lib.hid (HL34.out.keep hb5); have HL25 := Lib.hid (HL24.out.keep hb5); obtain ⟨x0, x1, x2, _⟩ := blk3 (HBK4.out.below hb5 HBK4.out.lt); obtain ⟨y0, y1, y2, _⟩ := blk3 (HBZ4.out.below hb5 HBZ4.out.lt); clear hb5)
        | (go_at_call 14; refine (HSA.out _ _ _ HL25.out HL35.out).mono ?_; rintro e w6 ⟨rfl, hb6⟩; have HB6 := Lib.hid (below_then HB5.out (Nat.le_refl _) hb6); clear hb6)
        | (go_at_call 9; (with_reducible refine (HWK.out _ HB6.out).mono ?_); rintro e w7 ⟨rfl, hb7⟩))
      go_ret
      exact ⟨rfl, below_then HB6.out (Nat.le_refl _) hb7⟩
    | false =>
      have HA := Lib.hid (fun w1 (h1 : Below w.heap.size w w1) => (sexp_ok L hf w1 (HT.out w1 h1) A c (HS.out w1 h1)).mono fun e w' h => h.not hm)
      have HB := Lib.hid (fun w1 (h1 : Below w.heap.size w w1) => (rsexp_ok L hf w1 A c (HS.out w1 h1)).mono fun e w' h => h.not hm)
      have HC := Lib.hid (fun w1 (h1 : Below w.heap.size w w1) => (ptext_ok L hf hr w1 (HT.out w1 h1) A c (HS.out w1 h1)).mono fun e w' h => text_no hm h)
      have HD := Lib.hid (fun w1 (h1 : Below w.heap.size w w1) => (rptext_ok L hf hr w1 A c (HS.out w1 h1)).mono fun e w' h => text_no hm h)
      unfold zeroX at HA HB
      have HSA := Lib.hid (fun (w1 : World) => rsame_at (.mk 0 [] []) (.mk 0 [] []) _ _ w1 (zero_lie28 _ w1) (zero_lie28 _ w1))
      rw [same_refl] at HSA
      clear h ht hk hg hN hf hr hm HW
      go_enter Tryz.func3, Tryz.ntmps3
      go_wp2_with (first
        | (go_at_call 8; (with_reducible refine HG.out.mono ?_); rintro e w1 ⟨rfl, rfl⟩)
        | (go_at_call 10; (with_reducible refine (HA.out _ (Below.refl _ _)).mono ?_); rintro e w2 ⟨rfl, hb2⟩; have hbk := Blk.new w2 28 #[.int .i8 0, .string ⟨#[]⟩, .slice none 0 0]; have HB2 := Lib.hid (hb2.alloc hb2.size (.cells #[.int .i8 0, .string ⟨#[]⟩, .slice none 0 0] 28)); have HBK := Lib.hid hbk; clear hbk hb2)
        | (go_at_call 11; (with_reducible refine (HB.out _ HB2.out).mono ?_); rintro e w3 ⟨rfl, hb3⟩; have hbz := Blk.new w3 28 #[.int .i8 0, .string ⟨#[]⟩, .slice none 0 0]; have hb3a := hb3.alloc hb3.size (.cells #[.int .i8 0, .string ⟨#[]⟩, .slice none 0 0] 28); have HBK3 := Lib.hid (HBK.out.below hb3a HBK.out.lt); have HB3 := Lib.hid (below_then HB2.out (Nat.le_refl _) hb3a); have HBZ := Lib.hid hbz; clear hbz hb3 hb3a)
        | (go_at_call 12; (with_reducible refine (HC.out _ HB3.out).mono ?_); rintro e w4 ⟨rfl, hb4⟩; have HB4 := Lib.hid (below_then HB3.out (Nat.le_refl _) hb4); have HBK4 := Lib.hid (HBK3.out.below hb4 HBK3.out.lt); have HBZ4 := Lib.hid (HBZ.out.below hb4 HBZ.out.lt); clear hb4)
        | (go_at_call 13; (with_reducible refine (HD.out _ HB4.out).mono ?_); rintro e w5 ⟨rfl, hb5⟩; have HB5 := Lib.hid (below_then HB4.out (Nat.le_refl _) hb5); obtain ⟨x0, x1, x2, _⟩ := blk3 (HBK4.out.below hb5 HBK4.out.lt); obtain ⟨y0, y1, y2, _⟩ := blk3 (HBZ4.out.below hb5 HBZ4.out.lt); clear hb5)
        | (go_at_call 14; refine (HSA.out _).mono ?_; rintro e w6 ⟨rfl, hb6⟩; have HB6 := Lib.hid (below_then HB5.out (Nat.le_refl _) hb6); clear hb6)
        | (go_at_call 9; (with_reducible refine (HWK.out _ HB6.out).mono ?_); rintro e w7 ⟨rfl, hb7⟩))
      go_ret
      exact ⟨rfl, below_then HB6.out (Nat.le_refl _) hb7⟩
theorem proofWrites_in (x : (Option Addr × Nat) × List Stp) (w : World) (ht : Tab w) (h : GS w x.1.1 x.2) :
    Calls Tryz.prog 3 #[.slice x.1.1 x.2.length x.1.2] w fun e w' => e = .returned (.bool true) ∧ Below w.heap.size w w' := proofWrites_walk x.2 w ht x.1.1 x.1.2 h
end Go.Proofs.YtiklliiamljogaaGreatDoor

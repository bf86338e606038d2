/- The writer: lists, put, Text. -/
import Derived.Test.YtephhendkmhggaaBldB
namespace Go.Proofs.Ytephhendkmhggaa
open Go.RowKit

theorem PC.kept {w w' : World} {K : Nat → Prop} {b off : Nat} {y : C3} (h : PC w b off y) (hk : Kept K w w') (hn : ¬ K b) : PC w' b off y := by
  have hb := hk.block b h.lt hn
  have e : ∀ i, w'.cell? ⟨b, i, none⟩ = w.cell? ⟨b, i, none⟩ := fun i => by unfold World.cell?; rw [hb]
  exact ⟨Nat.lt_of_lt_of_le h.lt hk.size, (e _).trans h.c0, (e _).trans h.c1, (e _).trans h.c2⟩
theorem Kids.kept {S K : Nat → Prop} {w w' : World} {A : Option Addr} {l : List Sx} (h : Kids S w A l) (hk : Kept K w w') (hS : ∀ b, b < w.heap.size → S b → ¬ K b) : Kids S w' A l := fun i hi => by
  obtain ⟨b, off, k, t, B, n, c, e, hSb, hlt, h0, h1, h2, hl⟩ := h i hi
  have hb := hk.block b hlt (hS b hlt hSb)
  have ec : ∀ i, w'.cell? ⟨b, i, none⟩ = w.cell? ⟨b, i, none⟩ := fun i => by unfold World.cell?; rw [hb]
  exact ⟨b, off, k, t, B, n, c, e, hSb, Nat.lt_of_lt_of_le hlt hk.size, (ec _).trans h0, (ec _).trans h1, (ec _).trans h2, hl.kept hk hS⟩
theorem standss_mem : ∀ {l : List Sx} {y : Sx}, Sx.standss l = true → y ∈ l → y.stands = true
  | x :: r, y, h, hy => by
    rw [Sx.standss, Bool.and_eq_true] at h
    rcases List.mem_cons.1 hy with rfl | hy
    · exact h.1
    · exact standss_mem h.2 hy

set_option maxHeartbeats 2000000 in
set_option maxRecDepth 100000 in
theorem wlist_ok (l : List Sx) (hl : l.length ≤ 9223372036854775807) (ih : ∀ y ∈ l, PutAt y) (w : World) (D b : Nat) (bs : List UInt8) (h : WB w D b bs) (bx off : Nat) (k : Int) (t : ByteArray) (A : Option Addr) (c : Nat) (hp : PC w bx off ⟨k, t, A, l.length, c⟩) (hc : l.length ≤ c) (hA : Kids (fun i => i < D ∧ i ≠ b) w A l) (hx1 : bx < D) (hx2 : bx ≠ b) (hst : Sx.standss l = true) (hn : bs.length + (Sx.prints l).length + 2 ≤ 100000000) :
    Calls Try.prog 46 #[.pointer (some ⟨b, 0, none⟩), .pointer (some ⟨bx, off, none⟩)] w fun e w' => e = .returned (.tuple #[]) ∧ WB w' D b (bs ++ 40 :: (Sx.prints l ++ [41])) ∧ Kept (fun i => i = b ∨ D ≤ i) w w' := by
  have HI := Lib.hid ih
  have HA := Lib.hid hA
  have HP := Lib.hid hp
  have HST := Lib.hid hst
  have H40 := Lib.hid (wbyte_ok w D b bs h 40 (by omega))
  clear ih hA hp hst h
  go_enter Try.func46, Try.ntmps46
  go_wp2_with (go_at_call 70; refine H40.out.mono ?_; rintro e w1 ⟨rfl, hw1, hk1⟩; obtain ⟨_, x0, x1, x2⟩ := HP.out.kept hk1 (by omega))
  have HW1 := Lib.hid hw1
  have HK1 := Lib.hid hk1
  clear hw1 hk1 x0 x1 x2
  go_loopw [14] (fun v wx => ∃ i : Nat, i ≤ l.length ∧ v = .int .i64 i ∧ WB wx D b (bs ++ 40 :: Sx.prints (l.take i)) ∧ Kept (fun i => i = b ∨ D ≤ i) w wx) (fun v _ => (l.length - intOf v).toNat)
  case atStart => exact ⟨0, Nat.zero_le _, rfl, HW1.out, HK1.out⟩
  case round =>
    obtain ⟨i, hi, rfl, hW, hK⟩ := hrel
    clear HW1 HK1
    have HW := Lib.hid hW
    have HK := Lib.hid hK
    clear hW hK
    by_cases hin : i < l.length
    · have hiz : (i : Int) < (l.length : Int) := by omega
      have d1 : decide ((i : Int) < l.length) = true := decide_eq_true hiz
      have hxp := HP.out.kept HK.out (by omega)
      obtain ⟨_, x0, x1, x2⟩ := hxp
      obtain ⟨b', off', k1, t1, B1, n1, m1, rfl, hSb, hlt', y0, y1, y2, hy⟩ := (HA.out.kept HK.out (fun b _ h1 h2 => by omega)) i hin
      have hP' : PC wr b' (off' + i * 3) ⟨k1, t1, B1, n1, m1⟩ := ⟨hlt', y0, y1, y2⟩
      have htk := prints_take l (i + 1)
      have hsn := List.take_succ_eq_append_getElem hin
      have hyst := standss_mem HST.out (List.getElem_mem hin)
      have hput := HI.out (l[i]) (List.getElem_mem hin)
      have hsb1 := hSb.1
      have hsb2 := hSb.2
      by_cases hi0 : i = 0
      · subst hi0
        have e1 : Sx.prints (l.take 1) = (l[0]).print := by
          rw [hsn]
          simp [Sx.prints, Sx.tails]
        rw [Nat.zero_add, e1] at htk
        have HPUT := Lib.hid (hput wr D b (bs ++ 40 :: Sx.prints (l.take 0)) b' (off' + 0 * 3) ⟨k1, t1, B1, n1, m1⟩ HW.out hP' hy hsb1 hsb2 hyst (by simp [Sx.prints]; omega))
        have HE := Lib.hid e1
        rw [Nat.zero_mul, Nat.add_zero] at HPUT y0 y1 y2
        clear hput hP' hy hyst e1 hsn htk HI HA
        go_wp2_with (go_at_call 29; refine HPUT.out.mono ?_; rintro e w2 ⟨rfl, hw2, hk2⟩)
        go_roundw
        case rel =>
          refine ⟨1, by omega, rfl, ?_, HK.out.trans hk2⟩
          have := hw2
          rw [HE.out]
          simpa [Sx.prints] using this
        case measure => simp only [intOf]; omega
      · have d2 : decide ((i : Int) > 0) = true := decide_eq_true (by omega)
        have d3 : decide ((0 : Int) < (i : Int)) = true := decide_eq_true (by omega)
        have hne : l.take i ≠ [] := fun e => by
          have := congrArg List.length e
          rw [List.length_take, List.length_nil] at this
          omega
        have e1 : Sx.prints (l.take (i + 1)) = Sx.prints (l.take i) ++ 32 :: (l[i]).print := by rw [hsn, prints_snoc _ _ hne]
        rw [e1, List.length_append, List.length_cons] at htk
        have hw32 := Lib.hid (wbyte_ok wr D b (bs ++ 40 :: Sx.prints (l.take i)) HW.out 32 (by simp; omega))
        have HPUT := Lib.hid (fun w2 (hw2 : WB w2 D b ((bs ++ 40 :: Sx.prints (l.take i)) ++ [32])) (hk2 : Kept (fun i => i = b ∨ D ≤ i) wr w2) => hput w2 D b _ b' (off' + i * 3) ⟨k1, t1, B1, n1, m1⟩ hw2 (hP'.kept hk2 (by omega)) (hy.kept hk2 (fun b _ h1 h2 => by omega)) hsb1 hsb2 hyst (by simp; omega))
        have HE := Lib.hid e1
        have HPP := Lib.hid (HP.out.kept HK.out (by omega))
        have HP1 := Lib.hid hP'
        clear hput hP' hy hyst e1 hsn htk HI HA hne
        go_wp2_with (first
          | (go_at_call 70; refine hw32.out.mono ?_; rintro e w2 ⟨rfl, hw2, hk2⟩; obtain ⟨_, u0, u1, u2⟩ := HPP.out.kept hk2 (by omega))
          | (go_at_call 29; refine (HPUT.out _ hw2 hk2).mono ?_; rintro e w3 ⟨rfl, hw3, hk3⟩))
        go_roundw
        case rel =>
          refine ⟨i + 1, by omega, by go_num, ?_, (HK.out.trans hk2).trans hk3⟩
          rw [HE.out]
          simpa using hw3
        case measure => simp only [intOf]; omega
    · have d1 : decide ((i : Int) < l.length) = false := decide_eq_false (by omega)
      have e : l.take i = l := List.take_of_length_le (by omega)
      rw [e] at HW
      have H41 := Lib.hid (wbyte_ok wr D b _ HW.out 41 (by simp; omega))
      clear HI HA
      go_wp2_with (go_at_call 70; refine H41.out.mono ?_; rintro e w2 ⟨rfl, hw2, hk2⟩)
      go_end0
      refine ⟨rfl, ?_, HK.out.trans hk2⟩
      simpa using hw2

theorem stands_kind {k : Int} {t : List UInt8} {l : List Sx} (h : (Sx.mk k t l).stands = true) : (k = 0 ∧ mayL t = true) ∨ k = 1 ∨ k = 2 ∨ (k = 3 ∧ Sx.standss l = true) := by
  rw [Sx.stands] at h
  by_cases h0 : k = 0
  · rw [if_pos h0, Bool.and_eq_true] at h
    exact .inl ⟨h0, h.2⟩
  rw [if_neg h0] at h
  by_cases h1 : k = 1
  · exact .inr (.inl h1)
  rw [if_neg h1] at h
  by_cases h2 : k = 2
  · exact .inr (.inr (.inl h2))
  rw [if_neg h2] at h
  by_cases h3 : k = 3
  · rw [if_pos h3, Bool.and_eq_true] at h
    exact .inr (.inr (.inr ⟨h3, h.2⟩))
  rw [if_neg h3] at h
  cases h
theorem Lies.c3eq {S : Nat → Prop} {w : World} {y : C3} {k : Int} {T : List UInt8} {l : List Sx} (hl : Lies S w y.val (.mk k T l)) : ∃ (t : ByteArray) (A : Option Addr) (c : Nat), y = ⟨k, t, A, l.length, c⟩ ∧ byts t = T ∧ l.length ≤ c ∧ l.length ≤ 9223372036854775807 ∧ Kids S w A l := by
  obtain ⟨t, A, c, hv, hT, hlc, _, hmax, hk⟩ := hl.open_
  refine ⟨t, A, c, ?_, hT, hlc, hmax, hk⟩
  obtain ⟨k2, t2, A2, n2, c2⟩ := y
  unfold C3.val at hv
  injection hv with e
  injection e with e
  injection e with e0 e
  injection e with e1 e
  injection e with e2 e
  injection e0 with _ e0
  injection e1 with e1
  injection e2 with a1 a2 a3
  subst e0 e1 a1 a2 a3
  rfl

set_option maxHeartbeats 1000000 in
set_option maxRecDepth 100000 in
theorem put_at (x : Sx) : PutAt x := by
  induction x using Sx.ind with
  | h k T l ih =>
  intro w D b bs bx off y h hp hl hx1 hx2 hst hn
  obtain ⟨t, A, c, rfl, rfl, hlc, hmax, hk⟩ := hl.c3eq
  obtain ⟨W, hW⟩ : ∃ W, w.alloc (.cells #[.func (.func 43) #[] #[], .func (.func 44) #[] #[], .func (.func 45) #[] #[], .func (.func 46) #[] #[]] 69) = W := ⟨_, rfl⟩
  have hb : Below w.heap.size w W := hW ▸ (Below.refl _ w).alloc (Nat.le_refl _) _
  have hWB := h.keep hb
  have hPC := hp.keep hb
  have hKD := hk.keep hb
  have hKp : Kept (fun i => i = b ∨ D ≤ i) w W := Kept.of_below hb
  have hr : (Sx.mk k (byts t) l).print = if k = 0 then quoteL (byts t) else if k = 2 then 58 :: byts t else if k = 3 then 40 :: (Sx.prints l ++ [41]) else byts t := by rw [Sx.print]
  rw [hr] at hn ⊢
  obtain ⟨_, x0, x1, x2⟩ := hp
  dsimp only at x0 x1 x2
  rcases stands_kind hst with ⟨rfl, hm⟩ | rfl | rfl | ⟨rfl, hss⟩
  · rw [if_pos rfl] at hn ⊢
    have hts : t.size ≤ 1000 := by
      unfold mayL at hm
      rw [Bool.and_eq_true, byts_len] at hm
      have := of_decide_eq_true hm.1
      omega
    have HC := Lib.hid (wsym_ok W D b bs hWB bx off _ hPC hx1 hx2 hts hn)
    have HK := Lib.hid hKp
    clear h hst hr hm hk hl ih hb hWB hPC hKD hKp hn
    subst hW
    go_enter Try.func29, Try.ntmps29
    go_wp2_with (go_at_call 43; refine HC.out.mono ?_; rintro e w1 ⟨rfl, hw1, hk1⟩)
    go_end0
    exact ⟨rfl, hw1, HK.out.trans hk1⟩
  · rw [if_neg (by decide), if_neg (by decide), if_neg (by decide)] at hn ⊢
    have HC := Lib.hid (wnum_ok W D b bs hWB bx off _ hPC hx1 hx2 (by rw [← byts_len]; exact hn))
    have HK := Lib.hid hKp
    clear h hst hr hk hl ih hb hWB hPC hKD hKp hn
    subst hW
    go_enter Try.func29, Try.ntmps29
    go_wp2_with (go_at_call 44; refine HC.out.mono ?_; rintro e w1 ⟨rfl, hw1, hk1⟩)
    go_end0
    exact ⟨rfl, hw1, HK.out.trans hk1⟩
  · rw [if_neg (by decide), if_pos rfl] at hn ⊢
    have HC := Lib.hid (wkey_ok W D b bs hWB bx off _ hPC hx1 hx2 (by rw [List.length_cons, byts_len] at hn; exact hn))
    have HK := Lib.hid hKp
    clear h hst hr hk hl ih hb hWB hPC hKD hKp hn
    subst hW
    go_enter Try.func29, Try.ntmps29
    go_wp2_with (go_at_call 45; refine HC.out.mono ?_; rintro e w1 ⟨rfl, hw1, hk1⟩)
    go_end0
    exact ⟨rfl, hw1, HK.out.trans hk1⟩
  · rw [if_neg (by decide), if_neg (by decide), if_pos rfl] at hn ⊢
    have HC := Lib.hid (wlist_ok l hmax ih W D b bs hWB bx off 3 t A c hPC hlc hKD hx1 hx2 hss (by simp at hn; omega))
    have HK := Lib.hid hKp
    clear h hst hr hk hl ih hb hWB hPC hKD hKp hn
    subst hW
    go_enter Try.func29, Try.ntmps29
    go_wp2_with (go_at_call 46; refine HC.out.mono ?_; rintro e w1 ⟨rfl, hw1, hk1⟩)
    go_end0
    exact ⟨rfl, hw1, HK.out.trans hk1⟩
end Go.Proofs.Ytephhendkmhggaa

/- Text; wakes. -/
namespace Go.Proofs.Ytephhendkmhggaa
open Go.RowKit

theorem print_ne {x : Sx} (h : x.stands = true) : x.print ≠ [] := by
  obtain ⟨k, t, l⟩ := x
  rw [Sx.print]
  rw [Sx.stands] at h
  by_cases h0 : k = 0
  · rw [if_pos h0]
    unfold quoteL
    split
    · rintro rfl
      rename_i hq
      exact absurd hq (by decide)
    · simp
  rw [if_neg h0] at h ⊢
  by_cases h2 : k = 2
  · rw [if_pos h2]; simp
  rw [if_neg h2]
  by_cases h3 : k = 3
  · rw [if_pos h3]; simp
  rw [if_neg h3]
  rw [if_neg h2, if_neg h3] at h
  by_cases h1 : k = 1
  · rw [if_pos h1, Bool.and_eq_true, Bool.and_eq_true] at h
    rintro rfl
    exact absurd h.2.1 (by decide)
  · rw [if_neg h1] at h
    cases h

/-- Text: the bytes, or the error. -/
def textL (x : Sx) : List UInt8 × Int := if x.may then (if 8192 < x.print.length then ([], 41) else (x.print, 0)) else ([], 2)

set_option maxHeartbeats 1000000 in
set_option maxRecDepth 100000 in
theorem text_ok (x : Sx) (hf : x.fits) (hd : x.depth < 9223372036854775807) (hpl : x.print.length ≤ 100000000) (w : World) (v : Value) (hl : Lies (fun _ => True) w v x) :
    Calls Try.prog 15 #[v] w fun e w' => (∃ q c, e = .returned (.tuple #[.string q, .int .i64 c]) ∧ (byts q, c) = textL x) ∧ Below w.heap.size w w' := by
  obtain ⟨y, rfl⟩ := hl.c3
  obtain ⟨W, hW⟩ : ∃ W, w.alloc (.cells #[.int .i8 y.k, .string y.t, .slice y.A y.n y.c] 26) = W := ⟨_, rfl⟩
  have hb : Below w.heap.size w W := hW ▸ (Below.refl _ w).alloc (Nat.le_refl _) _
  have hBk : Blk W w.heap.size 26 #[.int .i8 y.k, .string y.t, .slice y.A y.n y.c] := hW ▸ Blk.new w _ _
  have hP : PC W w.heap.size 0 y := ⟨hBk.lt, hBk.cell 0, hBk.cell 1, hBk.cell 2⟩
  have hlt : Lies (fun i => i < w.heap.size) w y.val x := hl.mono (fun b hb _ => hb)
  have HM := Lib.hid (may_ok x hf hd W _ (hl.keep hb))
  have HB := Lib.hid hb
  have HPC := Lib.hid hP
  have HL := Lib.hid (hlt.keep hb)
  have hWs : W.heap.size = w.heap.size + 1 := by rw [← hW]; simp
  obtain ⟨R, hR⟩ : ∃ R, textL x = R := ⟨_, rfl⟩
  rw [hR]
  unfold textL at hR
  obtain ⟨_, x0, x1, x2⟩ := hP
  cases hm : x.may with
  | false =>
    rw [hm] at HM hR
    have HR := Lib.hid hR
    clear hb hBk hlt hl hR
    unfold C3.val at HM ⊢
    subst hW
    go_enter Try.func15, Try.ntmps15
    go_wp2_with (go_at_call 17; refine HM.out.mono ?_; rintro e w1 ⟨rfl, hb1⟩)
    exact bodyPost_ret (v := .tuple #[.string ⟨#[]⟩, .int .i64 2]) (by simp [results, Try.results15, go_sem]) rfl ⟨⟨_, _, rfl, HR.out⟩, HB.out.trans (hb1.mono HB.out.size)⟩
  | true =>
    rw [hm] at HM hR
    have hst : x.stands = true := by
      unfold Sx.may at hm
      rw [Bool.and_eq_true] at hm
      exact hm.2
    have hpn := print_ne hst
    have hput : ∀ w1, Below W.heap.size W w1 → Calls Try.prog 29 #[.pointer (some ⟨w1.heap.size, 0, none⟩), .pointer (some ⟨w.heap.size, 0, none⟩)] (w1.alloc (.cells #[.pointer none, .slice none 0 0] 53)) fun e w' => e = .returned (.tuple #[]) ∧ WB w' (w1.heap.size + 1) w1.heap.size x.print ∧ Kept (fun i => i = w1.heap.size ∨ w1.heap.size + 1 ≤ i) (w1.alloc (.cells #[.pointer none, .slice none 0 0] 53)) w' := fun w1 h1 => by
      have hb2 : Below w1.heap.size w1 (w1.alloc (.cells #[.pointer none, .slice none 0 0] 53)) := (Below.refl _ w1).alloc (Nat.le_refl _) _
      have hs1 := h1.size
      have hwb : WB (w1.alloc (.cells #[.pointer none, .slice none 0 0] 53)) (w1.heap.size + 1) w1.heap.size [] := ⟨⟨_, _, .inl rfl, Blk.new _ _ _, World.ownsRow_nil _ _ _ _⟩, by omega, by simp⟩
      have hc := put_at x (w1.alloc (.cells #[.pointer none, .slice none 0 0] 53)) (w1.heap.size + 1) w1.heap.size [] w.heap.size 0 y hwb ((HPC.out.keep h1).keep hb2) (((HL.out.keep h1).keep hb2).mono (fun b _ hb => ⟨by omega, by omega⟩)) (by omega) (by omega) hst (by simpa using hpl)
      exact hc
    have HPUT := Lib.hid hput
    have hdl : decide ((x.print.length : Int) > 8192) = decide (8192 < x.print.length) := by
      by_cases h : 8192 < x.print.length
      · rw [decide_eq_true h]; exact decide_eq_true (by omega)
      · rw [decide_eq_false h]; exact decide_eq_false (by omega)
    obtain ⟨pr, hpr⟩ : ∃ pr, x.print = pr := ⟨_, rfl⟩
    rw [hpr] at HPUT hdl hpn hR
    clear hb hBk hlt hl hput hst hm hpr hpl
    unfold C3.val at HM ⊢
    by_cases h8 : 8192 < pr.length
    · rw [if_pos h8, if_pos rfl] at hR
      have HR := Lib.hid hR
      clear hR
      rw [decide_eq_true h8] at hdl
      have hdl2 : decide ((8192 : Int) < (pr.length : Int)) = true := hdl
      subst hW
      go_enter Try.func15, Try.ntmps15
      go_wp2_with (first
        | (go_at_call 17; refine HM.out.mono ?_; rintro e w1 ⟨rfl, hb1⟩)
        | (go_at_call 29; refine (HPUT.out w1 hb1).mono ?_; rintro e w2 ⟨rfl, hw2, hk2⟩; have HW2 := Lib.hid hw2; clear hw2)
        | (go_at_call 30; refine (wlen_ok _ _ _ _ HW2.out).mono ?_; rintro e w3 ⟨rfl, rfl⟩))
      have hfin := (HB.out.trans (hb1.mono HB.out.size)).trans ((((Below.refl w1.heap.size w1).alloc (Nat.le_refl _) _).trans (hk2.below (B := w1.heap.size) (by simp) (fun i hi => by omega))).mono (Nat.le_trans HB.out.size hb1.size))
      exact bodyPost_ret (v := .tuple #[.string ⟨#[]⟩, .int .i64 41]) (by simp [results, Try.results15, go_sem]) rfl ⟨⟨_, _, rfl, HR.out⟩, hfin⟩
    · rw [if_neg h8, if_pos rfl] at hR
      have HR := Lib.hid hR
      clear hR
      rw [decide_eq_false h8] at hdl
      have hdl2 : decide ((8192 : Int) < (pr.length : Int)) = false := hdl
      subst hW
      go_enter Try.func15, Try.ntmps15
      go_wp2_with (first
        | (go_at_call 17; refine HM.out.mono ?_; rintro e w1 ⟨rfl, hb1⟩)
        | (go_at_call 29; refine (HPUT.out w1 hb1).mono ?_; rintro e w2 ⟨rfl, hw2, hk2⟩; have HW2 := Lib.hid hw2; clear hw2)
        | (go_at_call 30; refine (wlen_ok _ _ _ _ HW2.out).mono ?_; rintro e w3 ⟨rfl, rfl⟩)
        | (go_at_call 31; refine (wstr_ok _ _ _ _ HW2.out hpn).mono ?_; rintro e w3 ⟨rfl, hb3⟩))
      have hfin := (HB.out.trans (hb1.mono HB.out.size)).trans ((((Below.refl w1.heap.size w1).alloc (Nat.le_refl _) _).trans (hk2.below (B := w1.heap.size) (by simp) (fun i hi => by omega))).mono (Nat.le_trans HB.out.size hb1.size))
      have hs1 := hb1.size
      exact bodyPost_ret (v := .tuple #[.string ⟨pr.toArray⟩, .int .i64 0]) (by simp [results, Try.results15, go_sem]) rfl ⟨⟨_, _, rfl, HR.out⟩, hfin.trans (hb3.mono (by have := HB.out.size; omega))⟩
end Go.Proofs.Ytephhendkmhggaa

/- wakes. -/
namespace Go.Proofs.Ytephhendkmhggaa
open Go.RowKit

def wakeX : Sx := .mk 3 [] [.mk 0 [97] [], .mk 3 [] [.mk 0 [98] []], .mk 1 [55] []]
theorem wake_read : topP [40, 97, 32, 40, 98, 41, 32, 55, 41, 32, 120] 0 = .ok wakeX 9 := by kernel_rfl
theorem wake_read2 : topP [41] 0 = .err 0 20 := by kernel_rfl
theorem wake_text : textL wakeX = ([40, 97, 32, 40, 98, 41, 32, 55, 41], 0) := by kernel_rfl
theorem wake_fits : wakeX.fits := by unfold wakeX; simp [Sx.fits, Sx.fitss]
theorem wake_depth : wakeX.depth = 2 := by kernel_rfl
theorem wake_print : wakeX.print.length ≤ 100000000 := by
  have : wakeX.print = [40, 97, 32, 40, 98, 41, 32, 55, 41] := by kernel_rfl
  rw [this]
  decide
def wakeS : ByteArray := ⟨#[40, 97, 32, 40, 98, 41, 32, 55, 41, 32, 120]⟩

set_option maxHeartbeats 2000000 in
set_option maxRecDepth 100000 in
theorem wakes_ok (w : World) : Calls Try.prog 8 #[] w fun e w' => e = .returned (.bool true) ∧ Below w.heap.size w w' := by
  have HR1 : Hid (∀ w, Calls Try.prog 9 #[.string ⟨#[40, 97, 32, 40, 98, 41, 32, 55, 41, 32, 120]⟩, .int .i64 0] w fun e w' => (∃ t A c, Lies (fun b => w.heap.size ≤ b) w' (.agg #[.int .i8 3, .string t, .slice A 3 c]) wakeX ∧ e = .returned (.tuple #[.agg #[.int .i8 3, .string t, .slice A 3 c], .int .i64 9, .int .i64 0])) ∧ Below w.heap.size w w') := Lib.hid fun w => (Read_ ⟨#[40, 97, 32, 40, 98, 41, 32, 55, 41, 32, 120]⟩ 0 w (by decide)).mono (by
    rw [if_neg (by decide)]
    have h : topP (byts ⟨#[40, 97, 32, 40, 98, 41, 32, 55, 41, 32, 120]⟩) (fromI 0 (ByteArray.size ⟨#[40, 97, 32, 40, 98, 41, 32, 55, 41, 32, 120]⟩)) = .ok wakeX 9 := wake_read
    rw [h]
    rintro e w' ⟨⟨v, hl, rfl⟩, hb⟩
    obtain ⟨t, A, c, rfl, _⟩ := Lies.open_ hl
    exact ⟨⟨t, A, c, hl, rfl⟩, hb⟩)
  have HR2 : Hid (∀ w, Calls Try.prog 9 #[.string ⟨#[41]⟩, .int .i64 0] w fun e w' => e = .returned (.tuple #[.agg #[.int .i8 0, .string ⟨#[]⟩, .slice none 0 0], .int .i64 0, .int .i64 20]) ∧ Below w.heap.size w w') := Lib.hid fun w => (Read_ ⟨#[41]⟩ 0 w (by decide)).mono (by
    rw [if_neg (by decide)]
    have h : topP (byts ⟨#[41]⟩) (fromI 0 (ByteArray.size ⟨#[41]⟩)) = .err 0 20 := wake_read2
    rw [h]
    exact fun e w' h => h)
  have HT : Hid (∀ w v, Lies (fun _ => True) w v wakeX → Calls Try.prog 15 #[v] w fun e w' => e = .returned (.tuple #[.string ⟨#[40, 97, 32, 40, 98, 41, 32, 55, 41]⟩, .int .i64 0]) ∧ Below w.heap.size w w') := Lib.hid fun w v hl => (text_ok wakeX wake_fits (by rw [wake_depth]; decide) wake_print w v hl).mono (by
    rintro e w' ⟨⟨q, c, rfl, hq⟩, hb⟩
    rw [wake_text] at hq
    injection hq with h1 h2
    subst h2
    have h3 : q = ⟨#[40, 97, 32, 40, 98, 41, 32, 55, 41]⟩ := by
      rw [← Lib.mk_data q]
      show (⟨(byts q).toArray⟩ : ByteArray) = _
      rw [h1]
    subst h3
    exact ⟨rfl, hb⟩)
  have HD : Hid (∀ w v, Lies (fun _ => True) w v wakeX → Calls Try.prog 19 #[v] w fun e w' => e = .returned (.int .i64 2) ∧ Below w.heap.size w w') := Lib.hid fun w v hl => (depth_ok wakeX (by rw [wake_depth]; decide) v w hl).mono (by rw [wake_depth]; exact fun e w' h => h)
  have HH : Hid (∀ w v, Lies (fun _ => True) w v wakeX → Calls Try.prog 22 #[v] w fun e w' => e = .returned (.string ⟨#[97]⟩) ∧ Below w.heap.size w w') := Lib.hid fun w v hl => (head_ok 3 [] _ rfl (by decide) [97] [] rfl w v hl).mono (by
    rintro e w' ⟨⟨q, rfl, hq⟩, hb⟩
    have h3 : q = ⟨#[97]⟩ := by
      rw [← Lib.mk_data q]
      show (⟨(byts q).toArray⟩ : ByteArray) = _
      rw [hq]
    subst h3
    exact ⟨rfl, hb⟩)
  go_enter Try.func8, Try.ntmps8
  go_wp2_with (first
    | (go_at_call 9; with_reducible refine (HR1.out _).mono ?_; rintro e w1 ⟨⟨ty, Ay, cy, hl, rfl⟩, hb1⟩; have hbk := Blk.new w1 26 #[.int .i8 3, .string ty, .slice Ay 3 cy]; have hbb1 : Below w.heap.size w (w1.alloc (.cells #[.int .i8 3, .string ty, .slice Ay 3 cy] 26)) := hb1.alloc hb1.size _; have hl1 := Lib.hid ((hl.mono (S' := fun _ => True) (fun _ _ _ => True.intro)).keep ((Below.refl _ w1).alloc (Nat.le_refl _) (.cells #[.int .i8 3, .string ty, .slice Ay 3 cy] 26))); clear hl)
    | (go_at_call 9; with_reducible refine (HR2.out _).mono ?_; rintro e w2 ⟨rfl, hb2⟩; have hbk2 := (hbk.below hb2 hbk.lt).alloc (.cells #[.int .i8 0, .string ⟨#[]⟩, .slice none 0 0] 26); have hbb2 : Below (w1.alloc (.cells #[.int .i8 3, .string ty, .slice Ay 3 cy] 26)).heap.size (w1.alloc (.cells #[.int .i8 3, .string ty, .slice Ay 3 cy] 26)) (w2.alloc (.cells #[.int .i8 0, .string ⟨#[]⟩, .slice none 0 0] 26)) := hb2.alloc hb2.size _; have hl2 := Lib.hid (hl1.out.keep hbb2); obtain ⟨x0, x1, x2, _⟩ := blk3 hbk2)
    | (go_at_call 15; refine (HT.out _ _ hl2.out).mono ?_; rintro e w3 ⟨rfl, hb3⟩; have hbk3 := hbk2.below hb3 hbk2.lt; have hl3 := Lib.hid (hl2.out.keep hb3); obtain ⟨x0, x1, x2, _⟩ := blk3 hbk3)
    | (go_at_call 22; refine (HH.out _ _ hl3.out).mono ?_; rintro e w4 ⟨rfl, hb4⟩; have hbk4 := hbk3.below hb4 hbk3.lt; have hl4 := Lib.hid (hl3.out.keep hb4); obtain ⟨x0, x1, x2, _⟩ := blk3 hbk4)
    | (go_at_call 19; refine (HD.out _ _ hl4.out).mono ?_; rintro e w5 ⟨rfl, hb5⟩))
  go_ret
  exact ⟨rfl, below_then (below_then (below_then (below_then hbb1 (Nat.le_refl _) hbb2) (Nat.le_refl _) hb3) (Nat.le_refl _) hb4) (Nat.le_refl _) hb5⟩
end Go.Proofs.Ytephhendkmhggaa

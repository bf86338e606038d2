/- The reference's size and Great. -/
import Derived.Test.YtephhendkmhggaaTreeI
import Derived.Test.YtephhendkmhggaaStD
namespace Go.Proofs.Ytephhendkmhggaa
open Go.RowKit

mutual
/-- How great an expression is, counted no further than need be. -/
def Sx.size : Sx → Nat
  | .mk _ t l => Sx.sizes l (1 + t.length)
def Sx.sizes : List Sx → Nat → Nat
  | [], n => n
  | x :: r, n => if n ≤ 4000 then Sx.sizes r (n + x.size) else n
end
mutual
/-- No sum on the way overflows. -/
def Sx.small : Sx → Prop
  | .mk _ t l => t.length < 4611686018427387904 ∧ Sx.smalls l
def Sx.smalls : List Sx → Prop
  | [] => True
  | x :: r => (x.size < 4611686018427387904 ∧ x.small) ∧ Sx.smalls r
end
theorem smalls_mem : ∀ {l : List Sx} {y : Sx}, Sx.smalls l → y ∈ l → y.size < 4611686018427387904 ∧ y.small
  | x :: r, y, h, hy => by
    rw [Sx.smalls] at h
    rcases List.mem_cons.1 hy with rfl | hy
    · exact h.1
    · exact smalls_mem h.2 hy

set_option maxHeartbeats 1000000 in
set_option maxRecDepth 100000 in
theorem rsize_ok {S : Nat → Prop} (x : Sx) : x.small → ∀ (v : Value) (w : World), Lies S w v x → Calls Try.prog 28 #[v] w fun e w' => e = .returned (.int .i64 x.size) ∧ Below w.heap.size w w' := by
  induction x using Sx.ind with
  | h k T l ih =>
  intro hsm v w hv
  obtain ⟨t, A, c, rfl, rfl, hlc, hnil, hmax, hk⟩ := hv.open_
  rw [Sx.small, byts_len] at hsm
  have hts := hsm.1
  obtain ⟨R, hR⟩ : ∃ R, (Sx.mk k (byts t) l).size = R := ⟨_, rfl⟩
  have hR2 : Sx.sizes l (1 + t.size) = R := by rw [← hR, Sx.size, byts_len]
  rw [hR]
  have HI := Lib.hid ih
  have HS := Lib.hid hsm.2
  have HK := Lib.hid hk
  have HR := Lib.hid hR2
  clear ih hk hnil hv hsm hR hR2
  go_enter Try.func28, Try.ntmps28
  go_wp2
  have hbx := Blk.new w 26 #[.int .i8 k, .string t, .slice A l.length c]
  have hB0 : Below w.heap.size w (w.alloc (.cells #[.int .i8 k, .string t, .slice A l.length c] 26)) := (Below.refl _ w).alloc (Nat.le_refl _) _
  generalize w.alloc (.cells #[.int .i8 k, .string t, .slice A l.length c] 26) = w0 at *
  have hlt0 := hbx.lt
  go_loopw [4, 3] (fun v d wx => Below w0.heap.size w0 wx ∧ ∃ i n : Nat, i ≤ l.length ∧ v = .int .i64 i ∧ d = .int .i64 n ∧ n < 9223372036854775807 ∧ Sx.sizes (l.drop i) n = R) (fun v _ _ => (l.length - intOf v).toNat)
  case atStart => exact ⟨Below.refl _ _, 0, 1 + t.size, Nat.zero_le _, rfl, by simp, by omega, HR.out⟩
  case round =>
    obtain ⟨hBx, i, n, hi, rfl, rfl, hn, hsz⟩ := hrel
    have hB := hB0.trans (hBx.mono (Nat.le_of_lt hlt0))
    have x2 := (hbx.below hBx hlt0).cell 2
    simp only [List.getElem?_toArray, List.getElem?_cons_zero, List.getElem?_cons_succ] at x2
    have HZ := Lib.hid hsz
    clear hsz HR
    by_cases hin : i < l.length
    · have hiz : (i : Int) < (l.length : Int) := by omega
      have d1 : decide ((i : Int) < l.length) = true := decide_eq_true hiz
      have hdr : Sx.sizes (l.drop i) n = if n ≤ 4000 then Sx.sizes (l.drop (i + 1)) (n + (l[i]).size) else n := by rw [List.drop_eq_getElem_cons hin, Sx.sizes]
      by_cases h4 : n ≤ 4000
      · have d2 : decide ((n : Int) ≤ 4000) = true := decide_eq_true (by omega)
        rw [if_pos h4] at hdr
        obtain ⟨b, off, k1, t1, B1, n1, m1, rfl, _, hlt, h0, h1, h2, hy⟩ := (HK.out.keep hB) i hin
        have hsm := smalls_mem HS.out (List.getElem_mem hin)
        have HY := Lib.hid (HI.out (l[i]) (List.getElem_mem hin) hsm.2 _ wr hy)
        have HD := Lib.hid hdr
        have hys := hsm.1
        obtain ⟨ys, hyq⟩ : ∃ ys, (l[i]).size = ys := ⟨_, rfl⟩
        rw [hyq] at HY HD hys
        clear HI HK hy hyq hsm hdr
        go_wp2_with (go_at_call 28; refine HY.out.mono ?_; rintro e w1 ⟨rfl, hb1⟩)
        go_roundw
        case rel => exact ⟨hBx.trans (hb1.mono hBx.size), i + 1, n + ys, by omega, by go_num, by go_num, by omega, by rw [← HZ.out, HD.out]⟩
        case measure => simp only [intOf]; omega
      · have d2 : decide ((n : Int) ≤ 4000) = false := decide_eq_false (by omega)
        rw [if_neg h4] at hdr
        have HE := Lib.hid (HZ.out.symm.trans hdr)
        clear HI HK hdr
        go_wp2
        go_ret
        exact ⟨by rw [HE.out]; rfl, hB⟩
    · have d1 : decide ((i : Int) < l.length) = false := decide_eq_false (by omega)
      have HE := Lib.hid (show R = n by rw [← HZ.out, List.drop_eq_nil_of_le (by omega), Sx.sizes])
      clear HI HK
      go_wp2
      go_ret
      exact ⟨by rw [HE.out]; rfl, hB⟩

set_option maxRecDepth 100000 in
theorem great_ok {S : Nat → Prop} (x : Sx) (hd : x.depth < 9223372036854775807) (hsm : x.depth ≤ 200 → x.small ∧ x.size < 4611686018427387904) (v : Value) (w : World) (hv : Lies S w v x) :
    Calls Try.prog 14 #[v] w fun e w' => e = .returned (.bool (decide (200 < x.depth) || decide (4000 < x.size))) ∧ Below w.heap.size w w' := by
  obtain ⟨y, rfl⟩ := hv.c3
  have hb : Below w.heap.size w (w.alloc (.cells #[.int .i8 y.k, .string y.t, .slice y.A y.n y.c] 26)) := (Below.refl _ w).alloc (Nat.le_refl _) _
  have hB := Blk.new w 26 #[.int .i8 y.k, .string y.t, .slice y.A y.n y.c]
  have HD := Lib.hid (rdepth_ok x hd _ _ (hv.keep hb))
  have HZ := Lib.hid (fun (h : x.depth ≤ 200) w1 (h1 : Below (w.alloc (.cells #[.int .i8 y.k, .string y.t, .slice y.A y.n y.c] 26)).heap.size (w.alloc (.cells #[.int .i8 y.k, .string y.t, .slice y.A y.n y.c] 26)) w1) => rsize_ok x (hsm h).1 _ w1 ((hv.keep hb).keep h1))
  have HS := Lib.hid (fun h => (hsm h).2)
  obtain ⟨dx, hdx⟩ : ∃ dx, x.depth = dx := ⟨_, rfl⟩
  obtain ⟨sx, hsx⟩ : ∃ sx, x.size = sx := ⟨_, rfl⟩
  rw [hdx] at HD HZ HS ⊢
  rw [hsx] at HZ HS ⊢
  have HB := Lib.hid hb
  have HBK := Lib.hid hB
  clear hdx hsx hsm hv hb hB hd
  unfold C3.val at HD HZ ⊢
  by_cases h : 200 < dx
  · have d1 : decide ((200 : Int) < dx) = true := decide_eq_true (by omega)
    rw [decide_eq_true h]
    go_enter Try.func14, Try.ntmps14
    go_wp2_with (go_at_call 20; refine HD.out.mono ?_; rintro e w1 ⟨rfl, hb1⟩)
    go_ret
    exact ⟨rfl, HB.out.trans (hb1.mono HB.out.size)⟩
  · have d1 : decide ((200 : Int) < dx) = false := decide_eq_false (by omega)
    rw [decide_eq_false h]
    have hq : decide ((4000 : Int) < sx) = decide (4000 < sx) := by
      by_cases h4 : 4000 < sx
      · rw [decide_eq_true h4]; exact decide_eq_true (by omega)
      · rw [decide_eq_false h4]; exact decide_eq_false (by omega)
    obtain ⟨bq, hbq⟩ : ∃ bq, decide (4000 < sx) = bq := ⟨_, rfl⟩
    rw [hbq] at hq ⊢
    have hdl : dx ≤ 200 := by omega
    go_enter Try.func14, Try.ntmps14
    go_wp2_with (first
      | (go_at_call 20; refine HD.out.mono ?_; rintro e w1 ⟨rfl, hb1⟩; obtain ⟨x0, x1, x2, _⟩ := blk3 (HBK.out.below hb1 HBK.out.lt))
      | (go_at_call 28; refine (HZ.out hdl _ hb1).mono ?_; rintro e w2 ⟨rfl, hb2⟩))
    go_ret
    exact ⟨by cases bq <;> rfl, below_then (HB.out.trans (hb1.mono HB.out.size)) (Nat.le_refl _) hb2⟩
end Go.Proofs.Ytephhendkmhggaa

/- The reference's May, key, signs. -/
namespace Go.Proofs.Ytephhendkmhggaa
open Go.RowKit

set_option maxHeartbeats 1000000 in
theorem rmay_ok (s : ByteArray) (w : World) (hs : s.size ≤ 1000000) : Calls Try.prog 52 #[.string s] w fun e w' => e = .returned (.bool (mayL (byts s))) ∧ w = w' := by
  unfold mayL
  rw [byts_len]
  by_cases h : s.size ≤ 100
  · have d0 : decide ((s.size : Int) > 100) = false := decide_eq_false (by omega)
    have d0' : decide ((100 : Int) < s.size) = false := d0
    rw [decide_eq_true h]
    obtain ⟨R, hR⟩ : ∃ R, ((byts s).all fun c => insideN c.toNat) = R := ⟨_, rfl⟩
    rw [hR]
    have HR := Lib.hid hR
    clear hR
    go_enter Try.func52, Try.ntmps52
    go_wp2
    go_loopg [3] s.size (fun g v wx => w = wx ∧ ∃ i : Nat, i + g = s.size ∧ v = .int .i64 i ∧ ((byts s).drop i).all (fun c => insideN c.toNat) = R)
    case atStart => exact ⟨rfl, 0, by omega, rfl, HR.out⟩
    case round =>
      obtain ⟨rfl, i, hig, rfl, hinv⟩ := hrel
      have HI := Lib.hid hinv
      clear hinv HR
      cases gk with
      | zero =>
        have d1 : decide ((i : Int) < s.size) = false := by simp; omega
        have HE := Lib.hid (show R = true by rw [← HI.out, byts_end (by omega)]; rfl)
        go_wp2
        go_ret
        exact ⟨by rw [HE.out]; rfl, rfl⟩
      | succ g =>
        have hiz : (i : Int) < (s.size : Int) := by omega
        have hin : i < s.size := by omega
        have d1 : decide ((i : Int) < s.size) = true := decide_eq_true hiz
        obtain ⟨x, hx⟩ : ∃ x : UInt8, s[i]'(by omega) = x := ⟨_, rfl⟩
        have hx8 := x.toNat_lt
        have HX := Lib.hid hx
        cases hp : insideN x.toNat with
        | true =>
          have Hp := Lib.hid hp
          clear hp
          go_wp2_with (go_at_call 80; refine (rwithin_ok x.toNat hx8).mono ?_; rintro e w1 ⟨rfl, rfl⟩; rw [Hp.out])
          go_roundg g
          case measure => omega
          case rel => exact ⟨rfl, i + 1, by omega, by go_num, by rw [← HI.out, byts_drop hin, HX.out, List.all_cons, Hp.out, Bool.true_and]⟩
        | false =>
          have Hp := Lib.hid hp
          have HE := Lib.hid (show R = false by rw [← HI.out, byts_drop hin, HX.out, List.all_cons, hp, Bool.false_and])
          clear hp
          go_wp2_with (go_at_call 80; refine (rwithin_ok x.toNat hx8).mono ?_; rintro e w1 ⟨rfl, rfl⟩; rw [Hp.out])
          go_ret
          exact ⟨by rw [HE.out]; rfl, rfl⟩
  · have d0 : decide ((s.size : Int) > 100) = true := decide_eq_true (by omega)
    have d0' : decide ((100 : Int) < s.size) = true := d0
    rw [decide_eq_false h]
    go_enter Try.func52, Try.ntmps52
    go_wp2
    go_ret
    exact ⟨rfl, rfl⟩

set_option maxHeartbeats 1000000 in
theorem rkey_ok (s : ByteArray) (w : World) (hs : s.size ≤ 1000000) : Calls Try.prog 54 #[.string s] w fun e w' => e = .returned (.bool (kwL (byts s))) ∧ w = w' := by
  unfold kwL
  rw [byts_len]
  by_cases h0 : byts s = []
  · have b1 : (s.toList == []) = true := by rw [Lib.toList_data]; exact beq_iff_eq.2 h0
    have b2 : s.toList.isEmpty = true := by rw [Lib.toList_data]; exact List.isEmpty_iff.2 h0
    have b3 : (byts s).isEmpty = true := List.isEmpty_iff.2 h0
    have HE := Lib.hid (show (((byts s).all fun c => signN c.toNat) && (!(byts s).isEmpty && decide (s.size ≤ 100))) = false by rw [b3]; simp)
    rw [HE.out]
    clear h0 b3
    go_enter Try.func54, Try.ntmps54
    go_wp2
    go_ret
    exact ⟨rfl, rfl⟩
  have b1 : (s.toList == []) = false := beq_eq_false_iff_ne.2 (by rw [Lib.toList_data]; exact h0)
  have b2 : s.toList.isEmpty = false := by rw [Lib.toList_data]; exact List.isEmpty_eq_false_iff.2 h0
  have b3 : (byts s).isEmpty = false := List.isEmpty_eq_false_iff.2 h0
  rw [b3]
  clear h0 b3
  by_cases h : s.size ≤ 100
  · have d0 : decide ((s.size : Int) > 100) = false := decide_eq_false (by omega)
    have d0' : decide ((100 : Int) < s.size) = false := d0
    rw [decide_eq_true h]
    obtain ⟨R, hR⟩ : ∃ R, ((byts s).all fun c => signN c.toNat) = R := ⟨_, rfl⟩
    rw [hR]
    have HR := Lib.hid hR
    clear hR
    go_enter Try.func54, Try.ntmps54
    go_wp2
    go_loopg [3] s.size (fun g v wx => w = wx ∧ ∃ i : Nat, i + g = s.size ∧ v = .int .i64 i ∧ ((byts s).drop i).all (fun c => signN c.toNat) = R)
    case atStart => exact ⟨rfl, 0, by omega, rfl, HR.out⟩
    case round =>
      obtain ⟨rfl, i, hig, rfl, hinv⟩ := hrel
      have HI := Lib.hid hinv
      clear hinv HR
      cases gk with
      | zero =>
        have d1 : decide ((i : Int) < s.size) = false := by simp; omega
        have HE := Lib.hid (show R = true by rw [← HI.out, byts_end (by omega)]; rfl)
        go_wp2
        go_ret
        exact ⟨by rw [HE.out]; rfl, rfl⟩
      | succ g =>
        have hiz : (i : Int) < (s.size : Int) := by omega
        have hin : i < s.size := by omega
        have d1 : decide ((i : Int) < s.size) = true := decide_eq_true hiz
        obtain ⟨x, hx⟩ : ∃ x : UInt8, s[i]'(by omega) = x := ⟨_, rfl⟩
        have hx8 := x.toNat_lt
        have HX := Lib.hid hx
        cases hp : signN x.toNat with
        | true =>
          have Hp := Lib.hid hp
          clear hp
          go_wp2_with (go_at_call 81; refine (rsign_ok x.toNat hx8).mono ?_; rintro e w1 ⟨rfl, rfl⟩; rw [Hp.out])
          go_roundg g
          case measure => omega
          case rel => exact ⟨rfl, i + 1, by omega, by go_num, by rw [← HI.out, byts_drop hin, HX.out, List.all_cons, Hp.out, Bool.true_and]⟩
        | false =>
          have Hp := Lib.hid hp
          have HE := Lib.hid (show R = false by rw [← HI.out, byts_drop hin, HX.out, List.all_cons, hp, Bool.false_and])
          clear hp
          go_wp2_with (go_at_call 81; refine (rsign_ok x.toNat hx8).mono ?_; rintro e w1 ⟨rfl, rfl⟩; rw [Hp.out])
          go_ret
          exact ⟨by rw [HE.out]; rfl, rfl⟩
  · have d0 : decide ((s.size : Int) > 100) = true := decide_eq_true (by omega)
    have d0' : decide ((100 : Int) < s.size) = true := d0
    rw [decide_eq_false h]
    have HE := Lib.hid (show (((byts s).all fun c => signN c.toNat) && (!false && false)) = false by simp)
    rw [HE.out]
    go_enter Try.func54, Try.ntmps54
    go_wp2
    go_ret
    exact ⟨rfl, rfl⟩
end Go.Proofs.Ytephhendkmhggaa

/- The reference's signs, Plain, Quote. -/
namespace Go.Proofs.Ytephhendkmhggaa
open Go.RowKit

def signsB (l : List UInt8) : Bool := (l.all fun c => signN c.toNat) && (!l.isEmpty && !digitN (headB l))
set_option maxHeartbeats 1000000 in
theorem rsigns_ok (s : ByteArray) (w : World) (hs : s.size ≤ 1000000) : Calls Try.prog 91 #[.string s] w fun e w' => e = .returned (.bool (signsB (byts s))) ∧ w = w' := by
  obtain ⟨R, hR⟩ : ∃ R, ((byts s).all fun c => signN c.toNat) = R := ⟨_, rfl⟩
  obtain ⟨Q, hQ⟩ : ∃ Q, signsB (byts s) = Q := ⟨_, rfl⟩
  rw [hQ]
  unfold signsB at hQ
  rw [hR] at hQ
  have HR := Lib.hid hR
  have HQ := Lib.hid hQ
  clear hR hQ
  go_enter Try.func91, Try.ntmps91
  go_wp2
  go_loopg [3] s.size (fun g v wx => w = wx ∧ ∃ i : Nat, i + g = s.size ∧ v = .int .i64 i ∧ ((byts s).drop i).all (fun c => signN c.toNat) = R)
  case atStart => exact ⟨rfl, 0, by omega, rfl, HR.out⟩
  case round =>
    obtain ⟨rfl, i, hig, rfl, hinv⟩ := hrel
    have HI := Lib.hid hinv
    clear hinv HR
    cases gk with
    | zero =>
      have d1 : decide ((i : Int) < s.size) = false := by simp; omega
      have hRt : R = true := by rw [← HI.out, byts_end (by omega)]; rfl
      rw [hRt, Bool.true_and] at HQ
      clear hRt HI
      by_cases h0 : byts s = []
      · have b1 : (s.toList != []) = false := by rw [Lib.toList_data]; show (byts s != []) = false; rw [h0]; rfl
        have b2 : s.toList.isEmpty = true := by rw [Lib.toList_data]; exact List.isEmpty_iff.2 h0
        have HE := Lib.hid (show Q = false by rw [← HQ.out, h0]; rfl)
        clear h0 HQ
        go_wp2
        go_ret
        exact ⟨by rw [HE.out]; rfl, rfl⟩
      · have b1 : (s.toList != []) = true := by rw [Lib.toList_data]; exact bne_iff_ne.2 h0
        have b2 : s.toList.isEmpty = false := by rw [Lib.toList_data]; exact List.isEmpty_eq_false_iff.2 h0
        have b3 : (byts s).isEmpty = false := List.isEmpty_eq_false_iff.2 h0
        have h00 : 0 < s.size := by rw [← byts_len]; exact List.length_pos_iff.2 h0
        have h0z : (0 : Int) < s.size := by omega
        have hd : headB (byts s) = (s[0]'h00).toNat := by
          have h3 := byts_drop h00
          rw [List.drop_zero] at h3
          rw [h3]
          rfl
        rw [b3, hd] at HQ
        obtain ⟨x, hx⟩ : ∃ x : UInt8, s[0]'h00 = x := ⟨_, rfl⟩
        rw [hx] at HQ
        cases hp : digitN x.toNat with
        | true =>
          have HE := Lib.hid (show Q = false by rw [← HQ.out, hp]; rfl)
          have Hp := Lib.hid hp
          clear h0 HQ hd hp b3
          go_wp2_with (go_at_call 65; refine (rdigit_ok x.toNat).mono ?_; rintro e w1 ⟨rfl, rfl⟩; rw [Hp.out])
          go_ret
          exact ⟨by rw [HE.out]; rfl, rfl⟩
        | false =>
          have HE := Lib.hid (show Q = true by rw [← HQ.out, hp]; rfl)
          have Hp := Lib.hid hp
          clear h0 HQ hd hp b3
          go_wp2_with (go_at_call 65; refine (rdigit_ok x.toNat).mono ?_; rintro e w1 ⟨rfl, rfl⟩; rw [Hp.out])
          go_ret
          exact ⟨by rw [HE.out]; rfl, rfl⟩
    | succ g =>
      have hiz : (i : Int) < (s.size : Int) := by omega
      have hin : i < s.size := by omega
      have d1 : decide ((i : Int) < s.size) = true := decide_eq_true hiz
      obtain ⟨x, hx⟩ : ∃ x : UInt8, s[i]'(by omega) = x := ⟨_, rfl⟩
      have hx8 := x.toNat_lt
      have HX := Lib.hid hx
      cases hp : signN x.toNat with
      | true =>
        have Hp := Lib.hid hp
        clear hp
        go_wp2_with (go_at_call 81; refine (rsign_ok x.toNat hx8).mono ?_; rintro e w1 ⟨rfl, rfl⟩; rw [Hp.out])
        go_roundg g
        case measure => omega
        case rel => exact ⟨rfl, i + 1, by omega, by go_num, by rw [← HI.out, byts_drop hin, HX.out, List.all_cons, Hp.out, Bool.true_and]⟩
      | false =>
        have Hp := Lib.hid hp
        have hRf : R = false := by rw [← HI.out, byts_drop hin, HX.out, List.all_cons, hp, Bool.false_and]
        have HE := Lib.hid (show Q = false by rw [← HQ.out, hRf, Bool.false_and])
        clear hp hRf
        go_wp2_with (go_at_call 81; refine (rsign_ok x.toNat hx8).mono ?_; rintro e w1 ⟨rfl, rfl⟩; rw [Hp.out])
        go_ret
        exact ⟨by rw [HE.out]; rfl, rfl⟩

theorem sign_inside : ∀ x : Fin 256, signN x.val = true → insideN x.val = true := by decide +kernel
theorem plainL_eq (l : List UInt8) : plainL l = (mayL l && (signsB l && !reservedL l)) := by
  unfold plainL mayL signsB
  cases hs : l.all fun c => signN c.toNat with
  | true =>
    have hi : (l.all fun c => insideN c.toNat) = true := List.all_eq_true.2 fun c hc => sign_inside ⟨c.toNat, c.toNat_lt⟩ (List.all_eq_true.1 hs c hc)
    rw [hi]
    cases l.isEmpty <;> cases decide (l.length ≤ 100) <;> cases digitN (headB l) <;> cases reservedL l <;> rfl
  | false => cases l.isEmpty <;> cases decide (l.length ≤ 100) <;> simp
set_option maxHeartbeats 1000000 in
theorem rplain_ok (s : ByteArray) (w : World) (hs : s.size ≤ 1000000) : Calls Try.prog 71 #[.string s] w fun e w' => e = .returned (.bool (plainL (byts s))) ∧ w = w' := by
  rw [plainL_eq]
  have HM := Lib.hid (fun w => rmay_ok s w hs)
  have HS := Lib.hid (fun w => rsigns_ok s w hs)
  have HV := Lib.hid (fun w => rreserved_ok s w)
  obtain ⟨m, hm⟩ : ∃ m, mayL (byts s) = m := ⟨_, rfl⟩
  obtain ⟨g, hg⟩ : ∃ g, signsB (byts s) = g := ⟨_, rfl⟩
  obtain ⟨v, hv⟩ : ∃ v, reservedL (byts s) = v := ⟨_, rfl⟩
  rw [hm] at HM ⊢
  rw [hg] at HS ⊢
  rw [hv] at HV ⊢
  clear hm hg hv
  cases m with
  | false =>
    go_enter Try.func71, Try.ntmps71
    go_wp2_with (go_at_call 52; refine (HM.out _).mono ?_; rintro e w1 ⟨rfl, rfl⟩)
    go_ret
    exact ⟨rfl, rfl⟩
  | true =>
    cases g with
    | false =>
      go_enter Try.func71, Try.ntmps71
      go_wp2_with (first | (go_at_call 52; refine (HM.out _).mono ?_; rintro e w1 ⟨rfl, rfl⟩) | (go_at_call 91; refine (HS.out _).mono ?_; rintro e w1 ⟨rfl, rfl⟩))
      go_ret
      exact ⟨rfl, rfl⟩
    | true =>
      go_enter Try.func71, Try.ntmps71
      go_wp2_with (first | (go_at_call 52; refine (HM.out _).mono ?_; rintro e w1 ⟨rfl, rfl⟩) | (go_at_call 91; refine (HS.out _).mono ?_; rintro e w1 ⟨rfl, rfl⟩) | (go_at_call 72; refine (HV.out _).mono ?_; rintro e w1 ⟨rfl, rfl⟩))
      go_ret
      exact ⟨by cases v <;> rfl, rfl⟩
theorem rquote_ok (s : ByteArray) (w : World) (hs : s.size ≤ 1000) :
    Calls Try.prog 47 #[.string s] w fun e w' => (∃ q, e = .returned (.string q) ∧ byts q = quoteL (byts s)) ∧ w = w' := by
  unfold quoteL
  generalize hp : plainL (byts s) = bp
  generalize hr : reservedL (byts s) = br
  have Hp := Lib.hid hp
  have Hr := Lib.hid hr
  clear hp hr
  cases bp with
  | true =>
    go_enter Try.func47, Try.ntmps47
    go_wp2_with (go_at_call 71; refine (rplain_ok s _ (by omega)).mono ?_; rintro e w1 ⟨rfl, rfl⟩; rw [Hp.out])
    go_ret
    exact ⟨⟨s, rfl, rfl⟩, rfl⟩
  | false =>
    cases br with
    | true =>
      go_enter Try.func47, Try.ntmps47
      go_wp2_with (first | (go_at_call 71; refine (rplain_ok s _ (by omega)).mono ?_; rintro e w1 ⟨rfl, rfl⟩; rw [Hp.out]) | (go_at_call 72; refine (rreserved_ok s _).mono ?_; rintro e w1 ⟨rfl, rfl⟩; rw [Hr.out]))
      go_ret
      exact ⟨⟨s, rfl, rfl⟩, rfl⟩
    | false =>
      go_enter Try.func47, Try.ntmps47
      go_wp2_with (first | (go_at_call 71; refine (rplain_ok s _ (by omega)).mono ?_; rintro e w1 ⟨rfl, rfl⟩; rw [Hp.out]) | (go_at_call 72; refine (rreserved_ok s _).mono ?_; rintro e w1 ⟨rfl, rfl⟩; rw [Hr.out]))
      go_ret
      exact ⟨⟨_, rfl, by simp [byts]⟩, rfl⟩
end Go.Proofs.Ytephhendkmhggaa

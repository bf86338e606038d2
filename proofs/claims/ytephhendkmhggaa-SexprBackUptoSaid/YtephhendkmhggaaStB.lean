/- May's parts: keywords, names. -/
import Derived.Test.YtephhendkmhggaaAllA
import Derived.Laws.IdiomStrings
namespace Go.Proofs.Ytephhendkmhggaa
open Go.RowKit

theorem kwpred_ok {w : World} (n : Nat) (hn : n < 256) : Calls Try.prog 76 #[.int .u8 n] w fun e w' => e = .returned (.bool (!signN n)) ∧ w = w' := by
  go_enter Try.func76, Try.ntmps76
  go_wp2_with (go_at_call 77; refine (sign_ok n hn).mono ?_; rintro e w1 ⟨rfl, rfl⟩)
  go_ret
  exact ⟨rfl, rfl⟩

/-- A string's bytes as they lie in a row. -/
def BytesAt (w : World) (b : Nat) (s : ByteArray) : Prop := ∀ j (h : j < s.size), w.cell? ⟨b, j, none⟩ = some (.int .u8 (s[j]'h).toNat)
theorem conv_at (w : World) (s : ByteArray) : ∃ cap W, (convert 9 49 (.string s)).run Try.prog w = .ok (.slice (some ⟨w.heap.size, 0, none⟩) s.size cap) W ∧ BytesAt W w.heap.size s ∧ Below w.heap.size w W := by
  have h := run_bytes_of_string (P := Try.prog) w 9 49 5 s Try.underlying9 Try.underlying49 Try.underlying5
  refine ⟨_, _, h, fun j hj => ?_, ?_⟩
  · have h1 := World.cell?_alloc_mark w.drew (bytesRow s (grownCap w s.size 0 5)) 5 ((bytesRow s (grownCap w s.size 0 5)).size, (bytesRow s (grownCap w s.size 0 5)).size + 1) j
    exact h1.trans (bytesRow_at s _ j hj)
  · have : Below w.heap.size w w.drew := (Below.refl _ w).drew
    exact this.alloc (Nat.le_refl _) _

set_option maxHeartbeats 1000000 in
theorem idxb_ok (s : ByteArray) (hs : s.size < 9223372036854775807) (w : World) (b cap : Nat) (hb : BytesAt w b s) :
    Calls Try.prog 93 #[.slice (some ⟨b, 0, none⟩) s.size cap, .func (.func 76) #[] #[]] w fun e w' => (∃ r : Int, e = .returned (.int .i64 r) ∧ decide (r ≥ 0) = !((byts s).all fun c => signN c.toNat)) ∧ w = w' := by
  go_enter Try.func93, Try.ntmps93
  go_wp2
  go_loopg [8] s.size (fun g v wx => w = wx ∧ ∃ i : Nat, i + g = s.size ∧ v = .int .i64 i ∧ ((byts s).drop i).all (fun c => signN c.toNat) = (byts s).all fun c => signN c.toNat)
  case atStart => exact ⟨rfl, 0, by omega, rfl, rfl⟩
  case round =>
    obtain ⟨rfl, i, hig, rfl, hinv⟩ := hrel
    have HI := Lib.hid hinv
    have HB := Lib.hid hb
    clear hinv hb
    cases gk with
    | zero =>
      have d1 : decide ((i : Int) < s.size) = false := by simp; omega
      go_wp2
      go_ret
      refine ⟨⟨_, rfl, ?_⟩, rfl⟩
      rw [← HI.out, byts_end (by omega)]
      rfl
    | succ g =>
      have hiz : (i : Int) < (s.size : Int) := by omega
      have hin : i < s.size := by omega
      have d1 : decide ((i : Int) < s.size) = true := decide_eq_true hiz
      have hx := HB.out i hin
      obtain ⟨x, hxx⟩ : ∃ x : UInt8, s[i]'(by omega) = x := ⟨_, rfl⟩
      rw [hxx] at hx
      have hx8 := x.toNat_lt
      have HX := Lib.hid hxx
      clear hxx
      cases hp : signN x.toNat with
      | true =>
        have Hp := Lib.hid hp
        clear hp
        go_wp2_with (go_at_call 76; refine (kwpred_ok x.toNat hx8).mono ?_; rintro e w1 ⟨rfl, rfl⟩; rw [Hp.out])
        go_roundg g
        case measure => omega
        case rel => exact ⟨rfl, i + 1, by omega, by go_num, by rw [← HI.out, byts_drop hin, HX.out, List.all_cons, Hp.out, Bool.true_and]⟩
      | false =>
        have Hp := Lib.hid hp
        clear hp
        go_wp2_with (go_at_call 76; refine (kwpred_ok x.toNat hx8).mono ?_; rintro e w1 ⟨rfl, rfl⟩; rw [Hp.out])
        go_ret
        refine ⟨⟨_, rfl, ?_⟩, rfl⟩
        rw [← HI.out, byts_drop hin, HX.out, List.all_cons, Hp.out, Bool.false_and]
        exact decide_eq_true (by omega)
theorem contb_ok (s : ByteArray) (hs : s.size < 9223372036854775807) (w : World) (b cap : Nat) (hb : BytesAt w b s) :
    Calls Try.prog 75 #[.slice (some ⟨b, 0, none⟩) s.size cap, .func (.func 76) #[] #[]] w fun e w' => e = .returned (.bool (!((byts s).all fun c => signN c.toNat))) ∧ w = w' := by
  obtain ⟨bb, hbb⟩ : ∃ bb, (!((byts s).all fun c => signN c.toNat)) = bb := ⟨_, rfl⟩
  have HI := Lib.hid (idxb_ok s hs w b cap hb)
  rw [hbb] at HI ⊢
  clear hb hbb
  go_enter Try.func75, Try.ntmps75
  go_wp2_with (go_at_call 93; refine HI.out.mono ?_; rintro e w1 ⟨⟨r, rfl, hr⟩, rfl⟩)
  go_ret
  exact ⟨by first | rfl | rw [← hr], rfl⟩

/-- May a name be? -/
def mayL (t : List UInt8) : Bool := decide (t.length ≤ 100) && t.all fun c => insideN c.toNat
theorem lexmay_ok (s : ByteArray) (w : World) (hs : s.size ≤ 9223372036854775807) : Calls Try.prog 73 #[.string s] w fun e w' => e = .returned (.bool (mayL (byts s))) ∧ w = w' := by
  unfold mayL
  rw [byts_len]
  obtain ⟨bb, hbb⟩ : ∃ bb, ((byts s).all fun c => insideN c.toNat) = bb := ⟨_, rfl⟩
  have HI := Lib.hid (all_inside s w hs)
  rw [hbb] at HI ⊢
  clear hbb
  by_cases h : s.size ≤ 100
  · have d1 : decide ((s.size : Int) ≤ 100) = true := decide_eq_true (by omega)
    rw [decide_eq_true h]
    go_enter Try.func73, Try.ntmps73
    go_wp2_with (go_at_call 83; refine HI.out.mono ?_; rintro e w1 ⟨rfl, rfl⟩)
    go_ret
    exact ⟨by cases bb <;> rfl, rfl⟩
  · have d1 : decide ((s.size : Int) ≤ 100) = false := decide_eq_false (by omega)
    rw [decide_eq_false h]
    go_enter Try.func73, Try.ntmps73
    go_wp2
    go_ret
    exact ⟨rfl, rfl⟩
end Go.Proofs.Ytephhendkmhggaa

/- Numerals. -/
namespace Go.Proofs.Ytephhendkmhggaa
open Go.RowKit

/-- Is a text a numeral, of whatever length? -/
def numL (t : List UInt8) : Bool := (!t.isEmpty) && (!(decide (1 < t.length) && headB t == 48)) && t.all fun c => digitN c.toNat

set_option maxHeartbeats 1000000 in
set_option maxRecDepth 100000 in
theorem put_ok (w : World) (bn bo : Nat) (n d : Int) (o : Bool) (hn : Blk w bn 3 #[.int .i64 n]) (ho : Blk w bo 4 #[.bool o]) (h0 : 0 ≤ n) (h1 : n ≤ 4611686018427387904) (g0 : 0 ≤ d) (g1 : d ≤ 9) (hne : bn ≠ bo) :
    Calls Try.prog 92 #[.int .i64 d, .pointer (some ⟨bn, 0, none⟩), .pointer (some ⟨bo, 0, none⟩)] w fun e w' => e = .returned (.tuple #[]) ∧ (∃ n' o', Blk w' bn 3 #[.int .i64 n'] ∧ Blk w' bo 4 #[.bool o'] ∧ 0 ≤ n' ∧ n' ≤ 4611686018427387904) ∧ Kept (fun i => i = bn ∨ i = bo) w w' := by
  have x0 := hn.cell 0
  have f0 := hn.frozen 0
  have y0 := ho.cell 0
  have f1 := ho.frozen 0
  simp only [List.getElem?_toArray, List.getElem?_cons_zero] at x0 y0
  have HN := Lib.hid hn
  have HO := Lib.hid ho
  clear hn ho
  go_enter Try.func92, Try.ntmps92
  go_wp2
  · refine bodyPost_ret (v := .tuple #[]) (by simp [results, Try.results92, go_sem]) rfl ⟨rfl, ⟨n, true, HN.out.far (p := ⟨bo, 0, none⟩) hne _, HO.out.set_ 0 (.bool true), h0, h1⟩, (Kept.refl _ w).setCell (p := ⟨bo, 0, none⟩) (.inl (.inr rfl)) _⟩
  · go_end0
    exact ⟨rfl, ⟨n * 10 + d, o, HN.out.set_ 0 (.int .i64 (n * 10 + d)), HO.out.far (p := ⟨bn, 0, none⟩) hne.symm _, by omega, by omega⟩, (Kept.refl _ w).setCell (p := ⟨bn, 0, none⟩) (.inl (.inl rfl)) _⟩
theorem and15 : ∀ x : Fin 256, digitN x.val = true → ∃ d : Fin 10, bits .and .u8 (x.val : Int) 15 = (d.val : Int) := by decide +kernel

set_option maxHeartbeats 1000000 in
set_option maxRecDepth 100000 in
theorem parse_loop (s : ByteArray) (w : World) (hs : s.size < 9223372036854775807) (hne : byts s ≠ []) (hz : (decide (1 < s.size) && headB (byts s) == 48) = false) :
    Calls Try.prog 74 #[.string s] w fun e w' => (∃ n c, e = .returned (.tuple #[.int .i64 n, .int .i64 c]) ∧ (c == 20) = !((byts s).all fun c => digitN c.toNat)) ∧ Below w.heap.size w w' := by
  obtain ⟨cap, W, hc, hB, hb⟩ := conv_at ((w.alloc (.cells #[.int .i64 0] 3)).alloc (.cells #[.bool false] 4)) s
  have h0 : 0 < s.size := by
    rw [← byts_len]
    exact List.length_pos_iff.2 hne
  have h0z : (0 : Int) < s.size := by omega
  have b1 : (s.toList == []) = false := beq_eq_false_iff_ne.2 (by rw [Lib.toList_data]; exact hne)
  have b2 : s.toList.isEmpty = false := by
    rw [Lib.toList_data]
    exact List.isEmpty_eq_false_iff.2 hne
  have hbn0 : Blk ((w.alloc (.cells #[.int .i64 0] 3)).alloc (.cells #[.bool false] 4)) w.heap.size 3 #[.int .i64 0] := (Blk.new w _ _).alloc _
  have hbo0 : Blk ((w.alloc (.cells #[.int .i64 0] 3)).alloc (.cells #[.bool false] 4)) (w.heap.size + 1) 4 #[.bool false] := Blk.new_at (by simp) _ _
  have hbn := hbn0.below hb hbn0.lt
  have hbo := hbo0.below hb hbo0.lt
  have hBw : Below w.heap.size w W := (((Below.refl _ w).alloc (Nat.le_refl _) _).alloc (by simp) _).trans (hb.mono (by simp; omega))
  have hszW : w.heap.size + 2 ≤ W.heap.size := by simpa using hb.size
  have hd : headB (byts s) = (s[0]'h0).toNat := by
    have h3 := byts_drop h0
    rw [List.drop_zero] at h3
    rw [h3]
    rfl
  have HH := Lib.hid hd
  have HW := Lib.hid hBw
  have HBY := Lib.hid hB
  have HN := Lib.hid hbn
  have HO := Lib.hid hbo
  have HS := Lib.hid hszW
  obtain ⟨x0, hx0⟩ : ∃ x0 : UInt8, s[0]'h0 = x0 := ⟨_, rfl⟩
  rw [hd, hx0] at hz
  clear hbn0 hbo0 hbn hbo hBw hB hb hd hszW
  cases hsz : decide (1 < s.size) with
  | true =>
    have b3 : decide ((1 : Int) < s.size) = true := decide_eq_true (by have := of_decide_eq_true hsz; omega)
    rw [hsz, Bool.true_and] at hz
    have b4 : ((x0.toNat : Int) == 48) = false := beq_eq_false_iff_ne.2 (by have := beq_eq_false_iff_ne.1 hz; omega)
    clear hz hsz
    go_enter Try.func74, Try.ntmps74
    go_wp2
    go_loopg [25] s.size (fun g v wx => ∃ (i : Nat) (n : Int) (o : Bool), i + g = s.size ∧ v = .int .i64 i ∧ Blk wx w.heap.size 3 #[.int .i64 n] ∧ Blk wx (w.heap.size + 1) 4 #[.bool o] ∧ 0 ≤ n ∧ n ≤ 4611686018427387904 ∧ Kept (fun i => i = w.heap.size ∨ i = w.heap.size + 1) W wx ∧ ((byts s).drop i).all (fun c => digitN c.toNat) = (byts s).all fun c => digitN c.toNat)
    case atStart => exact ⟨0, 0, false, by omega, rfl, HN.out, HO.out, by decide, by decide, Kept.refl _ _, rfl⟩
    case round =>
      obtain ⟨i, n, o, hig, rfl, hN, hO, hn0, hn1, hK, hinv⟩ := hrel
      have HI := Lib.hid hinv
      have HK := Lib.hid hK
      have HN2 := Lib.hid hN
      have HO2 := Lib.hid hO
      have p0 := hN.cell 0
      have p1 := hO.cell 0
      simp only [List.getElem?_toArray, List.getElem?_cons_zero] at p0 p1
      have HC := Lib.hid hc
      clear hinv hK hN hO hc
      cases gk with
      | zero =>
        have d1 : decide ((i : Int) < s.size) = false := by simp; omega
        have HE := Lib.hid (show (byts s).all (fun c => digitN c.toNat) = true by rw [← HI.out, byts_end (by omega)]; rfl)
        have hbw := Lib.hid (HW.out.trans (HK.out.below (B := w.heap.size) (Nat.le_trans (by omega) HS.out) (fun i hi => by omega)))
        cases o with
        | true =>
          go_wp2
          refine bodyPost_ret (v := .tuple #[.int .i64 0, .int .i64 10]) (by simp [results, Try.results74, go_sem]) rfl ⟨⟨_, _, rfl, ?_⟩, hbw.out⟩
          rw [HE.out]; rfl
        | false =>
          go_wp2
          refine bodyPost_ret (v := .tuple #[.int .i64 n, .int .i64 0]) (by simp [results, Try.results74, go_sem]) rfl ⟨⟨_, _, rfl, ?_⟩, hbw.out⟩
          rw [HE.out]; rfl
      | succ g =>
        have hiz : (i : Int) < (s.size : Int) := by omega
        have hin : i < s.size := by omega
        have d1 : decide ((i : Int) < s.size) = true := decide_eq_true hiz
        obtain ⟨x, hx⟩ : ∃ x : UInt8, s[i]'(by omega) = x := ⟨_, rfl⟩
        have hx8 := x.toNat_lt
        have HX := Lib.hid hx
        have hcell : wr.cell? ⟨w.heap.size + 1 + 1, i, none⟩ = some (.int .u8 x.toNat) := by
          have h1 := HBY.out i hin
          rw [hx] at h1
          have h2 : wr.heap[w.heap.size + 1 + 1]? = W.heap[w.heap.size + 1 + 1]? := HK.out.block _ (by
            have := World.block_lt_of_cell? _ _ h1
            simpa using this) (by omega)
          have h3 : W.cell? ⟨w.heap.size + 1 + 1, i, none⟩ = some (.int .u8 x.toNat) := by simpa using h1
          unfold World.cell? at h3 ⊢
          rw [h2]
          exact h3
        clear hx
        cases hp : digitN x.toNat with
        | true =>
          have hp2 : 48 ≤ x.toNat ∧ x.toNat < 58 := of_decide_eq_true hp
          have e1 : decide ((x.toNat : Int) < 48) = false := decide_eq_false (by omega)
          have e2 : decide ((x.toNat : Int) > 57) = false := decide_eq_false (by omega)
          have e3 : decide ((57 : Int) < x.toNat) = false := e2
          obtain ⟨d, hd⟩ := and15 ⟨x.toNat, hx8⟩ hp
          have hd : bits .and .u8 (x.toNat : Int) 15 = (d.val : Int) := hd
          have hd9 := d.isLt
          have Hp := Lib.hid hp
          clear hp hp2
          go_wp2_with (go_at_call 92; refine (put_ok _ w.heap.size (w.heap.size + 1) n d.val o HN2.out HO2.out hn0 hn1 (by omega) (by omega) (by omega)).mono ?_; rintro e w1 ⟨rfl, ⟨n2, o2, hN3, hO3, hn3, hn4⟩, hk3⟩)
          go_roundg g
          case measure => omega
          case rel => exact ⟨i + 1, n2, o2, by omega, by go_num, hN3, hO3, hn3, hn4, HK.out.trans hk3, by rw [← HI.out, byts_drop hin, HX.out, List.all_cons, Hp.out, Bool.true_and]⟩
        | false =>
          have hbw := Lib.hid (HW.out.trans (HK.out.below (B := w.heap.size) (Nat.le_trans (by omega) HS.out) (fun i hi => by omega)))
          have HE := Lib.hid (show (byts s).all (fun c => digitN c.toNat) = false by rw [← HI.out, byts_drop hin, HX.out, List.all_cons, hp, Bool.false_and])
          have hp2 : ¬ (48 ≤ x.toNat ∧ x.toNat < 58) := of_decide_eq_false hp
          clear hp
          by_cases h48 : x.toNat < 48
          · have e1 : decide ((x.toNat : Int) < 48) = true := decide_eq_true (by omega)
            go_wp2
            refine bodyPost_ret (v := .tuple #[.int .i64 0, .int .i64 20]) (by simp [results, Try.results74, go_sem]) rfl ⟨⟨_, _, rfl, ?_⟩, hbw.out⟩
            rw [HE.out]; rfl
          · have e1 : decide ((x.toNat : Int) < 48) = false := decide_eq_false (by omega)
            have e2 : decide ((x.toNat : Int) > 57) = true := decide_eq_true (by omega)
            have e3 : decide ((57 : Int) < x.toNat) = true := e2
            go_wp2
            refine bodyPost_ret (v := .tuple #[.int .i64 0, .int .i64 20]) (by simp [results, Try.results74, go_sem]) rfl ⟨⟨_, _, rfl, ?_⟩, hbw.out⟩
            rw [HE.out]; rfl
  | false =>
    have b3 : decide ((1 : Int) < s.size) = false := decide_eq_false (by have := of_decide_eq_false hsz; omega)
    clear hz hsz
    go_enter Try.func74, Try.ntmps74
    go_wp2
    go_loopg [25] s.size (fun g v wx => ∃ (i : Nat) (n : Int) (o : Bool), i + g = s.size ∧ v = .int .i64 i ∧ Blk wx w.heap.size 3 #[.int .i64 n] ∧ Blk wx (w.heap.size + 1) 4 #[.bool o] ∧ 0 ≤ n ∧ n ≤ 4611686018427387904 ∧ Kept (fun i => i = w.heap.size ∨ i = w.heap.size + 1) W wx ∧ ((byts s).drop i).all (fun c => digitN c.toNat) = (byts s).all fun c => digitN c.toNat)
    case atStart => exact ⟨0, 0, false, by omega, rfl, HN.out, HO.out, by decide, by decide, Kept.refl _ _, rfl⟩
    case round =>
      obtain ⟨i, n, o, hig, rfl, hN, hO, hn0, hn1, hK, hinv⟩ := hrel
      have HI := Lib.hid hinv
      have HK := Lib.hid hK
      have HN2 := Lib.hid hN
      have HO2 := Lib.hid hO
      have p0 := hN.cell 0
      have p1 := hO.cell 0
      simp only [List.getElem?_toArray, List.getElem?_cons_zero] at p0 p1
      have HC := Lib.hid hc
      clear hinv hK hN hO hc
      cases gk with
      | zero =>
        have d1 : decide ((i : Int) < s.size) = false := by simp; omega
        have HE := Lib.hid (show (byts s).all (fun c => digitN c.toNat) = true by rw [← HI.out, byts_end (by omega)]; rfl)
        have hbw := Lib.hid (HW.out.trans (HK.out.below (B := w.heap.size) (Nat.le_trans (by omega) HS.out) (fun i hi => by omega)))
        cases o with
        | true =>
          go_wp2
          refine bodyPost_ret (v := .tuple #[.int .i64 0, .int .i64 10]) (by simp [results, Try.results74, go_sem]) rfl ⟨⟨_, _, rfl, ?_⟩, hbw.out⟩
          rw [HE.out]; rfl
        | false =>
          go_wp2
          refine bodyPost_ret (v := .tuple #[.int .i64 n, .int .i64 0]) (by simp [results, Try.results74, go_sem]) rfl ⟨⟨_, _, rfl, ?_⟩, hbw.out⟩
          rw [HE.out]; rfl
      | succ g =>
        have hiz : (i : Int) < (s.size : Int) := by omega
        have hin : i < s.size := by omega
        have d1 : decide ((i : Int) < s.size) = true := decide_eq_true hiz
        obtain ⟨x, hx⟩ : ∃ x : UInt8, s[i]'(by omega) = x := ⟨_, rfl⟩
        have hx8 := x.toNat_lt
        have HX := Lib.hid hx
        have hcell : wr.cell? ⟨w.heap.size + 1 + 1, i, none⟩ = some (.int .u8 x.toNat) := by
          have h1 := HBY.out i hin
          rw [hx] at h1
          have h2 : wr.heap[w.heap.size + 1 + 1]? = W.heap[w.heap.size + 1 + 1]? := HK.out.block _ (by
            have := World.block_lt_of_cell? _ _ h1
            simpa using this) (by omega)
          have h3 : W.cell? ⟨w.heap.size + 1 + 1, i, none⟩ = some (.int .u8 x.toNat) := by simpa using h1
          unfold World.cell? at h3 ⊢
          rw [h2]
          exact h3
        clear hx
        cases hp : digitN x.toNat with
        | true =>
          have hp2 : 48 ≤ x.toNat ∧ x.toNat < 58 := of_decide_eq_true hp
          have e1 : decide ((x.toNat : Int) < 48) = false := decide_eq_false (by omega)
          have e2 : decide ((x.toNat : Int) > 57) = false := decide_eq_false (by omega)
          have e3 : decide ((57 : Int) < x.toNat) = false := e2
          obtain ⟨d, hd⟩ := and15 ⟨x.toNat, hx8⟩ hp
          have hd : bits .and .u8 (x.toNat : Int) 15 = (d.val : Int) := hd
          have hd9 := d.isLt
          have Hp := Lib.hid hp
          clear hp hp2
          go_wp2_with (go_at_call 92; refine (put_ok _ w.heap.size (w.heap.size + 1) n d.val o HN2.out HO2.out hn0 hn1 (by omega) (by omega) (by omega)).mono ?_; rintro e w1 ⟨rfl, ⟨n2, o2, hN3, hO3, hn3, hn4⟩, hk3⟩)
          go_roundg g
          case measure => omega
          case rel => exact ⟨i + 1, n2, o2, by omega, by go_num, hN3, hO3, hn3, hn4, HK.out.trans hk3, by rw [← HI.out, byts_drop hin, HX.out, List.all_cons, Hp.out, Bool.true_and]⟩
        | false =>
          have hbw := Lib.hid (HW.out.trans (HK.out.below (B := w.heap.size) (Nat.le_trans (by omega) HS.out) (fun i hi => by omega)))
          have HE := Lib.hid (show (byts s).all (fun c => digitN c.toNat) = false by rw [← HI.out, byts_drop hin, HX.out, List.all_cons, hp, Bool.false_and])
          have hp2 : ¬ (48 ≤ x.toNat ∧ x.toNat < 58) := of_decide_eq_false hp
          clear hp
          by_cases h48 : x.toNat < 48
          · have e1 : decide ((x.toNat : Int) < 48) = true := decide_eq_true (by omega)
            go_wp2
            refine bodyPost_ret (v := .tuple #[.int .i64 0, .int .i64 20]) (by simp [results, Try.results74, go_sem]) rfl ⟨⟨_, _, rfl, ?_⟩, hbw.out⟩
            rw [HE.out]; rfl
          · have e1 : decide ((x.toNat : Int) < 48) = false := decide_eq_false (by omega)
            have e2 : decide ((x.toNat : Int) > 57) = true := decide_eq_true (by omega)
            have e3 : decide ((57 : Int) < x.toNat) = true := e2
            go_wp2
            refine bodyPost_ret (v := .tuple #[.int .i64 0, .int .i64 20]) (by simp [results, Try.results74, go_sem]) rfl ⟨⟨_, _, rfl, ?_⟩, hbw.out⟩
            rw [HE.out]; rfl
end Go.Proofs.Ytephhendkmhggaa

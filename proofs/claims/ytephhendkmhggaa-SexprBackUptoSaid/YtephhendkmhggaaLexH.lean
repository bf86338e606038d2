/- Skip. -/
import Derived.Test.YtephhendkmhggaaLexS
import Derived.Test.YtephhendkmhggaaShelf
import Derived.Deep.RegionHeld3
import Derived.StillTailTactics
namespace Go.Proofs.Ytephhendkmhggaa
open Go.RowKit

theorem extract_end (s : ByteArray) (i : Nat) : (s.extract i s.size).data.toList = (byts s).drop i := Lib.extract_to_end s i

set_option maxHeartbeats 1000000 in
theorem skip_ok (s : ByteArray) (a : Int) (w : World) (hs : s.size ≤ 1000000) :
    Calls Try.prog 27 #[.string s, .int .i64 a] w fun e w' => e = .returned (.int .i64 (fromI a s.size + sk false ((byts s).drop (fromI a s.size)) : Nat)) ∧ w = w' := by
  obtain ⟨b, hb⟩ : ∃ b : Nat, max 0 (min a (s.size : Int)) = (b : Int) := ⟨fromI a s.size, by unfold fromI; omega⟩
  have hfrom : fromI a s.size = b := by unfold fromI; omega
  rw [hfrom]
  have hbs : b ≤ s.size := by omega
  clear hfrom
  go_enter Try.func27, Try.ntmps27
  go_wp2
  go_loopw [1] (fun v wx => w = wx ∧ ∃ i : Nat, i ≤ s.size ∧ v = .int .i64 i ∧ i + sk false ((byts s).drop i) = b + sk false ((byts s).drop b)) (fun v _ => (s.size - intOf v).toNat)
  case atStart => exact ⟨rfl, b, hbs, rfl, rfl⟩
  case round =>
    obtain ⟨rfl, i, hi, rfl, hinv⟩ := hrel
    have HI := Lib.hid hinv
    clear hinv hb
    by_cases hin : i < s.size
    · have hiz : (i : Int) < (s.size : Int) := by omega
      have d1 : decide ((i : Int) < s.size) = true := decide_eq_true hiz
      obtain ⟨x, hx⟩ : ∃ x : UInt8, s[i]'(by omega) = x := ⟨_, rfl⟩
      have hdr := Lib.hid (byts_drop hin)
      by_cases h59 : x.toNat = 59
      · have d2 : ((x.toNat : Int) == 59) = true := by rw [h59]; rfl
        have hsk : sk true ((byts s).drop i) = sk false ((byts s).drop i) := by
          rw [hdr.out, hx]
          rw [sk_f, sk_c, if_pos h59, if_neg (by omega)]
        generalize hix : Lib.indexByte ((byts s).drop i) 10 = o
        have Hsk := Lib.hid hsk
        have Hix := Lib.hid hix
        have hge := Lib.indexByte_ge ((byts s).drop i) 10
        rw [hix] at hge
        clear hsk hix h59
        by_cases ho : o < 0
        · have d3 : decide (o < 0) = true := decide_eq_true ho
          go_wp2_with (go_at_call 41; refine (Try.strings_IndexByte _ _ _).mono ?_; rintro e w1 ⟨rfl, rfl⟩; rw [extract_end, show (10 : Int).toNat.toUInt8 = 10 from rfl, Hix.out])
          go_ret
          refine ⟨?_, rfl⟩
          rw [← HI.out, ← Hsk.out, sk_none _ (by rw [Hix.out]; omega), List.length_drop, byts_len, Nat.add_sub_cancel' hi]
          rfl
        · obtain ⟨p, rfl⟩ := Int.eq_ofNat_of_zero_le (by omega : 0 ≤ o)
          have d3 : decide ((p : Int) < 0) = false := decide_eq_false ho
          obtain ⟨h3, h4⟩ := sk_some _ p Hix.out
          rw [List.length_drop, byts_len] at h3
          have H4 := Lib.hid h4
          clear h4
          go_wp2_with (go_at_call 41; refine (Try.strings_IndexByte _ _ _).mono ?_; rintro e w1 ⟨rfl, rfl⟩; rw [extract_end, show (10 : Int).toNat.toUInt8 = 10 from rfl, Hix.out])
          go_roundw
          case rel => exact ⟨trivial, i + p + 1, by omega, by go_num, by rw [← HI.out, ← Hsk.out, H4.out, List.drop_drop]; rw [show i + (p + 1) = i + p + 1 by omega]; omega⟩
          case measure => simp only [intOf]; omega
      · have d2 : ((x.toNat : Int) == 59) = false := beq_eq_false_iff_ne.2 (by omega)
        cases hw : whiteN x.toNat with
        | true =>
          have hsk : sk false ((byts s).drop i) = 1 + sk false ((byts s).drop (i + 1)) := by
            rw [hdr.out, hx]
            rw [sk_f, if_neg h59, if_pos hw]
          have Hsk := Lib.hid hsk
          have Hw := Lib.hid hw
          clear hsk hw h59
          go_wp2_with (go_at_call 42; refine (white_ok x.toNat).mono ?_; rintro e w1 ⟨rfl, rfl⟩; rw [Hw.out])
          go_roundw
          case rel => exact ⟨trivial, i + 1, by omega, by go_num, by rw [← HI.out, Hsk.out]; omega⟩
          case measure => simp only [intOf]; omega
        | false =>
          have hsk : sk false ((byts s).drop i) = 0 := by
            rw [hdr.out, hx]
            rw [sk_f, if_neg h59, if_neg (by rw [hw]; decide)]
          have Hsk := Lib.hid hsk
          have Hw := Lib.hid hw
          clear hsk hw h59
          go_wp2_with (go_at_call 42; refine (white_ok x.toNat).mono ?_; rintro e w1 ⟨rfl, rfl⟩; rw [Hw.out])
          go_ret
          refine ⟨?_, rfl⟩
          rw [← HI.out, Hsk.out]
          rfl
    · have d1 : decide ((i : Int) < s.size) = false := decide_eq_false (by omega)
      go_wp2
      go_ret
      refine ⟨?_, rfl⟩
      rw [← HI.out, byts_end (by omega)]
      rfl
end Go.Proofs.Ytephhendkmhggaa

/- The readers of tokens. -/
namespace Go.Proofs.Ytephhendkmhggaa
open Go.RowKit

/-- A text and a place, as the code's struct. -/
def scanV (s : ByteArray) (p : Nat) : Value := .agg #[.string s, .int .i64 p]
/-- A token's struct. -/
def tokV (k : Int) (t : ByteArray) (a b : Int) : Value := .agg #[.int .i8 k, .string t, .int .i64 a, .int .i64 b]

/-- What a reader at place p hands back. -/
def Reads (p : Nat) (o : Option Raw) (e : Ending) : Prop :=
  ∃ (k : Int) (t : ByteArray) (a b : Int), e = .returned (.tuple #[.agg #[.int .i8 k, .string t, .int .i64 a, .int .i64 b], .bool o.isSome]) ∧ ∀ r, o = some r → k = r.k ∧ byts t = r.t ∧ a = p ∧ b = p + r.n

theorem signs_drop {s : ByteArray} {i : Nat} (h : i < s.size) : signs ((byts s).drop i) = if signN (s[i]'h).toNat then s[i]'h :: signs ((byts s).drop (i + 1)) else [] := by
  rw [byts_drop h, signs, List.takeWhile_cons]
  rfl
theorem signs_end {s : ByteArray} {i : Nat} (h : s.size ≤ i) : signs ((byts s).drop i) = [] := by rw [byts_end h]; rfl
theorem take_signs (l : List UInt8) : l.take (signs l).length = signs l := List.prefix_iff_eq_take.1 (List.takeWhile_prefix _) |>.symm

theorem run_ok (s : ByteArray) (p i0 : Nat) (w : World) (hs : s.size ≤ 1000000) (hi0 : i0 ≤ s.size) :
    Calls Try.prog 85 #[.agg #[.string s, .int .i64 p], .int .i64 i0] w fun e w' => (∃ r, e = .returned (.string r) ∧ byts r = signs ((byts s).drop i0)) ∧ Below w.heap.size w w' := by
  go_enter Try.func85, Try.ntmps85
  go_wp2
  have hB : Below w.heap.size w (w.alloc (.cells #[.string s, .int .i64 p] 78)) := (Below.refl _ _).alloc (Nat.le_refl _) _
  have hb : Blk (w.alloc (.cells #[.string s, .int .i64 p] 78)) w.heap.size 78 #[.string s, .int .i64 p] := Blk.new _ _ _
  have c0 := hb.cell 0
  simp only [List.getElem?_toArray, List.getElem?_cons_zero] at c0
  clear hb
  generalize w.alloc (.cells #[.string s, .int .i64 p] 78) = w1 at *
  go_loopw [5] (fun v wx => w1 = wx ∧ ∃ i : Nat, i ≤ s.size ∧ i0 ≤ i ∧ v = .int .i64 i ∧ i + (signs ((byts s).drop i)).length = i0 + (signs ((byts s).drop i0)).length) (fun v _ => (s.size - intOf v).toNat)
  case atStart => exact ⟨rfl, i0, hi0, Nat.le_refl _, rfl, rfl⟩
  case round =>
    obtain ⟨rfl, i, hi, hle, rfl, hinv⟩ := hrel
    have HI := Lib.hid hinv
    have HB := Lib.hid hB
    clear hinv hB
    by_cases hin : i < s.size
    · have hiz : (i : Int) < (s.size : Int) := by omega
      have d1 : decide ((i : Int) < s.size) = true := decide_eq_true hiz
      have hsg := Lib.hid (signs_drop hin)
      obtain ⟨x, hx⟩ : ∃ x : UInt8, s[i]'(by omega) = x := ⟨_, rfl⟩
      have hx8 := x.toNat_lt
      cases hp : signN x.toNat with
      | true =>
        have Hp := Lib.hid hp
        clear hp
        go_wp2_with (go_at_call 77; refine (sign_ok x.toNat hx8).mono ?_; rintro e w2 ⟨rfl, rfl⟩; rw [Hp.out])
        go_roundw
        case rel => exact ⟨trivial, i + 1, by omega, by omega, by go_num, by rw [← HI.out, hsg.out, hx, if_pos Hp.out, List.length_cons]; omega⟩
        case measure => simp only [intOf]; omega
      | false =>
        have Hp := Lib.hid hp
        clear hp
        have hn : signs ((byts s).drop i) = [] := by rw [hsg.out, hx, if_neg (by rw [Hp.out]; decide)]
        have HN := Lib.hid hn
        clear hn
        go_wp2_with (go_at_call 77; refine (sign_ok x.toNat hx8).mono ?_; rintro e w2 ⟨rfl, rfl⟩; rw [Hp.out])
        go_ret
        refine ⟨⟨_, rfl, ?_⟩, HB.out⟩
        rw [byts, Lib.extract_data]
        have h2 := HI.out
        rw [HN.out, List.length_nil, Nat.add_zero] at h2
        rw [h2, Nat.add_sub_cancel_left]
        exact take_signs _
    · have d1 : decide ((i : Int) < s.size) = false := decide_eq_false (by omega)
      have HN := Lib.hid (signs_end (s := s) (i := i) (by omega))
      go_wp2
      go_ret
      refine ⟨⟨_, rfl, ?_⟩, HB.out⟩
      rw [byts, Lib.extract_data]
      have h2 := HI.out
      rw [HN.out, List.length_nil, Nat.add_zero] at h2
      rw [h2, Nat.add_sub_cancel_left]
      exact take_signs _

theorem token_ok (s : ByteArray) (p : Nat) (k : Int) (t : ByteArray) (n : Int) (w : World) (hp : p ≤ 1000000) (hn : 0 ≤ n ∧ n ≤ 1000002) (_ht : t.size ≤ 1000000) :
    Calls Try.prog 82 #[.agg #[.string s, .int .i64 p], .int .i8 k, .string t, .int .i64 n] w fun e w' => e = .returned (.tuple #[.agg #[.int .i8 k, .string t, .int .i64 p, .int .i64 (p + n)], .bool (decide ((t.size : Int) ≤ 100))]) ∧ Below w.heap.size w w' := by
  go_enter Try.func82, Try.ntmps82
  go_wp2
  refine bodyPost_ret (v := .tuple #[.agg #[.int .i8 k, .string t, .int .i64 p, .int .i64 (p + n)], .bool (decide ((t.size : Int) ≤ 100))]) ?_ rfl ⟨rfl, ?_⟩
  · simp [results, Try.results82, go_sem]
    try omega
  · exact ((Below.refl _ _).alloc (Nat.le_refl _) _).alloc (by simp) _
end Go.Proofs.Ytephhendkmhggaa

/- The readers of tokens: brackets, names, keywords. -/
namespace Go.Proofs.Ytephhendkmhggaa
open Go.RowKit

theorem raw_some {k : Nat} {t : List UInt8} {n : Nat} : (raw k t n).isSome = decide (t.length ≤ 100) := by
  unfold raw
  split
  · rename_i h; simp [h]
  · rename_i h; simp; omega
theorem raw_eq {k : Nat} {t : List UInt8} {n : Nat} {r : Raw} (h : raw k t n = some r) : r = ⟨k, t, n⟩ := by
  unfold raw at h
  split at h
  · injection h with h; exact h.symm
  · cases h

theorem below_box {w w1 : World} (a b : Obj) (h : Below ((w.alloc a).alloc b).heap.size ((w.alloc a).alloc b) w1) : Below w.heap.size w w1 :=
  (((Below.refl _ w).alloc (Nat.le_refl _) a).alloc (by simp) b).trans (h.mono (by simp; omega))
theorem blk_box {w w1 : World} (a b : Obj) (t : TypeId) (cs : Array Value) (h : Below ((w.alloc a).alloc b).heap.size ((w.alloc a).alloc b) w1) (hb : b = .cells cs t) : Blk w1 (w.heap.size + 1) t cs := by
  subst hb
  refine Blk.below (w := (w.alloc a).alloc (.cells cs t)) ?_ h (by simp)
  have := Blk.new (w.alloc a) t cs
  rwa [World.size_alloc] at this
theorem blk_box0 {w w1 : World} (a b : Obj) (t : TypeId) (cs : Array Value) (h : Below ((w.alloc a).alloc b).heap.size ((w.alloc a).alloc b) w1) (ha : a = .cells cs t) : Blk w1 w.heap.size t cs := by
  subst ha
  exact Blk.below (w := (w.alloc (.cells cs t)).alloc b) ((Blk.new w t cs).alloc _) h (by simp; omega)

theorem cells4 {w : World} {g : Nat} {t : TypeId} {a b c d : Value} (h : Blk w g t #[a, b, c, d]) :
    (w.cell? ⟨g, 0, none⟩ = some a ∧ w.cell? ⟨g, 1, none⟩ = some b ∧ w.cell? ⟨g, 2, none⟩ = some c ∧ w.cell? ⟨g, 3, none⟩ = some d) ∧
    (w.frozen? ⟨g, 0, none⟩ = false ∧ w.frozen? ⟨g, 1, none⟩ = false ∧ w.frozen? ⟨g, 2, none⟩ = false ∧ w.frozen? ⟨g, 3, none⟩ = false) :=
  ⟨⟨h.cell 0, h.cell 1, h.cell 2, h.cell 3⟩, ⟨h.frozen 0, h.frozen 1, h.frozen 2, h.frozen 3⟩⟩
/-- A token's block written whole. -/
theorem put4 {w : World} {g : Nat} {t : TypeId} {a b c d : Value} (h : Blk w g t #[a, b, c, d]) (a' b' c' d' : Value) :
    Blk ((((w.setCell ⟨g, 0, none⟩ a').setCell ⟨g, 1, none⟩ b').setCell ⟨g, 2, none⟩ c').setCell ⟨g, 3, none⟩ d') g t #[a', b', c', d'] := by
  have := (((h.set_ 0 a').set_ 1 b').set_ 2 c').set_ 3 d'
  simpa using this
theorem below4 {B : Nat} {w w1 : World} {g : Nat} (h : Below B w w1) (hg : B ≤ g) (a' b' c' d' : Value) :
    Below B w ((((w1.setCell ⟨g, 0, none⟩ a').setCell ⟨g, 1, none⟩ b').setCell ⟨g, 2, none⟩ c').setCell ⟨g, 3, none⟩ d') :=
  (((h.setCell hg _).setCell hg _).setCell hg _).setCell hg _

theorem open_ok (s : ByteArray) (p : Nat) (w : World) (hp : p ≤ 1000000) :
    Calls Try.prog 55 #[.agg #[.string s, .int .i64 p]] w fun e w' => Reads p (raw 0 [] 1) e ∧ Below w.heap.size w w' := by
  go_enter Try.func55, Try.ntmps55
  go_wp2_with (go_at_call 82; refine (token_ok s p _ _ 1 _ hp (by omega) (by decide)).mono ?_; rintro e w1 ⟨rfl, hb1⟩; have hbk := blk_box _ _ _ _ hb1 rfl; obtain ⟨⟨c0, c1, c2, c3⟩, ⟨f0, f1, f2, f3⟩⟩ := cells4 hbk; have hbl := Lib.hid (below_box _ _ hb1); clear hb1)
  have hput := put4 hbk (.int .i8 0) (.string ⟨#[]⟩) (.int .i64 p) (.int .i64 (p + 1))
  have hbl2 := below4 hbl.out (Nat.le_succ _) (.int .i8 0) (.string ⟨#[]⟩) (.int .i64 p) (.int .i64 (p + 1))
  clear hbk hbl c0 c1 c2 c3 f0 f1 f2 f3
  generalize (((w1.setCell ⟨w.heap.size + 1, 0, none⟩ (.int .i8 0)).setCell ⟨w.heap.size + 1, 1, none⟩ (.string ⟨#[]⟩)).setCell ⟨w.heap.size + 1, 2, none⟩ (.int .i64 p)).setCell ⟨w.heap.size + 1, 3, none⟩ (.int .i64 (p + 1)) = w2 at *
  obtain ⟨⟨c0, c1, c2, c3⟩, -⟩ := cells4 hput
  refine bodyPost_ret (v := .tuple #[.agg #[.int .i8 0, .string ⟨#[]⟩, .int .i64 p, .int .i64 (p + 1)], .bool true]) ?_ rfl ⟨⟨0, ⟨#[]⟩, p, p + 1, rfl, ?_⟩, hbl2⟩
  · simp [results, Try.results55, go_sem, c0, c1, c2, c3]
  · intro r hr
    rw [raw_eq hr]
    exact ⟨rfl, rfl, rfl, rfl⟩

theorem close_ok (s : ByteArray) (p : Nat) (w : World) (hp : p ≤ 1000000) :
    Calls Try.prog 56 #[.agg #[.string s, .int .i64 p]] w fun e w' => Reads p (raw 1 [] 1) e ∧ Below w.heap.size w w' := by
  go_enter Try.func56, Try.ntmps56
  go_wp2_with (go_at_call 82; refine (token_ok s p _ _ 1 _ hp (by omega) (by decide)).mono ?_; rintro e w1 ⟨rfl, hb1⟩; have hbk := blk_box _ _ _ _ hb1 rfl; obtain ⟨⟨c0, c1, c2, c3⟩, ⟨f0, f1, f2, f3⟩⟩ := cells4 hbk; have hbl := Lib.hid (below_box _ _ hb1); clear hb1)
  have hput := put4 hbk (.int .i8 1) (.string ⟨#[]⟩) (.int .i64 p) (.int .i64 (p + 1))
  have hbl2 := below4 hbl.out (Nat.le_succ _) (.int .i8 1) (.string ⟨#[]⟩) (.int .i64 p) (.int .i64 (p + 1))
  clear hbk hbl c0 c1 c2 c3 f0 f1 f2 f3
  generalize (((w1.setCell ⟨w.heap.size + 1, 0, none⟩ (.int .i8 1)).setCell ⟨w.heap.size + 1, 1, none⟩ (.string ⟨#[]⟩)).setCell ⟨w.heap.size + 1, 2, none⟩ (.int .i64 p)).setCell ⟨w.heap.size + 1, 3, none⟩ (.int .i64 (p + 1)) = w2 at *
  obtain ⟨⟨c0, c1, c2, c3⟩, -⟩ := cells4 hput
  refine bodyPost_ret (v := .tuple #[.agg #[.int .i8 1, .string ⟨#[]⟩, .int .i64 p, .int .i64 (p + 1)], .bool true]) ?_ rfl ⟨⟨1, ⟨#[]⟩, p, p + 1, rfl, ?_⟩, hbl2⟩
  · simp [results, Try.results56, go_sem, c0, c1, c2, c3]
  · intro r hr
    rw [raw_eq hr]
    exact ⟨rfl, rfl, rfl, rfl⟩
end Go.Proofs.Ytephhendkmhggaa

/- The readers of tokens: names, keywords, none. -/
namespace Go.Proofs.Ytephhendkmhggaa
open Go.RowKit

theorem cells2 {w : World} {g : Nat} {t : TypeId} {a b : Value} (h : Blk w g t #[a, b]) : w.cell? ⟨g, 0, none⟩ = some a ∧ w.cell? ⟨g, 1, none⟩ = some b := ⟨h.cell 0, h.cell 1⟩

theorem none_ok (s : ByteArray) (p0 : Nat) (w : World) :
    Calls Try.prog 61 #[.agg #[.string s, .int .i64 p0]] w fun e w' => (∀ p, Reads p none e) ∧ Below w.heap.size w w' := by
  go_enter Try.func61, Try.ntmps61
  go_wp2
  refine bodyPost_ret (v := .tuple #[.agg #[.int .i8 0, .string ⟨#[]⟩, .int .i64 0, .int .i64 0], .bool false]) ?_ rfl ⟨fun p => ⟨0, ⟨#[]⟩, 0, 0, rfl, fun r hr => by cases hr⟩, ((Below.refl _ _).alloc (Nat.le_refl _) _).alloc (by simp) _⟩
  simp [results, Try.results61, go_sem]

theorem signs_size {s d : ByteArray} {p : Nat} (h : byts d = signs ((byts s).drop p)) (hs : s.size ≤ 1000000) : d.size ≤ 1000000 := by
  rw [← byts_len, h]
  have := signs_le ((byts s).drop p)
  rw [List.length_drop, byts_len] at this
  omega
theorem raw_dec {k : Nat} {d : ByteArray} {l : List UInt8} {n : Nat} (h : byts d = l) : (raw k l n).isSome = decide ((d.size : Int) ≤ 100) := by
  rw [raw_some, ← h, byts_len]
  exact decide_eq_decide.2 (by omega)

theorem name_ok (s : ByteArray) (p : Nat) (w : World) (hp : p ≤ s.size) (hs : s.size ≤ 1000000) :
    Calls Try.prog 60 #[.agg #[.string s, .int .i64 p]] w fun e w' => Reads p (tokName ((byts s).drop p)) e ∧ Below w.heap.size w w' := by
  have hp : p ≤ 1000000 := by omega
  go_enter Try.func60, Try.ntmps60
  go_wp2_with (first | (go_at_call 85; refine (run_ok s p (p) _ hs (by omega)).mono ?_; rintro e w1 ⟨⟨d, rfl, hd⟩, hb1⟩; have hd5 := signs_size hd hs; have Hd := Lib.hid hd;  have hbk := blk_box _ _ _ _ hb1 rfl; have hbx := blk_box0 _ _ _ _ hb1 rfl; have hlt := hbk.lt; obtain ⟨x0, x1⟩ := cells2 hbx; have Hbl := Lib.hid (below_box _ _ hb1); have Hbk := Lib.hid hbk; clear hb1 hbk hbx hd) | (go_at_call 82; refine (token_ok s p _ d (d.size) _ hp (by omega) hd5).mono ?_; rintro e w2 ⟨rfl, hb2⟩;  have hbk2 := Hbk.out.below hb2 hlt; obtain ⟨⟨c0, c1, c2, c3⟩, ⟨f0, f1, f2, f3⟩⟩ := cells4 hbk2; have Hbl2 := Lib.hid (Hbl.out.trans (hb2.mono Hbl.out.size)); have Hbk2 := Lib.hid hbk2; clear hb2 hbk2 x0 x1 Hbk Hbl))
  have hput := put4 Hbk2.out (.int .i8 2) (.string d) (.int .i64 p) (.int .i64 (p + d.size))
  have hbl2 := below4 Hbl2.out (Nat.le_succ _) (.int .i8 2) (.string d) (.int .i64 p) (.int .i64 (p + d.size))
  clear Hbk2 Hbl2 c0 c1 c2 c3 f0 f1 f2 f3
  generalize (((w2.setCell ⟨w.heap.size + 1, 0, none⟩ (.int .i8 2)).setCell ⟨w.heap.size + 1, 1, none⟩ (.string d)).setCell ⟨w.heap.size + 1, 2, none⟩ (.int .i64 p)).setCell ⟨w.heap.size + 1, 3, none⟩ (.int .i64 (p + d.size)) = w3 at *
  obtain ⟨⟨c0, c1, c2, c3⟩, -⟩ := cells4 hput
  have e1 : (tokName ((byts s).drop p)).isSome = decide ((d.size : Int) ≤ 100) := raw_dec Hd.out
  refine bodyPost_ret (v := .tuple #[.agg #[.int .i8 2, .string d, .int .i64 p, .int .i64 (p + d.size)], .bool (decide ((d.size : Int) ≤ 100))]) ?_ rfl ⟨⟨2, d, p, p + d.size, by rw [e1], ?_⟩, hbl2⟩
  · simp [results, Try.results60, go_sem, c0, c1, c2, c3]
  · intro r hr
    rw [raw_eq hr]
    exact ⟨rfl, Hd.out, rfl, by rw [← Hd.out, byts_len]⟩

theorem size_dec {d : ByteArray} {l : List UInt8} {b : Bool} (h : byts d = l) (hb : decide (l.length ≤ 100) = b) : decide ((d.size : Int) ≤ 100) = b := by
  rw [← hb, ← h, byts_len]
  exact decide_eq_decide.2 (by omega)
theorem empty_dec {d : ByteArray} {l : List UInt8} {b : Bool} (h : byts d = l) (hb : l.isEmpty = b) : d.toList.isEmpty = b := by
  rw [← hb, ← h, Lib.toList_data]
theorem tokKey_some (l : List UInt8) : (tokKey l).isSome = (decide ((signs l).length ≤ 100) && !(signs l).isEmpty) := by
  unfold tokKey
  by_cases h : signs l = []
  · simp [h]
  · have : (signs l).isEmpty = false := List.isEmpty_eq_false_iff.2 h
    simp only [if_neg h, this, raw_some, Bool.not_false, Bool.and_true]
theorem tokKey_eq {l : List UInt8} {r : Raw} (h : tokKey l = some r) : r = ⟨4, signs l, (signs l).length + 1⟩ := by
  unfold tokKey at h
  by_cases h2 : signs l = []
  · simp [h2] at h
  · simp only [if_neg h2] at h
    exact raw_eq h

theorem key_ok (s : ByteArray) (p : Nat) (w : World) (hp0 : p < s.size) (hs : s.size ≤ 1000000) :
    Calls Try.prog 58 #[.agg #[.string s, .int .i64 p]] w fun e w' => Reads p (tokKey ((byts s).drop (p + 1))) e ∧ Below w.heap.size w w' := by
  have hp : p ≤ 1000000 := by omega
  have hsome := tokKey_some ((byts s).drop (p + 1))
  generalize hbo : decide ((signs ((byts s).drop (p + 1))).length ≤ 100) = bo at hsome
  generalize hbe : (signs ((byts s).drop (p + 1))).isEmpty = be at hsome
  have Hbo := Lib.hid hbo
  have Hbe := Lib.hid hbe
  have Hsome := Lib.hid hsome
  clear hbo hbe hsome
  cases bo <;> cases be
  all_goals (
    go_enter Try.func58, Try.ntmps58
    go_wp2_with (first | (go_at_call 85; refine (run_ok s p (p + 1) _ hs (by omega)).mono ?_; rintro e w1 ⟨⟨d, rfl, hd⟩, hb1⟩; have hd5 := signs_size hd hs; have Hd := Lib.hid hd; have hq := size_dec hd Hbo.out; have hem := empty_dec hd Hbe.out; have hbk := blk_box _ _ _ _ hb1 rfl; have hbx := blk_box0 _ _ _ _ hb1 rfl; have hlt := hbk.lt; obtain ⟨x0, x1⟩ := cells2 hbx; have Hbl := Lib.hid (below_box _ _ hb1); have Hbk := Lib.hid hbk; clear hb1 hbk hbx hd) | (go_at_call 82; refine (token_ok s p _ d (d.size + 1) _ hp (by omega) hd5).mono ?_; rintro e w2 ⟨rfl, hb2⟩; rw [hq]; have hA := Hbk.out.below hb2 hlt; have hA := hA.alloc (.cells #[.int .i8 4, .string d, .int .i64 p, .int .i64 (p + (d.size + 1))] 62); obtain ⟨⟨a0, a1, a2, a3⟩, ⟨g0, g1, g2, g3⟩⟩ := cells4 hA; have HA := Lib.hid hA; clear hA; have hbk2 := Hbk.out.below hb2 hlt; obtain ⟨⟨c0, c1, c2, c3⟩, ⟨f0, f1, f2, f3⟩⟩ := cells4 hbk2; have Hbl2 := Lib.hid (Hbl.out.trans (hb2.mono Hbl.out.size)); have Hbk2 := Lib.hid hbk2; clear hb2 hbk2 x0 x1 Hbk Hbl))
    have hput := put4 HA.out (.int .i8 4) (.string d) (.int .i64 p) (.int .i64 (p + (d.size + 1)))
    have hbl2 := below4 (Hbl2.out.alloc Hbl2.out.size (.cells #[.int .i8 4, .string d, .int .i64 p, .int .i64 (p + (d.size + 1))] 62)) (Nat.le_succ w.heap.size) (.int .i8 4) (.string d) (.int .i64 p) (.int .i64 (p + (d.size + 1)))
    clear HA Hbk2 Hbl2 c0 c1 c2 c3 f0 f1 f2 f3 a0 a1 a2 a3 g0 g1 g2 g3
    generalize ((((w2.alloc (.cells #[.int .i8 4, .string d, .int .i64 p, .int .i64 (p + (d.size + 1))] 62)).setCell ⟨w.heap.size + 1, 0, none⟩ (.int .i8 4)).setCell ⟨w.heap.size + 1, 1, none⟩ (.string d)).setCell ⟨w.heap.size + 1, 2, none⟩ (.int .i64 p)).setCell ⟨w.heap.size + 1, 3, none⟩ (.int .i64 (p + (d.size + 1))) = w3 at *
    obtain ⟨⟨c0, c1, c2, c3⟩, -⟩ := cells4 hput
    refine bodyPost_ret (v := .tuple #[.agg #[.int .i8 4, .string d, .int .i64 p, .int .i64 (p + (d.size + 1))], .bool _]) (by simp [results, Try.results58, go_sem, c0, c1, c2, c3]; rfl) rfl ⟨⟨4, d, p, p + (d.size + 1), by rw [Hsome.out]; rfl, ?_⟩, hbl2⟩
    intro r hr
    rw [tokKey_eq hr]
    exact ⟨rfl, Hd.out, rfl, by rw [← Hd.out, byts_len]; simp⟩)
end Go.Proofs.Ytephhendkmhggaa

/- The readers of tokens: names in bars. -/
namespace Go.Proofs.Ytephhendkmhggaa
open Go.RowKit

theorem bar_none : ∀ (l : List UInt8), Lib.indexByte l 124 = -1 → (124 : UInt8) ∉ l := by
  intro l h hm
  obtain ⟨k, hk, he⟩ := List.getElem_of_mem hm
  exact Lib.indexByte_none h k (by rw [List.getElem?_eq_getElem hk, he])
theorem bar_some : ∀ (l : List UInt8) (o : Nat), Lib.indexByte l 124 = o → o < l.length ∧ (124 : UInt8) ∈ l ∧ l.takeWhile (fun c => c != 124) = l.take o
  | [], o, h => by simp [Lib.indexByte] at h
  | c :: r, o, h => by
    unfold Lib.indexByte at h
    by_cases hc : c = 124
    · rw [if_pos (by simp [hc])] at h
      obtain rfl : o = 0 := by omega
      subst hc
      exact ⟨by simp, by simp, by simp⟩
    · rw [if_neg (by simp [hc])] at h
      by_cases h2 : Lib.indexByte r 124 = -1
      · rw [if_pos (by simp [h2])] at h; omega
      · rw [if_neg (by simp [h2])] at h
        obtain ⟨p, rfl⟩ : ∃ p, o = p + 1 := ⟨o - 1, by have := Lib.indexByte_ge r 124; omega⟩
        obtain ⟨h3, h4, h5⟩ := bar_some r p (by omega)
        refine ⟨by simp; omega, List.mem_cons_of_mem _ h4, ?_⟩
        rw [List.takeWhile_cons, if_pos (by simp [hc]), List.take_succ_cons, h5]

set_option maxHeartbeats 1000000 in
theorem bar_ok (s : ByteArray) (p : Nat) (w : World) (hp0 : p < s.size) (hs : s.size ≤ 1000000) :
    Calls Try.prog 57 #[.agg #[.string s, .int .i64 p]] w fun e w' => Reads p (tokBar ((byts s).drop (p + 1))) e ∧ Below w.heap.size w w' := by
  have hp : p ≤ 1000000 := by omega
  generalize hix : Lib.indexByte ((byts s).drop (p + 1)) 124 = o
  have Hix := Lib.hid hix
  have hge := Lib.indexByte_ge ((byts s).drop (p + 1)) 124
  rw [hix] at hge
  clear hix
  have hpz : (p : Int) + 1 ≤ (s.size : Int) := by omega
  by_cases ho : o < 0
  · have d3 : decide (o < 0) = true := decide_eq_true ho
    have hn : tokBar ((byts s).drop (p + 1)) = none := by
      unfold tokBar
      rw [if_neg (bar_none _ (by rw [Hix.out]; omega))]
    rw [hn]
    clear hn
    go_enter Try.func57, Try.ntmps57
    go_wp2_with (go_at_call 41; refine (Try.strings_IndexByte _ _ _).mono ?_; rintro e w1 ⟨rfl, rfl⟩; rw [extract_end, show (124 : Int).toNat.toUInt8 = 124 from rfl, Hix.out])
    refine bodyPost_ret (v := .tuple #[.agg #[.int .i8 0, .string ⟨#[]⟩, .int .i64 0, .int .i64 0], .bool false]) (by simp [results, Try.results57, go_sem]) rfl ⟨⟨0, ⟨#[]⟩, 0, 0, rfl, fun r hr => by cases hr⟩, ((Below.refl _ _).alloc (Nat.le_refl _) _).alloc (by simp) _⟩
  · obtain ⟨q, rfl⟩ := Int.eq_ofNat_of_zero_le (by omega : 0 ≤ o)
    have d3 : decide ((q : Int) < 0) = false := decide_eq_false ho
    obtain ⟨h3, h4, h5⟩ := bar_some _ q Hix.out
    rw [List.length_drop, byts_len] at h3
    have hu : byts (s.extract (p + 1) (p + 1 + q)) = ((byts s).drop (p + 1)).take q := by
      rw [byts, Lib.extract_data, Nat.add_sub_cancel_left]
    have hus : (s.extract (p + 1) (p + 1 + q)).size = q := by
      rw [← byts_len, hu, List.length_take, List.length_drop, byts_len]
      omega
    have htok : tokBar ((byts s).drop (p + 1)) = if (byts (s.extract (p + 1) (p + 1 + q))).all (fun c => insideN c.toNat) then raw 2 (byts (s.extract (p + 1) (p + 1 + q))) (q + 2) else none := by
      unfold tokBar
      rw [if_pos h4]
      simp only [h5, ← hu]
      rw [byts_len, hus]
    rw [htok]
    clear htok h4 h5 hu
    have hqz : (p : Int) + 1 + q ≤ (s.size : Int) := by omega
    cases hall : (byts (s.extract (p + 1) (p + 1 + q))).all fun c => insideN c.toNat with
    | false =>
      have Hall := Lib.hid hall
      clear hall
      go_enter Try.func57, Try.ntmps57
      go_wp2_with (first | (go_at_call 41; refine (Try.strings_IndexByte _ _ _).mono ?_; rintro e w1 ⟨rfl, rfl⟩; rw [extract_end, show (124 : Int).toNat.toUInt8 = 124 from rfl, Hix.out]) | (go_at_call 83; refine (all_inside _ _ (by omega)).mono ?_; rintro e w1 ⟨rfl, rfl⟩; rw [Hall.out]))
      refine bodyPost_ret (v := .tuple #[.agg #[.int .i8 0, .string ⟨#[]⟩, .int .i64 0, .int .i64 0], .bool false]) (by simp [results, Try.results57, go_sem]) rfl ⟨⟨0, ⟨#[]⟩, 0, 0, rfl, fun r hr => by cases hr⟩, ((Below.refl _ _).alloc (Nat.le_refl _) _).alloc (by simp) _⟩
    | true =>
      have Hall := Lib.hid hall
      clear hall
      go_enter Try.func57, Try.ntmps57
      go_wp2_with (first | (go_at_call 41; refine (Try.strings_IndexByte _ _ _).mono ?_; rintro e w1 ⟨rfl, rfl⟩; rw [extract_end, show (124 : Int).toNat.toUInt8 = 124 from rfl, Hix.out]) | (go_at_call 83; refine (all_inside _ _ (by omega)).mono ?_; rintro e w1 ⟨rfl, rfl⟩; rw [Hall.out]))
      have hB := Lib.hid (((Below.refl w.heap.size w).alloc (Nat.le_refl _) (.cells #[.string s, .int .i64 p] 78)).alloc (by simp) (.cells #[.int .i8 0, .string ⟨#[]⟩, .int .i64 0, .int .i64 0] 62))
      have hbx : Blk ((w.alloc (.cells #[.string s, .int .i64 p] 78)).alloc (.cells #[.int .i8 0, .string ⟨#[]⟩, .int .i64 0, .int .i64 0] 62)) w.heap.size 78 #[.string s, .int .i64 p] := (Blk.new w _ _).alloc _
      have hbk : Blk ((w.alloc (.cells #[.string s, .int .i64 p] 78)).alloc (.cells #[.int .i8 0, .string ⟨#[]⟩, .int .i64 0, .int .i64 0] 62)) (w.heap.size + 1) 62 #[.int .i8 0, .string ⟨#[]⟩, .int .i64 0, .int .i64 0] := by
        have := Blk.new (w.alloc (.cells #[.string s, .int .i64 p] 78)) 62 #[.int .i8 0, .string ⟨#[]⟩, .int .i64 0, .int .i64 0]
        rwa [World.size_alloc] at this
      generalize (w.alloc (.cells #[.string s, .int .i64 p] 78)).alloc (.cells #[.int .i8 0, .string ⟨#[]⟩, .int .i64 0, .int .i64 0] 62) = w1 at *
      obtain ⟨x0, x1⟩ := cells2 hbx
      have hlx := hbx.lt
      have hlt := hbk.lt
      have Hbk := Lib.hid hbk
      have Hbx := Lib.hid hbx
      clear hbx hbk
      have w1a : IntKind.i64.wrap ((p : Int) + 1) = (p : Int) + 1 := by rw [IntKind.wrap_i64]; omega
      have w1b : IntKind.i64.wrap ((p : Int) + 1 + q) = (p : Int) + 1 + q := by rw [IntKind.wrap_i64]; omega
      have w1c : IntKind.i64.wrap ((q : Int) + 2) = (q : Int) + 2 := by rw [IntKind.wrap_i64]; omega
      have i1 : (0 : Int) ≤ (p : Int) + 1 := by omega
      have i2 : (p : Int) + 1 ≤ (p : Int) + 1 + q := by omega
      have i3 : (0 : Int) ≤ (p : Int) + 1 + q := by omega
      have i4 : (0 : Int) ≤ (q : Int) := by omega
      have i5 : ((p : Int) + 1 + q).toNat = p + 1 + q := by omega
      have i6 : ((p : Int) + 1).toNat = p + 1 := by omega
      generalize hd : s.extract (p + 1) (p + 1 + q) = d at *
      go_region_held3 (fun w' => w'.cell? ⟨w.heap.size, 0, none⟩ = some (.string s) ∧ w'.cell? ⟨w.heap.size, 1, none⟩ = some (.int .i64 p)) (go_keep)
        (first | (go_at_call 82; refine (token_ok s p _ _ (q + 2) _ hp (by omega) (by omega)).mono ?_; rintro e w2 ⟨rfl, hb2⟩; (try rw [hd]); have hbk2 := Hbk.out.drew.below hb2 hlt; obtain ⟨⟨c0, c1, c2, c3⟩, ⟨f0, f1, f2, f3⟩⟩ := cells4 hbk2; obtain ⟨y0, y1⟩ := cells2 (Hbx.out.drew.below hb2 hlx); have Hbl2 := Lib.hid (hB.out.trans (Below.trans (b := w1.drew) ⟨rfl, rfl, rfl, Nat.le_refl _, fun _ _ => rfl⟩ (hb2.mono hB.out.size))); have Hbk2 := Lib.hid hbk2; clear hb2 hbk2 x0 x1 Hbk))
      go_wp2
      have hput := put4 Hbk2.out (.int .i8 2) (.string d) (.int .i64 p) (.int .i64 (p + (q + 2)))
      have hbl2 := below4 Hbl2.out (Nat.le_succ _) (.int .i8 2) (.string d) (.int .i64 p) (.int .i64 (p + (q + 2)))
      clear Hbk2 Hbl2 c0 c1 c2 c3 f0 f1 f2 f3
      generalize (((w2.setCell ⟨w.heap.size + 1, 0, none⟩ (.int .i8 2)).setCell ⟨w.heap.size + 1, 1, none⟩ (.string d)).setCell ⟨w.heap.size + 1, 2, none⟩ (.int .i64 p)).setCell ⟨w.heap.size + 1, 3, none⟩ (.int .i64 (p + (q + 2))) = w3 at *
      obtain ⟨⟨c0, c1, c2, c3⟩, -⟩ := cells4 hput
      have e1 : (raw 2 (byts d) (q + 2)).isSome = decide ((q : Int) ≤ 100) := by
        rw [raw_some, byts_len, hus]
        exact decide_eq_decide.2 (by omega)
      refine bodyPost_ret (v := .tuple #[.agg #[.int .i8 2, .string d, .int .i64 p, .int .i64 (p + (q + 2))], .bool (decide ((q : Int) ≤ 100))]) ?_ rfl ⟨⟨2, d, p, p + (q + 2), by rw [e1], ?_⟩, hbl2⟩
      · simp [results, Try.results57, go_sem, c0, c1, c2, c3]
      · intro r hr
        rw [raw_eq hr]
        exact ⟨rfl, rfl, rfl, by simp⟩
end Go.Proofs.Ytephhendkmhggaa

/- The readers of tokens. -/
import Derived.Test.YtiklliiamljogaaGreatDoorRefA
import Derived.Deep.RegionHeld3
import Derived.StillTailTactics
namespace Go.Proofs.YtiklliiamljogaaGreatDoor
open Go.RowKit

/-- A text and a place, as the code's struct. -/
def scanV (s : ByteArray) (p : Nat) : Value := .agg #[.string s, .int .i64 p]
/-- A token's struct. -/
def tokV (k : Int) (t : ByteArray) (a b : Int) : Value := .agg #[.int .i8 k, .string t, .int .i64 a, .int .i64 b]

/-- What a reader at place p hands back. -/
def Reads (p : Nat) (o : Option Raw) (e : Ending) : Prop :=
  ∃ (k : Int) (t : ByteArray) (a b : Int), e = .returned (.tuple #[.agg #[.int .i8 k, .string t, .int .i64 a, .int .i64 b], .bool o.isSome]) ∧ ∀ r, o = some r → k = r.k ∧ byts t = r.t ∧ a = p ∧ b = p + r.n

theorem signs_drop {s : ByteArray} {i : Nat} (h : i < s.size) : signs ((byts s).drop i) = if signN (s[i]'h).toNat then s[i]'h :: signs ((byts s).drop (i + 1)) else [] := by
  rw [byts_drop h, signs, List.takeWhile_cons]
  rfl
theorem signs_end {s : ByteArray} {i : Nat} (h : s.size ≤ i) : signs ((byts s).drop i) = [] := by rw [byts_end h]; rfl
theorem take_signs (l : List UInt8) : l.take (signs l).length = signs l := List.prefix_iff_eq_take.1 (List.takeWhile_prefix _) |>.symm

theorem run_ok (s : ByteArray) (p i0 : Nat) (w : World) (hs : s.size ≤ 1000000) (hi0 : i0 ≤ s.size) :
    Calls Tryz.prog 121 #[.agg #[.string s, .int .i64 p], .int .i64 i0] w fun e w' => (∃ r, e = .returned (.string r) ∧ byts r = signs ((byts s).drop i0)) ∧ Below w.heap.size w w' := by
  go_enter Tryz.func121, Tryz.ntmps121
  go_wp2
  have hB : Below w.heap.size w (w.alloc (.cells #[.string s, .int .i64 p] 129)) := (Below.refl _ _).alloc (Nat.le_refl _) _
  have hb : Blk (w.alloc (.cells #[.string s, .int .i64 p] 129)) w.heap.size 129 #[.string s, .int .i64 p] := Blk.new _ _ _
  have c0 := hb.cell 0
  simp only [List.getElem?_toArray, List.getElem?_cons_zero] at c0
  clear hb
  generalize w.alloc (.cells #[.string s, .int .i64 p] 129) = w1 at *
  go_loopw [5] (fun v wx => w1 = wx ∧ ∃ i : Nat, i ≤ s.size ∧ i0 ≤ i ∧ v = .int .i64 i ∧ i + (signs ((byts s).drop i)).length = i0 + (signs ((byts s).drop i0)).length) (fun v _ => (s.size - intOf v).toNat)
  case atStart => exact ⟨rfl, i0, hi0, Nat.le_refl _, rfl, rfl⟩
  case round =>
    obtain ⟨rfl, i, hi, hle, rfl, hinv⟩ := hrel
    have HI := Lib.hid hinv
    have HB := Lib.hid hB
    clear hinv hB
    by_cases hin : i < s.size
    · have hiz : (i : Int) < (s.size : Int) := by omega
      have d1 : decide ((i : Int) < s.size) = true := decide_eq_true hiz
      have hsg := Lib.hid (signs_drop hin)
      obtain ⟨x, hx⟩ : ∃ x : UInt8, s[i]'(by omega) = x := ⟨_, rfl⟩
      have hx8 := x.toNat_lt
      cases hp : signN x.toNat with
      | true =>
        have Hp := Lib.hid hp
        clear hp
        go_wp2_with (go_at_call 123; refine (sign_ok x.toNat hx8).mono ?_; rintro e w2 ⟨rfl, rfl⟩; rw [Hp.out])
        go_roundw
        case rel => exact ⟨trivial, i + 1, by omega, by omega, by go_num, by rw [← HI.out, hsg.out, hx, if_pos Hp.out, List.length_cons]; omega⟩
        case measure => simp only [intOf]; omega
      | false =>
        have Hp := Lib.hid hp
        clear hp
        have hn : signs ((byts s).drop i) = [] := by rw [hsg.out, hx, if_neg (by rw [Hp.out]; decide)]
        have HN := Lib.hid hn
        clear hn
        go_wp2_with (go_at_call 123; refine (sign_ok x.toNat hx8).mono ?_; rintro e w2 ⟨rfl, rfl⟩; rw [Hp.out])
        go_ret
        refine ⟨⟨_, rfl, ?_⟩, HB.out⟩
        rw [byts, Lib.extract_data]
        have h2 := HI.out
        rw [HN.out, List.length_nil, Nat.add_zero] at h2
        rw [h2, Nat.add_sub_cancel_left]
        exact take_signs _
    · have d1 : decide ((i : Int) < s.size) = false := decide_eq_false (by omega)
      have HN := Lib.hid (signs_end (s := s) (i := i) (by omega))
      go_wp2
      go_ret
      refine ⟨⟨_, rfl, ?_⟩, HB.out⟩
      rw [byts, Lib.extract_data]
      have h2 := HI.out
      rw [HN.out, List.length_nil, Nat.add_zero] at h2
      rw [h2, Nat.add_sub_cancel_left]
      exact take_signs _

theorem token_ok (s : ByteArray) (p : Nat) (k : Int) (t : ByteArray) (n : Int) (w : World) (hp : p ≤ 1000000) (hn : 0 ≤ n ∧ n ≤ 1000002) (_ht : t.size ≤ 1000000) :
    Calls Tryz.prog 118 #[.agg #[.string s, .int .i64 p], .int .i8 k, .string t, .int .i64 n] w fun e w' => e = .returned (.tuple #[.agg #[.int .i8 k, .string t, .int .i64 p, .int .i64 (p + n)], .bool (decide ((t.size : Int) ≤ 100))]) ∧ Below w.heap.size w w' := by
  go_enter Tryz.func118, Tryz.ntmps118
  go_wp2
  refine bodyPost_ret (v := .tuple #[.agg #[.int .i8 k, .string t, .int .i64 p, .int .i64 (p + n)], .bool (decide ((t.size : Int) ≤ 100))]) ?_ rfl ⟨rfl, ?_⟩
  · simp [results, Tryz.results118, go_sem]
    try omega
  · exact ((Below.refl _ _).alloc (Nat.le_refl _) _).alloc (by simp) _
end Go.Proofs.YtiklliiamljogaaGreatDoor

/- The reference's within, Skip, run. -/
namespace Go.Proofs.YtiklliiamljogaaGreatDoor
open Go.RowKit

theorem rwithin_ok {w : World} (n : Nat) (hn : n < 256) :
    Calls Tryz.prog 125 #[.int .u8 n] w fun e w' => e = .returned (.bool (insideN n)) ∧ w = w' := by
  by_cases h1 : n = 124
  · subst h1
    go_enter Tryz.func125, Tryz.ntmps125
    go_wp2
    go_ret
    exact ⟨rfl, rfl⟩
  by_cases h2 : n = 92
  · subst h2
    go_enter Tryz.func125, Tryz.ntmps125
    go_wp2
    go_ret
    exact ⟨rfl, rfl⟩
  have b1 : ((n : Int) != 124) = true := bne_iff_ne.2 (by omega)
  have b2 : ((n : Int) != 92) = true := bne_iff_ne.2 (by omega)
  have e : insideN n = (decide (32 ≤ n ∧ n ≤ 126) || whiteN n) := by
    unfold insideN
    rw [bne_iff_ne.2 h1, bne_iff_ne.2 h2]
    rfl
  rw [e]
  clear e h1 h2
  by_cases h3 : 32 ≤ n
  · have d3 : decide ((32 : Int) ≤ n) = true := by simp; omega
    by_cases h4 : n ≤ 126
    · have d4 : decide ((n : Int) ≤ 126) = true := by simp; omega
      have e : decide (32 ≤ n ∧ n ≤ 126) = true := decide_eq_true ⟨h3, h4⟩
      rw [e]
      clear e hn
      go_enter Tryz.func125, Tryz.ntmps125
      go_wp2
      go_ret
      exact ⟨rfl, rfl⟩
    · have d4 : decide ((n : Int) ≤ 126) = false := by simp; omega
      have e : decide (32 ≤ n ∧ n ≤ 126) = false := decide_eq_false (by omega)
      rw [e]
      clear e hn
      go_enter Tryz.func125, Tryz.ntmps125
      go_wp2_with (go_at_call 80; refine (rwhite_ok n).mono ?_; rintro e w1 ⟨rfl, rfl⟩)
      go_ret
      exact ⟨rfl, rfl⟩
  · have d3 : decide ((32 : Int) ≤ n) = false := by simp; omega
    have e : decide (32 ≤ n ∧ n ≤ 126) = false := decide_eq_false (by omega)
    rw [e]
    clear e hn
    go_enter Tryz.func125, Tryz.ntmps125
    go_wp2_with (go_at_call 80; refine (rwhite_ok n).mono ?_; rintro e w1 ⟨rfl, rfl⟩)
    go_ret
    exact ⟨rfl, rfl⟩


set_option maxHeartbeats 1000000 in
theorem rskip_ok (s : ByteArray) (a : Int) (w : World) (hs : s.size ≤ 1000000) :
    Calls Tryz.prog 64 #[.string s, .int .i64 a] w fun e w' => e = .returned (.int .i64 (fromI a s.size + sk false ((byts s).drop (fromI a s.size)) : Nat)) ∧ w = w' := by
  obtain ⟨b, hb⟩ : ∃ b : Nat, max 0 (min a (s.size : Int)) = (b : Int) := ⟨fromI a s.size, by unfold fromI; omega⟩
  have hfrom : fromI a s.size = b := by unfold fromI; omega
  rw [hfrom]
  have hbs : b ≤ s.size := by omega
  clear hfrom
  go_enter Tryz.func64, Tryz.ntmps64
  go_wp2
  go_loopw [1] (fun v wx => w = wx ∧ ∃ i : Nat, i ≤ s.size ∧ v = .int .i64 i ∧ i + sk false ((byts s).drop i) = b + sk false ((byts s).drop b)) (fun v _ => (s.size - intOf v).toNat)
  case atStart => exact ⟨rfl, b, hbs, rfl, rfl⟩
  case round =>
    obtain ⟨rfl, i, hi, rfl, hinv⟩ := hrel
    have HI := Lib.hid hinv
    clear hinv hb
    by_cases hin : i < s.size
    · have hiz : (i : Int) < (s.size : Int) := by omega
      have d1 : decide ((i : Int) < s.size) = true := decide_eq_true hiz
      obtain ⟨x, hx⟩ : ∃ x : UInt8, s[i]'(by omega) = x := ⟨_, rfl⟩
      have hdr := Lib.hid (byts_drop hin)
      cases hw : whiteN x.toNat with
      | true =>
        have h59 : x.toNat ≠ 59 := by intro h; rw [h] at hw; exact absurd hw (by decide)
        have hsk : sk false ((byts s).drop i) = 1 + sk false ((byts s).drop (i + 1)) := by
          rw [hdr.out, hx]
          rw [sk_f, if_neg h59, if_pos hw]
        have Hsk := Lib.hid hsk
        have Hw := Lib.hid hw
        clear hsk hw h59
        go_wp2_with (go_at_call 80; refine (rwhite_ok x.toNat).mono ?_; rintro e w1 ⟨rfl, rfl⟩; rw [Hw.out])
        go_roundw
        case rel => exact ⟨trivial, i + 1, by omega, by go_num, by rw [← HI.out, Hsk.out]; omega⟩
        case measure => simp only [intOf]; omega
      | false =>
        by_cases h59 : x.toNat = 59
        · have d2 : ((x.toNat : Int) == 59) = true := by rw [h59]; rfl
          have hsk : sk true ((byts s).drop i) = sk false ((byts s).drop i) := by
            rw [hdr.out, hx]
            rw [sk_f, sk_c, if_pos h59, if_neg (by omega)]
          have Hsk := Lib.hid hsk
          have Hw := Lib.hid hw
          clear hsk hw h59
          go_wp2_with (go_at_call 80; refine (rwhite_ok x.toNat).mono ?_; rintro e w1 ⟨rfl, rfl⟩; rw [Hw.out])
          have HX := Lib.hid hx
          clear hx
          go_loopw [1] (fun v wx => w = wx ∧ ∃ j : Nat, i ≤ j ∧ j ≤ s.size ∧ v = .int .i64 j ∧ j + sk true ((byts s).drop j) = i + sk true ((byts s).drop i)) (fun v _ => (s.size - intOf v).toNat)
          case atStart => exact ⟨rfl, i, Nat.le_refl _, hi, rfl, rfl⟩
          case round =>
            obtain ⟨rfl, j, hij, hj, rfl, hinv⟩ := hrel
            have HJ := Lib.hid hinv
            clear hinv
            by_cases hjn : j < s.size
            · have hjz : (j : Int) < (s.size : Int) := by omega
              have d3 : decide ((j : Int) < s.size) = true := decide_eq_true hjz
              obtain ⟨y, hy⟩ : ∃ y : UInt8, s[j]'(by omega) = y := ⟨_, rfl⟩
              have hdj := Lib.hid (byts_drop hjn)
              by_cases h10 : y.toNat = 10
              · have b3 : ((y.toNat : Int) != 10) = false := by rw [h10]; rfl
                have hne : i ≠ j := by
                  rintro rfl
                  have h1 := HX.out
                  rw [hy] at h1
                  subst h1
                  rw [h10] at d2
                  exact absurd d2 (by decide)
                have hs2 : sk true ((byts s).drop j) = sk false ((byts s).drop j) := by
                  rw [hdj.out, hy, sk_c, sk_f, if_pos h10, if_neg (by omega), if_pos (by rw [h10]; decide)]
                have HS2 := Lib.hid hs2
                clear hs2 h10
                go_wp2
                go_roundw
                case rel => exact ⟨trivial, j, hj, rfl, by rw [← HI.out, ← Hsk.out, ← HJ.out, HS2.out]⟩
                case measure => simp only [intOf]; omega
              · have b3 : ((y.toNat : Int) != 10) = true := bne_iff_ne.2 (by omega)
                have hs2 : sk true ((byts s).drop j) = 1 + sk true ((byts s).drop (j + 1)) := by
                  rw [hdj.out, hy, sk_c, if_neg h10]
                have HS2 := Lib.hid hs2
                clear hs2 h10
                go_wp2
                go_roundw
                case rel => exact ⟨trivial, j + 1, by omega, by omega, by go_num, by rw [← HJ.out, HS2.out]; omega⟩
                case measure => simp only [intOf]; omega
            · have d3 : decide ((j : Int) < s.size) = false := decide_eq_false (by omega)
              go_wp2
              go_roundw
              case rel => exact ⟨trivial, j, hj, rfl, by rw [← HI.out, ← Hsk.out, ← HJ.out, byts_end (s := s) (i := j) (by omega)]; rfl⟩
              case measure => simp only [intOf]; omega
        · have d2 : ((x.toNat : Int) == 59) = false := beq_eq_false_iff_ne.2 (by omega)
          have hsk : sk false ((byts s).drop i) = 0 := by
            rw [hdr.out, hx]
            rw [sk_f, if_neg h59, if_neg (by rw [hw]; decide)]
          have Hsk := Lib.hid hsk
          have Hw := Lib.hid hw
          clear hsk hw h59
          go_wp2_with (go_at_call 80; refine (rwhite_ok x.toNat).mono ?_; rintro e w1 ⟨rfl, rfl⟩; rw [Hw.out])
          go_ret
          refine ⟨?_, rfl⟩
          rw [← HI.out, Hsk.out]
          rfl
    · have d1 : decide ((i : Int) < s.size) = false := decide_eq_false (by omega)
      go_wp2
      go_ret
      refine ⟨?_, rfl⟩
      rw [← HI.out, byts_end (by omega)]
      rfl

theorem rrun_ok (s : ByteArray) (i0 : Nat) (w : World) (hs : s.size ≤ 1000000) (hi0 : i0 ≤ s.size) :
    Calls Tryz.prog 110 #[.string s, .int .i64 i0] w fun e w' => e = .returned (.int .i64 (i0 + (signs ((byts s).drop i0)).length : Nat)) ∧ w = w' := by
  go_enter Tryz.func110, Tryz.ntmps110
  go_wp2
  go_loopw [1] (fun v wx => w = wx ∧ ∃ i : Nat, i ≤ s.size ∧ i0 ≤ i ∧ v = .int .i64 i ∧ i + (signs ((byts s).drop i)).length = i0 + (signs ((byts s).drop i0)).length) (fun v _ => (s.size - intOf v).toNat)
  case atStart => exact ⟨rfl, i0, hi0, Nat.le_refl _, rfl, rfl⟩
  case round =>
    obtain ⟨rfl, i, hi, hle, rfl, hinv⟩ := hrel
    have HI := Lib.hid hinv
    clear hinv
    by_cases hin : i < s.size
    · have hiz : (i : Int) < (s.size : Int) := by omega
      have d1 : decide ((i : Int) < s.size) = true := decide_eq_true hiz
      have hsg := Lib.hid (signs_drop hin)
      obtain ⟨x, hx⟩ : ∃ x : UInt8, s[i]'(by omega) = x := ⟨_, rfl⟩
      have hx8 := x.toNat_lt
      cases hp : signN x.toNat with
      | true =>
        have Hp := Lib.hid hp
        clear hp
        go_wp2_with (go_at_call 124; refine (rsign_ok x.toNat hx8).mono ?_; rintro e w2 ⟨rfl, rfl⟩; rw [Hp.out])
        go_roundw
        case rel => exact ⟨trivial, i + 1, by omega, by omega, by go_num, by rw [← HI.out, hsg.out, hx, if_pos Hp.out, List.length_cons]; omega⟩
        case measure => simp only [intOf]; omega
      | false =>
        have Hp := Lib.hid hp
        clear hp
        have hn : signs ((byts s).drop i) = [] := by rw [hsg.out, hx, if_neg (by rw [Hp.out]; decide)]
        have HN := Lib.hid hn
        clear hn
        go_wp2_with (go_at_call 124; refine (rsign_ok x.toNat hx8).mono ?_; rintro e w2 ⟨rfl, rfl⟩; rw [Hp.out])
        go_ret
        refine ⟨?_, rfl⟩
        rw [← HI.out, HN.out]
        rfl
    · have d1 : decide ((i : Int) < s.size) = false := decide_eq_false (by omega)
      have HN := Lib.hid (signs_end (s := s) (i := i) (by omega))
      go_wp2
      go_ret
      refine ⟨?_, rfl⟩
      rw [← HI.out, HN.out]
      rfl
end Go.Proofs.YtiklliiamljogaaGreatDoor

/- The readers of tokens: brackets, names, keywords. -/
namespace Go.Proofs.YtiklliiamljogaaGreatDoor
open Go.RowKit

theorem raw_some {k : Nat} {t : List UInt8} {n : Nat} : (raw k t n).isSome = decide (t.length ≤ 100) := by
  unfold raw
  split
  · rename_i h; simp [h]
  · rename_i h; simp; omega
theorem raw_eq {k : Nat} {t : List UInt8} {n : Nat} {r : Raw} (h : raw k t n = some r) : r = ⟨k, t, n⟩ := by
  unfold raw at h
  split at h
  · injection h with h; exact h.symm
  · cases h

theorem below_box {w w1 : World} (a b : Obj) (h : Below ((w.alloc a).alloc b).heap.size ((w.alloc a).alloc b) w1) : Below w.heap.size w w1 :=
  (((Below.refl _ w).alloc (Nat.le_refl _) a).alloc (by simp) b).trans (h.mono (by simp; omega))
theorem blk_box {w w1 : World} (a b : Obj) (t : TypeId) (cs : Array Value) (h : Below ((w.alloc a).alloc b).heap.size ((w.alloc a).alloc b) w1) (hb : b = .cells cs t) : Blk w1 (w.heap.size + 1) t cs := by
  subst hb
  refine Blk.below (w := (w.alloc a).alloc (.cells cs t)) ?_ h (by simp)
  have := Blk.new (w.alloc a) t cs
  rwa [World.size_alloc] at this
theorem blk_box0 {w w1 : World} (a b : Obj) (t : TypeId) (cs : Array Value) (h : Below ((w.alloc a).alloc b).heap.size ((w.alloc a).alloc b) w1) (ha : a = .cells cs t) : Blk w1 w.heap.size t cs := by
  subst ha
  exact Blk.below (w := (w.alloc (.cells cs t)).alloc b) ((Blk.new w t cs).alloc _) h (by simp; omega)

theorem cells4 {w : World} {g : Nat} {t : TypeId} {a b c d : Value} (h : Blk w g t #[a, b, c, d]) :
    (w.cell? ⟨g, 0, none⟩ = some a ∧ w.cell? ⟨g, 1, none⟩ = some b ∧ w.cell? ⟨g, 2, none⟩ = some c ∧ w.cell? ⟨g, 3, none⟩ = some d) ∧
    (w.frozen? ⟨g, 0, none⟩ = false ∧ w.frozen? ⟨g, 1, none⟩ = false ∧ w.frozen? ⟨g, 2, none⟩ = false ∧ w.frozen? ⟨g, 3, none⟩ = false) :=
  ⟨⟨h.cell 0, h.cell 1, h.cell 2, h.cell 3⟩, ⟨h.frozen 0, h.frozen 1, h.frozen 2, h.frozen 3⟩⟩
/-- A token's block written whole. -/
theorem put4 {w : World} {g : Nat} {t : TypeId} {a b c d : Value} (h : Blk w g t #[a, b, c, d]) (a' b' c' d' : Value) :
    Blk ((((w.setCell ⟨g, 0, none⟩ a').setCell ⟨g, 1, none⟩ b').setCell ⟨g, 2, none⟩ c').setCell ⟨g, 3, none⟩ d') g t #[a', b', c', d'] := by
  have := (((h.set_ 0 a').set_ 1 b').set_ 2 c').set_ 3 d'
  simpa using this
theorem below4 {B : Nat} {w w1 : World} {g : Nat} (h : Below B w w1) (hg : B ≤ g) (a' b' c' d' : Value) :
    Below B w ((((w1.setCell ⟨g, 0, none⟩ a').setCell ⟨g, 1, none⟩ b').setCell ⟨g, 2, none⟩ c').setCell ⟨g, 3, none⟩ d') :=
  (((h.setCell hg _).setCell hg _).setCell hg _).setCell hg _

theorem open_ok (s : ByteArray) (p : Nat) (w : World) (hp : p ≤ 1000000) :
    Calls Tryz.prog 102 #[.agg #[.string s, .int .i64 p]] w fun e w' => Reads p (raw 0 [] 1) e ∧ Below w.heap.size w w' := by
  go_enter Tryz.func102, Tryz.ntmps102
  go_wp2_with (go_at_call 118; refine (token_ok s p _ _ 1 _ hp (by omega) (by decide)).mono ?_; rintro e w1 ⟨rfl, hb1⟩; have hbk := blk_box _ _ _ _ hb1 rfl; obtain ⟨⟨c0, c1, c2, c3⟩, ⟨f0, f1, f2, f3⟩⟩ := cells4 hbk; have hbl := Lib.hid (below_box _ _ hb1); clear hb1)
  have hput := put4 hbk (.int .i8 0) (.string ⟨#[]⟩) (.int .i64 p) (.int .i64 (p + 1))
  have hbl2 := below4 hbl.out (Nat.le_succ _) (.int .i8 0) (.string ⟨#[]⟩) (.int .i64 p) (.int .i64 (p + 1))
  clear hbk hbl c0 c1 c2 c3 f0 f1 f2 f3
  generalize (((w1.setCell ⟨w.heap.size + 1, 0, none⟩ (.int .i8 0)).setCell ⟨w.heap.size + 1, 1, none⟩ (.string ⟨#[]⟩)).setCell ⟨w.heap.size + 1, 2, none⟩ (.int .i64 p)).setCell ⟨w.heap.size + 1, 3, none⟩ (.int .i64 (p + 1)) = w2 at *
  obtain ⟨⟨c0, c1, c2, c3⟩, -⟩ := cells4 hput
  refine bodyPost_ret (v := .tuple #[.agg #[.int .i8 0, .string ⟨#[]⟩, .int .i64 p, .int .i64 (p + 1)], .bool true]) ?_ rfl ⟨⟨0, ⟨#[]⟩, p, p + 1, rfl, ?_⟩, hbl2⟩
  · simp [results, Tryz.results102, go_sem, c0, c1, c2, c3]
  · intro r hr
    rw [raw_eq hr]
    exact ⟨rfl, rfl, rfl, rfl⟩

theorem close_ok (s : ByteArray) (p : Nat) (w : World) (hp : p ≤ 1000000) :
    Calls Tryz.prog 103 #[.agg #[.string s, .int .i64 p]] w fun e w' => Reads p (raw 1 [] 1) e ∧ Below w.heap.size w w' := by
  go_enter Tryz.func103, Tryz.ntmps103
  go_wp2_with (go_at_call 118; refine (token_ok s p _ _ 1 _ hp (by omega) (by decide)).mono ?_; rintro e w1 ⟨rfl, hb1⟩; have hbk := blk_box _ _ _ _ hb1 rfl; obtain ⟨⟨c0, c1, c2, c3⟩, ⟨f0, f1, f2, f3⟩⟩ := cells4 hbk; have hbl := Lib.hid (below_box _ _ hb1); clear hb1)
  have hput := put4 hbk (.int .i8 1) (.string ⟨#[]⟩) (.int .i64 p) (.int .i64 (p + 1))
  have hbl2 := below4 hbl.out (Nat.le_succ _) (.int .i8 1) (.string ⟨#[]⟩) (.int .i64 p) (.int .i64 (p + 1))
  clear hbk hbl c0 c1 c2 c3 f0 f1 f2 f3
  generalize (((w1.setCell ⟨w.heap.size + 1, 0, none⟩ (.int .i8 1)).setCell ⟨w.heap.size + 1, 1, none⟩ (.string ⟨#[]⟩)).setCell ⟨w.heap.size + 1, 2, none⟩ (.int .i64 p)).setCell ⟨w.heap.size + 1, 3, none⟩ (.int .i64 (p + 1)) = w2 at *
  obtain ⟨⟨c0, c1, c2, c3⟩, -⟩ := cells4 hput
  refine bodyPost_ret (v := .tuple #[.agg #[.int .i8 1, .string ⟨#[]⟩, .int .i64 p, .int .i64 (p + 1)], .bool true]) ?_ rfl ⟨⟨1, ⟨#[]⟩, p, p + 1, rfl, ?_⟩, hbl2⟩
  · simp [results, Tryz.results103, go_sem, c0, c1, c2, c3]
  · intro r hr
    rw [raw_eq hr]
    exact ⟨rfl, rfl, rfl, rfl⟩
end Go.Proofs.YtiklliiamljogaaGreatDoor

/- The readers of tokens: names, keywords, none. -/
namespace Go.Proofs.YtiklliiamljogaaGreatDoor
open Go.RowKit

theorem cells2 {w : World} {g : Nat} {t : TypeId} {a b : Value} (h : Blk w g t #[a, b]) : w.cell? ⟨g, 0, none⟩ = some a ∧ w.cell? ⟨g, 1, none⟩ = some b := ⟨h.cell 0, h.cell 1⟩

theorem none_ok (s : ByteArray) (p0 : Nat) (w : World) :
    Calls Tryz.prog 108 #[.agg #[.string s, .int .i64 p0]] w fun e w' => (∀ p, Reads p none e) ∧ Below w.heap.size w w' := by
  go_enter Tryz.func108, Tryz.ntmps108
  go_wp2
  refine bodyPost_ret (v := .tuple #[.agg #[.int .i8 0, .string ⟨#[]⟩, .int .i64 0, .int .i64 0], .bool false]) ?_ rfl ⟨fun p => ⟨0, ⟨#[]⟩, 0, 0, rfl, fun r hr => by cases hr⟩, ((Below.refl _ _).alloc (Nat.le_refl _) _).alloc (by simp) _⟩
  simp [results, Tryz.results108, go_sem]

theorem signs_size {s d : ByteArray} {p : Nat} (h : byts d = signs ((byts s).drop p)) (hs : s.size ≤ 1000000) : d.size ≤ 1000000 := by
  rw [← byts_len, h]
  have := signs_le ((byts s).drop p)
  rw [List.length_drop, byts_len] at this
  omega
theorem raw_dec {k : Nat} {d : ByteArray} {l : List UInt8} {n : Nat} (h : byts d = l) : (raw k l n).isSome = decide ((d.size : Int) ≤ 100) := by
  rw [raw_some, ← h, byts_len]
  exact decide_eq_decide.2 (by omega)

theorem name_ok (s : ByteArray) (p : Nat) (w : World) (hp : p ≤ s.size) (hs : s.size ≤ 1000000) :
    Calls Tryz.prog 107 #[.agg #[.string s, .int .i64 p]] w fun e w' => Reads p (tokName ((byts s).drop p)) e ∧ Below w.heap.size w w' := by
  have hp : p ≤ 1000000 := by omega
  go_enter Tryz.func107, Tryz.ntmps107
  go_wp2_with (first | (go_at_call 121; refine (run_ok s p (p) _ hs (by omega)).mono ?_; rintro e w1 ⟨⟨d, rfl, hd⟩, hb1⟩; have hd5 := signs_size hd hs; have Hd := Lib.hid hd;  have hbk := blk_box _ _ _ _ hb1 rfl; have hbx := blk_box0 _ _ _ _ hb1 rfl; have hlt := hbk.lt; obtain ⟨x0, x1⟩ := cells2 hbx; have Hbl := Lib.hid (below_box _ _ hb1); have Hbk := Lib.hid hbk; clear hb1 hbk hbx hd) | (go_at_call 118; refine (token_ok s p _ d (d.size) _ hp (by omega) hd5).mono ?_; rintro e w2 ⟨rfl, hb2⟩;  have hbk2 := Hbk.out.below hb2 hlt; obtain ⟨⟨c0, c1, c2, c3⟩, ⟨f0, f1, f2, f3⟩⟩ := cells4 hbk2; have Hbl2 := Lib.hid (Hbl.out.trans (hb2.mono Hbl.out.size)); have Hbk2 := Lib.hid hbk2; clear hb2 hbk2 x0 x1 Hbk Hbl))
  have hput := put4 Hbk2.out (.int .i8 2) (.string d) (.int .i64 p) (.int .i64 (p + d.size))
  have hbl2 := below4 Hbl2.out (Nat.le_succ _) (.int .i8 2) (.string d) (.int .i64 p) (.int .i64 (p + d.size))
  clear Hbk2 Hbl2 c0 c1 c2 c3 f0 f1 f2 f3
  generalize (((w2.setCell ⟨w.heap.size + 1, 0, none⟩ (.int .i8 2)).setCell ⟨w.heap.size + 1, 1, none⟩ (.string d)).setCell ⟨w.heap.size + 1, 2, none⟩ (.int .i64 p)).setCell ⟨w.heap.size + 1, 3, none⟩ (.int .i64 (p + d.size)) = w3 at *
  obtain ⟨⟨c0, c1, c2, c3⟩, -⟩ := cells4 hput
  have e1 : (tokName ((byts s).drop p)).isSome = decide ((d.size : Int) ≤ 100) := raw_dec Hd.out
  refine bodyPost_ret (v := .tuple #[.agg #[.int .i8 2, .string d, .int .i64 p, .int .i64 (p + d.size)], .bool (decide ((d.size : Int) ≤ 100))]) ?_ rfl ⟨⟨2, d, p, p + d.size, by rw [e1], ?_⟩, hbl2⟩
  · simp [results, Tryz.results107, go_sem, c0, c1, c2, c3]
  · intro r hr
    rw [raw_eq hr]
    exact ⟨rfl, Hd.out, rfl, by rw [← Hd.out, byts_len]⟩

theorem size_dec {d : ByteArray} {l : List UInt8} {b : Bool} (h : byts d = l) (hb : decide (l.length ≤ 100) = b) : decide ((d.size : Int) ≤ 100) = b := by
  rw [← hb, ← h, byts_len]
  exact decide_eq_decide.2 (by omega)
theorem empty_dec {d : ByteArray} {l : List UInt8} {b : Bool} (h : byts d = l) (hb : l.isEmpty = b) : d.toList.isEmpty = b := by
  rw [← hb, ← h, Lib.toList_data]
theorem tokKey_some (l : List UInt8) : (tokKey l).isSome = (decide ((signs l).length ≤ 100) && !(signs l).isEmpty) := by
  unfold tokKey
  by_cases h : signs l = []
  · simp [h]
  · have : (signs l).isEmpty = false := List.isEmpty_eq_false_iff.2 h
    simp only [if_neg h, this, raw_some, Bool.not_false, Bool.and_true]
theorem tokKey_eq {l : List UInt8} {r : Raw} (h : tokKey l = some r) : r = ⟨4, signs l, (signs l).length + 1⟩ := by
  unfold tokKey at h
  by_cases h2 : signs l = []
  · simp [h2] at h
  · simp only [if_neg h2] at h
    exact raw_eq h

theorem key_ok (s : ByteArray) (p : Nat) (w : World) (hp0 : p < s.size) (hs : s.size ≤ 1000000) :
    Calls Tryz.prog 105 #[.agg #[.string s, .int .i64 p]] w fun e w' => Reads p (tokKey ((byts s).drop (p + 1))) e ∧ Below w.heap.size w w' := by
  have hp : p ≤ 1000000 := by omega
  have hsome := tokKey_some ((byts s).drop (p + 1))
  generalize hbo : decide ((signs ((byts s).drop (p + 1))).length ≤ 100) = bo at hsome
  generalize hbe : (signs ((byts s).drop (p + 1))).isEmpty = be at hsome
  have Hbo := Lib.hid hbo
  have Hbe := Lib.hid hbe
  have Hsome := Lib.hid hsome
  clear hbo hbe hsome
  cases bo <;> cases be
  all_goals (
    go_enter Tryz.func105, Tryz.ntmps105
    go_wp2_with (first | (go_at_call 121; refine (run_ok s p (p + 1) _ hs (by omega)).mono ?_; rintro e w1 ⟨⟨d, rfl, hd⟩, hb1⟩; have hd5 := signs_size hd hs; have Hd := Lib.hid hd; have hq := size_dec hd Hbo.out; have hem := empty_dec hd Hbe.out; have hbk := blk_box _ _ _ _ hb1 rfl; have hbx := blk_box0 _ _ _ _ hb1 rfl; have hlt := hbk.lt; obtain ⟨x0, x1⟩ := cells2 hbx; have Hbl := Lib.hid (below_box _ _ hb1); have Hbk := Lib.hid hbk; clear hb1 hbk hbx hd) | (go_at_call 118; refine (token_ok s p _ d (d.size + 1) _ hp (by omega) hd5).mono ?_; rintro e w2 ⟨rfl, hb2⟩; rw [hq]; have hA := Hbk.out.below hb2 hlt; have hA := hA.alloc (.cells #[.int .i8 4, .string d, .int .i64 p, .int .i64 (p + (d.size + 1))] 118); obtain ⟨⟨a0, a1, a2, a3⟩, ⟨g0, g1, g2, g3⟩⟩ := cells4 hA; have HA := Lib.hid hA; clear hA; have hbk2 := Hbk.out.below hb2 hlt; obtain ⟨⟨c0, c1, c2, c3⟩, ⟨f0, f1, f2, f3⟩⟩ := cells4 hbk2; have Hbl2 := Lib.hid (Hbl.out.trans (hb2.mono Hbl.out.size)); have Hbk2 := Lib.hid hbk2; clear hb2 hbk2 x0 x1 Hbk Hbl))
    have hput := put4 HA.out (.int .i8 4) (.string d) (.int .i64 p) (.int .i64 (p + (d.size + 1)))
    have hbl2 := below4 (Hbl2.out.alloc Hbl2.out.size (.cells #[.int .i8 4, .string d, .int .i64 p, .int .i64 (p + (d.size + 1))] 118)) (Nat.le_succ w.heap.size) (.int .i8 4) (.string d) (.int .i64 p) (.int .i64 (p + (d.size + 1)))
    clear HA Hbk2 Hbl2 c0 c1 c2 c3 f0 f1 f2 f3 a0 a1 a2 a3 g0 g1 g2 g3
    generalize ((((w2.alloc (.cells #[.int .i8 4, .string d, .int .i64 p, .int .i64 (p + (d.size + 1))] 118)).setCell ⟨w.heap.size + 1, 0, none⟩ (.int .i8 4)).setCell ⟨w.heap.size + 1, 1, none⟩ (.string d)).setCell ⟨w.heap.size + 1, 2, none⟩ (.int .i64 p)).setCell ⟨w.heap.size + 1, 3, none⟩ (.int .i64 (p + (d.size + 1))) = w3 at *
    obtain ⟨⟨c0, c1, c2, c3⟩, -⟩ := cells4 hput
    refine bodyPost_ret (v := .tuple #[.agg #[.int .i8 4, .string d, .int .i64 p, .int .i64 (p + (d.size + 1))], .bool _]) (by simp [results, Tryz.results105, go_sem, c0, c1, c2, c3]; rfl) rfl ⟨⟨4, d, p, p + (d.size + 1), by rw [Hsome.out]; rfl, ?_⟩, hbl2⟩
    intro r hr
    rw [tokKey_eq hr]
    exact ⟨rfl, Hd.out, rfl, by rw [← Hd.out, byts_len]; simp⟩)
end Go.Proofs.YtiklliiamljogaaGreatDoor

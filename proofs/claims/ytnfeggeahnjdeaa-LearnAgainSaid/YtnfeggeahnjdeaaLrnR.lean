/- What LearnAgain shares: great, both, same. -/
import Derived.Test.YtnfeggeahnjdeaaLrnN
import Derived.Test.YtnfeggeahnjdeaaLrnO
import Derived.Test.YtnfeggeahnjdeaaLrnQ
import Derived.Test.YtnfeggeahnjdeaaRefB
import Derived.Test.YtnfeggeahnjdeaaActs
import Derived.Deep.RegionHeld3
namespace Go.Proofs.Ytnfeggeahnjdeaa
open Go.RowKit Go.Lib

theorem Step.kept {B bt ba : Nat} {w w' : World} (h : Step B bt ba w w') : Kept (fun k => k = bt ∨ k = ba ∨ ∃ cs, Blk w k 66 cs) w w' :=
  ⟨h.below.os, h.below.tape, h.below.output, h.below.size, fun k hk hn => h.keep k hk (fun e => hn (.inl e)) (fun e => hn (.inr (.inl e))) (fun cs e => hn (.inr (.inr ⟨cs, e⟩)))⟩
section
variable {w w' : World} {B bt ba bu : Nat} {lu : Value} {M M' : Tr}
theorem UR.step (hu : UR w B bu lu M') (ht : TT w B bt ba M) (hs : Step B bt ba w w') : UR w' B bu lu M' := by
  obtain ⟨lv, ht⟩ := ht
  refine hu.keep hs.kept ?_ ?_
  · rintro (h | h | ⟨cs, h⟩)
    · exact hu.blk.ne_ ht.blk (by decide) h
    · exact hu.blk.ne_ ht.at_ (by decide) h
    · exact hu.blk.ne_ h (by decide) rfl
  · rintro g hg (h | h | ⟨cs, h⟩)
    · exact own_blk_ne hu.own ht.blk (by decide) (h ▸ hg)
    · exact own_blk_ne hu.own ht.at_ (by decide) (h ▸ hg)
    · exact own_blk_ne hu.own h (by decide) hg
theorem TT.ustep (ht : TT w B bt ba M) (hu : UR w B bu lu M') (hs : Kept (fun k => k = bu ∨ lu.ownBlock = some k) w w') : TT w' B bt ba M := by
  obtain ⟨lv, ht⟩ := ht
  refine ⟨lv, ht.keep hs ?_ ?_ ?_⟩
  · rintro (h | h)
    · exact ht.blk.ne_ hu.blk (by decide) h
    · exact own_blk_ne hu.own ht.blk (by decide) h
  · rintro (h | h)
    · exact ht.at_.ne_ hu.blk (by decide) h
    · exact own_blk_ne hu.own ht.at_ (by decide) h
  · rintro g hg (h | h)
    · exact own_blk_ne ht.own hu.blk (by decide) (h ▸ hg)
    · exact own_own_ne ht.own hu.own (by decide) hg h
theorem UR.below_of (h : UR w B bu lu M) (hk : Kept (fun k => k = bu ∨ lu.ownBlock = some k) w w') : Below B w w' := hk.below (Nat.le_of_lt (Nat.lt_of_le_of_lt h.hbu h.blk.lt)) fun k hk => by
  rcases hk with rfl | hk
  · exact h.hbu
  · exact (h.own.lt k hk).1
theorem UR.below (hu : UR w B bu lu M) (hb : Below w.heap.size w w') : UR w' B bu lu M := hu.keep (Kept.of_below (S := fun _ => False) hb) (fun h => h) (fun _ _ h => h)
theorem uput_T (hu : UR w B bu lu M) (lit reason : Int) :
    Calls Try.prog 26 #[.pointer (some ⟨bu, 0, none⟩), .int .i64 lit, .int .i64 reason] w fun e w' => e = .returned (.int .i64 (putE M lit reason)) ∧ (∃ lu', UR w' B bu lu' (putM M lit reason)) ∧ Kept (fun k => k = bu ∨ lu.ownBlock = some k) w w' := by
  unfold putE putM
  by_cases hb : putBad M lit reason = true
  · simp only [if_pos hb]
    have hbad : Calls Try.prog 26 #[.pointer (some ⟨bu, 0, none⟩), .int .i64 lit, .int .i64 reason] w fun e w' => e = .returned (.int .i64 2) ∧ w = w' := by
      by_cases h0 : lit < 0
      · exact uput_arg1 hu lit reason h0
      · by_cases h1 : (M.n : Int) ≤ lit / 2
        · exact uput_arg2 hu lit reason (by omega) h1
        · have h2 : reason < -1 := by
            simp [putBad, h0] at hb
            omega
          exact uput_arg3 hu lit reason (by omega) (by omega) h2
    refine hbad.mono ?_
    rintro e w' ⟨rfl, rfl⟩
    exact ⟨rfl, ⟨lu, hu⟩, Kept.refl _ _⟩
  · simp only [if_neg hb]
    simp [putBad] at hb
    obtain ⟨⟨g1, g2⟩, g3⟩ := hb
    cases hf : find M.L (lit / 2) with
    | some p =>
      refine (uput_there hu lit reason g1 g2 g3 p hf).mono ?_
      rintro e w' ⟨rfl, b⟩
      exact ⟨rfl, ⟨lu, hu.below b⟩, Kept.of_below b⟩
    | none =>
      refine (uput_new hu lit reason g1 g2 g3 hf).mono ?_
      rintro e w' ⟨lu', rfl, hu2, k⟩
      exact ⟨rfl, ⟨lu', hu2⟩, k⟩
theorem ubegin_T (hu : UR w B bu lu M) :
    Calls Try.prog 25 #[.pointer (some ⟨bu, 0, none⟩)] w fun e w' => e = .returned (.int .i64 (beginE M)) ∧ UR w' B bu lu (beginM M) ∧ Kept (fun k => k = bu ∨ lu.ownBlock = some k) w w' := by
  unfold beginE beginM
  by_cases hb : M.lv = 65536
  · simp only [if_pos hb]
    refine (ubegin_full hu hb).mono ?_
    rintro e w' ⟨rfl, rfl⟩
    exact ⟨rfl, hu, Kept.refl _ _⟩
  · simp only [if_neg hb]
    refine (ubegin_ok hu (by have := hu.ok.lv; omega)).mono ?_
    rintro e w' ⟨rfl, hu2, k⟩
    exact ⟨rfl, hu2, k.mono (fun _ _ h => .inl h)⟩
end

set_option maxHeartbeats 2000000 in
theorem both_ok (n : Nat) (hn : n ≤ 60) (A1 : Option Addr) (l1 c1 : Nat) (f : Nat → Int × Int × Int) (w : World) (w1 : IsActs w A1 l1 c1 f) (hl1 : l1 ≤ 150) :
    Calls Try.prog 12 #[.int .i64 n, .slice A1 l1 c1] w fun e w' => ∃ bt ba M pu, e = .returned (.tuple #[.pointer (some ⟨bt, 0, none⟩), .pointer pu, .bool true]) ∧ TT w' w.heap.size bt ba M ∧ Sorted M ∧ Below w.heap.size w w' := by
  go_enter Try.func12, Try.ntmps12
  go_wp2_with fail
  refine (new_ok n (by omega) _ w.heap.size (Nat.le_refl _)).mono ?_
  rintro e w2 ⟨bt, ba, rfl, t2, _, _, b2⟩
  go_wp2_with fail
  refine (unew_ok n (by omega) _ w.heap.size b2.size).mono ?_
  rintro e w3 ⟨bu, rfl, u3, b3⟩
  have hT : TT w3 w.heap.size bt ba ⟨n, [], 0⟩ := (show TT w2 w.heap.size bt ba ⟨n, [], 0⟩ from ⟨_, t2⟩).below b3
  have hB := below_then b2 (Nat.le_refl _) b3
  have W1 := Lib.hid w1
  have HT := Lib.hid hT
  have HU := Lib.hid u3
  have HB := Lib.hid hB
  clear w1 t2 b2 b3 hT u3 hB
  go_wp2_with fail
  go_loopw [9] (fun i wr => ∃ (k : Nat) (M : Tr) (lu : Value), k ≤ l1 ∧ i = .int .i64 k ∧ TT wr w.heap.size bt ba M ∧ UR wr w.heap.size bu lu M ∧ Sorted M ∧ Below w.heap.size w wr) (fun i _ => l1 - (intOf i).toNat)
  case atStart => exact ⟨0, _, _, Nat.zero_le _, rfl, HT.out, HU.out, Sorted.new n, HB.out⟩
  case round =>
    obtain ⟨k, M, lu, hk, rfl, ht, hu, hso, hb⟩ := hrel
    by_cases hlt : k < l1
    · obtain ⟨x0, rfl, hz⟩ : ∃ x, A1 = some x ∧ w.cell? (x.add (k * 3)) = some (.int .i64 (f k).1) ∧ w.cell? ((x.add (k * 3)).add 1) = some (.int .i64 (f k).2.1) ∧ w.cell? ((x.add (k * 3)).add 2) = some (.int .i64 (f k).2.2) := by
        rcases W1.out with ⟨_, h⟩ | ⟨x, hx, h1, _, h4⟩
        · omega
        · exact ⟨x, hx, h4 k (by omega)⟩
      obtain ⟨e0, e1, e2⟩ := hz
      have l0 := World.block_lt_of_cell? _ _ e0
      have g1 := World.block_lt_of_cell? _ _ e1
      have g2 := World.block_lt_of_cell? _ _ e2
      have f0 := (hb.cell l0).trans e0
      have f1 : wr.cell? ⟨(x0.add (k * 3)).block, (x0.add (k * 3)).off + 1, none⟩ = _ := (hb.cell g1).trans e1
      have f2 : wr.cell? ⟨(x0.add (k * 3)).block, (x0.add (k * 3)).off + 2, none⟩ = _ := (hb.cell g2).trans e2
      have t1 : (0 : Int) ≤ (k : Int) := by omega
      have t2 : (k : Int) < (l1 : Int) := by omega
      have d1 : decide ((k : Int) < (l1 : Int)) = true := decide_eq_true t2
      have d1' : decide (k < l1) = true := decide_eq_true hlt
      clear e0 e1 e2
      generalize (f k).1 = d at *
      generalize (f k).2.1 = a at *
      generalize (f k).2.2 = b at *
      have HT := Lib.hid ht
      have HU := Lib.hid hu
      have HS := Lib.hid hso
      have HB := Lib.hid hb
      clear ht hu hso hb
      have K1 := begin_T HT.out
      have K3 := put_T HT.out a b
      by_cases hd0 : d = 0
      · subst hd0
        clear K3
        go_wp2_with (first
          | (go_at_call 15; (with_reducible refine K1.mono ?_); rintro e w4 ⟨rfl, t4, s4⟩; have HT4 := Lib.hid t4; have HU4 := Lib.hid (HU.out.step HT.out s4); have HB4 := Lib.hid (HB.out.trans s4.below); clear t4 s4)
          | (go_at_call 25; refine (ubegin_T HU4.out).mono ?_; rintro e w5 ⟨rfl, u5, k5⟩; have HU5 := Lib.hid u5; have HT5 := Lib.hid (HT4.out.ustep HU4.out k5); have HB5 := Lib.hid (HB4.out.trans (HU4.out.below_of k5)); clear u5 k5))
        exact ⟨⟨k + 1, _, _, by omega, by go_num, HT5.out, HU5.out, HS.out.begin_, HB5.out⟩, by simp only [intOf]; omega⟩
      · have d2 : (d == 0) = false := by simp [hd0]
        clear K1 hd0
        have HT2 : TT wr.drew w.heap.size bt ba M := HT.out.below (below_drewN (Below.refl _ wr) 1)
        have HU2 : UR wr.drew w.heap.size bu lu M := HU.out.below (below_drewN (Below.refl _ wr) 1)
        have HBd : Below w.heap.size w wr.drew := below_drewN HB.out 1
        have K3 := put_T HT2 a b
        go_upto_region 10 with (fail)
        go_region_held3 (fun w' => w'.cell? ⟨(x0.add (k * 3)).block, (x0.add (k * 3)).off + 1, none⟩ = some (.int .i64 a) ∧ w'.cell? ⟨(x0.add (k * 3)).block, (x0.add (k * 3)).off + 2, none⟩ = some (.int .i64 b)) (go_keep)
          (first
            | (go_at_call 16; refine K3.mono ?_; rintro e w4 ⟨rfl, t4, s4⟩; have HU4 := HU2.step HT2 s4; have x14 := (s4.below.cell (p := ⟨(x0.add (k * 3)).block, (x0.add (k * 3)).off + 1, none⟩) g1).trans f1; have x24 := (s4.below.cell (p := ⟨(x0.add (k * 3)).block, (x0.add (k * 3)).off + 2, none⟩) g2).trans f2; have HB4 := HBd.trans s4.below)
            | (go_at_call 26; refine (uput_T HU4 a b).mono ?_; rintro e w5 ⟨rfl, ⟨lu5, u5⟩, k5⟩; have HT5 := t4.ustep HU4 k5; have hb5 := HU4.below_of k5; have x15 := (hb5.cell (p := ⟨(x0.add (k * 3)).block, (x0.add (k * 3)).off + 1, none⟩) g1).trans x14; have x25 := (hb5.cell (p := ⟨(x0.add (k * 3)).block, (x0.add (k * 3)).off + 2, none⟩) g2).trans x24; have HB5 := HB4.trans hb5))
        go_wp2
        exact ⟨⟨k + 1, _, _, by omega, by go_num, HT5, u5, HS.out.put a b, HB5⟩, by simp only [intOf]; omega⟩
    · obtain rfl : k = l1 := by omega
      have d1 : decide ((k : Int) < (k : Int)) = false := by simp
      have HT := Lib.hid ht
      have HS := Lib.hid hso
      have HB := Lib.hid hb
      clear ht hu hso hb
      go_wp2
      go_ret3
      exact ⟨bt, ba, M, _, rfl, HT.out, HS.out, HB.out⟩

def Great20 (n : Int) (l1 l2 : Nat) (L : Nat → Nat) (Z : Nat → List Int) (l3 : Nat) (w : World) (e : Ending) (w' : World) : Prop :=
  ∃ b : Bool, e = .returned (.bool b) ∧ w = w' ∧ (b = false → 0 ≤ n ∧ n ≤ 60 ∧ l1 ≤ 150 ∧ NotGreat l2 L Z false ∧ l3 ≤ 100)
theorem Great20.yes (n : Int) (l1 l2 : Nat) (L : Nat → Nat) (Z : Nat → List Int) (l3 : Nat) (w : World) : Great20 n l1 l2 L Z l3 w (.returned (.bool true)) w := ⟨true, rfl, rfl, fun h => by cases h⟩
set_option maxHeartbeats 1000000 in
theorem great20_ok {w : World} (n : Int) (A1 : Option Addr) (l1 c1 : Nat) {a : Option Addr} {len cap : Nat} {A : Nat → Option Addr} {L C : Nat → Nat} {Z : Nat → List Int} (A3 : Option Addr) (l3 c3 : Nat) (h : IsGrid w a len cap A L C Z) :
    Calls Try.prog 11 #[.int .i64 n, .slice A1 l1 c1, .slice a len cap, .slice A3 l3 c3] w (Great20 n l1 len L Z l3 w) := by
  have K := Lib.hid (great15_ok h)
  clear h
  by_cases h60 : 60 < n
  · have d1 : decide (60 < n) = true := decide_eq_true h60
    clear h60
    go_enter Try.func11, Try.ntmps11
    go_wp2
    go_ret
    exact Great20.yes _ _ _ _ _ _ _
  have d1 : decide (60 < n) = false := decide_eq_false h60
  by_cases h0 : n < 0
  · have d2 : decide (n < 0) = true := decide_eq_true h0
    clear h0 h60
    go_enter Try.func11, Try.ntmps11
    go_wp2
    go_ret
    exact Great20.yes _ _ _ _ _ _ _
  have d2 : decide (n < 0) = false := decide_eq_false h0
  by_cases h1 : 150 < l1
  · have d3 : decide (150 < l1) = true := decide_eq_true h1
    have d3' : decide ((150 : Int) < (l1 : Int)) = true := decide_eq_true (by omega)
    clear h0 h60 h1
    go_enter Try.func11, Try.ntmps11
    go_wp2
    go_ret
    exact Great20.yes _ _ _ _ _ _ _
  have d3 : decide (150 < l1) = false := decide_eq_false h1
  have d3' : decide ((150 : Int) < (l1 : Int)) = false := decide_eq_false (by omega)
  by_cases h3 : 100 < l3
  · have d4 : decide (100 < l3) = true := decide_eq_true h3
    have d4' : decide ((100 : Int) < (l3 : Int)) = true := decide_eq_true (by omega)
    clear h0 h60 h1 h3
    go_enter Try.func11, Try.ntmps11
    go_wp2_with (go_at_call 5; (with_reducible refine K.out.mono ?_); rintro e w1 ⟨bb, rfl, rfl, hbb⟩; clear hbb; cases bb)
    all_goals (go_ret; exact Great20.yes _ _ _ _ _ _ _)
  have d4 : decide (100 < l3) = false := decide_eq_false h3
  have d4' : decide ((100 : Int) < (l3 : Int)) = false := decide_eq_false (by omega)
  have HX := Lib.hid (show 0 ≤ n ∧ n ≤ 60 ∧ l1 ≤ 150 ∧ l3 ≤ 100 by omega)
  clear h0 h60 h1 h3
  go_enter Try.func11, Try.ntmps11
  go_wp2_with (go_at_call 5; (with_reducible refine K.out.mono ?_); rintro e w1 ⟨bb, rfl, rfl, hbb⟩; have HBB := Lib.hid hbb; clear hbb; cases bb)
  all_goals go_ret
  all_goals first
    | exact Great20.yes _ _ _ _ _ _ _
    | exact ⟨false, rfl, rfl, fun _ => ⟨HX.out.1, HX.out.2.1, HX.out.2.2.1, HBB.out, HX.out.2.2.2⟩⟩
end Go.Proofs.Ytnfeggeahnjdeaa

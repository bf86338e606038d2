/- Both trails at once, each nil or a model: one contract a function. -/
import Derived.Test.YtfdfblokbojcfaaRefC
import Derived.Test.YtfdfblokbojcfaaTrailL
import Derived.Test.YtfdfblokbojcfaaTrailH
namespace Go.Proofs.Ytfdfblokbojcfaa
open Go.RowKit

def TP (w : World) (B : Nat) (v : Value) : Option Tr → Prop
  | none => v = .pointer none
  | some M => ∃ bt ba, v = .pointer (some ⟨bt, 0, none⟩) ∧ TT w B bt ba M
def UP (w : World) (B : Nat) (v : Value) : Option Tr → Prop
  | none => v = .pointer none
  | some M => ∃ bu lu, v = .pointer (some ⟨bu, 0, none⟩) ∧ UR w B bu lu M
structure PP (w : World) (B : Nat) (v u : Value) (m1 m2 : Option Tr) : Prop where
  t : TP w B v m1
  u : UP w B u m2

theorem Step.kept {B bt ba : Nat} {w w' : World} (h : Step B bt ba w w') : Kept (fun k => k = bt ∨ k = ba ∨ ∃ cs, Blk w k 56 cs) w w' :=
  ⟨h.below.os, h.below.tape, h.below.output, h.below.size, fun k hk hn => h.keep k hk (fun e => hn (.inl e)) (fun e => hn (.inr (.inl e))) (fun cs e => hn (.inr (.inr ⟨cs, e⟩)))⟩

section
variable {w w' : World} {B : Nat} {v u : Value} {m m1 m2 : Option Tr}
theorem UP.step {bt ba : Nat} {M : Tr} (h : UP w B u m) (ht : TT w B bt ba M) (hs : Step B bt ba w w') : UP w' B u m := by
  cases m with
  | none => exact h
  | some N =>
    obtain ⟨bu, lu, rfl, hu⟩ := h
    obtain ⟨lv, ht⟩ := ht
    refine ⟨bu, lu, rfl, hu.keep hs.kept ?_ ?_⟩
    · rintro (h | h | ⟨cs, h⟩)
      · exact hu.blk.ne_ ht.blk (by decide) h
      · exact hu.blk.ne_ ht.at_ (by decide) h
      · exact hu.blk.ne_ h (by decide) rfl
    · rintro g hg (h | h | ⟨cs, h⟩)
      · exact own_blk_ne hu.own ht.blk (by decide) (h ▸ hg)
      · exact own_blk_ne hu.own ht.at_ (by decide) (h ▸ hg)
      · exact own_blk_ne hu.own h (by decide) hg
theorem TP.ustep {bu : Nat} {lu : Value} {M : Tr} (h : TP w B v m) (hu : UR w B bu lu M) (hs : Kept (fun k => k = bu ∨ lu.ownBlock = some k) w w') : TP w' B v m := by
  cases m with
  | none => exact h
  | some N =>
    obtain ⟨bt, ba, rfl, lv, ht⟩ := h
    refine ⟨bt, ba, rfl, lv, ht.keep hs ?_ ?_ ?_⟩
    · rintro (h | h)
      · exact ht.blk.ne_ hu.blk (by decide) h
      · exact own_blk_ne hu.own ht.blk (by decide) h
    · rintro (h | h)
      · exact ht.at_.ne_ hu.blk (by decide) h
      · exact own_blk_ne hu.own ht.at_ (by decide) h
    · rintro g hg (h | h)
      · exact own_blk_ne ht.own hu.blk (by decide) (h ▸ hg)
      · exact own_own_ne ht.own hu.own (by decide) hg h
theorem TP.below (h : TP w B v m) (hb : Below w.heap.size w w') : TP w' B v m := by
  cases m with
  | none => exact h
  | some M =>
    obtain ⟨bt, ba, rfl, ht⟩ := h
    exact ⟨bt, ba, rfl, ht.below hb⟩
theorem UP.below (h : UP w B u m) (hb : Below w.heap.size w w') : UP w' B u m := by
  cases m with
  | none => exact h
  | some M =>
    obtain ⟨bu, lu, rfl, hu⟩ := h
    exact ⟨bu, lu, rfl, hu.keep (Kept.of_below (S := fun _ => False) hb) (fun h => h) (fun _ _ h => h)⟩
theorem PP.below (h : PP w B v u m1 m2) (hb : Below w.heap.size w w') : PP w' B v u m1 m2 := ⟨h.t.below hb, h.u.below hb⟩
theorem PP.drewN (h : PP w B v u m1 m2) (n : Nat) : PP (w.drewN n) B v u m1 m2 := h.below ⟨rfl, rfl, rfl, Nat.le_refl _, fun _ _ => rfl⟩

/-- What is of no type of the trail's is as it was. -/
def FarT (w w' : World) : Prop := ∀ (k : Nat) (t : TypeId) (cs : Array Value), Blk w k t cs → t ≠ 54 → t ≠ 3 → t ≠ 56 → Blk w' k t cs
def FarU (w w' : World) : Prop := ∀ (k : Nat) (t : TypeId) (cs : Array Value), Blk w k t cs → t ≠ 61 → t ≠ 63 → Blk w' k t cs
theorem FarT.refl (w : World) : FarT w w := fun _ _ _ h _ _ _ => h
theorem FarU.refl (w : World) : FarU w w := fun _ _ _ h _ _ => h
theorem FarT.of_below (hb : Below w.heap.size w w') : FarT w w' := fun _ _ _ h _ _ _ => h.below hb h.lt
theorem FarU.of_below (hb : Below w.heap.size w w') : FarU w w' := fun _ _ _ h _ _ => h.below hb h.lt
theorem FarT.of_step {bt ba : Nat} {M : Tr} (ht : TT w B bt ba M) (hs : Step B bt ba w w') : FarT w w' := fun k t cs hb h1 h2 h3 => by
  obtain ⟨lv, ht⟩ := ht
  exact hs.blk hb (hb.ne_ ht.blk h1) (hb.ne_ ht.at_ h2) h3
theorem FarU.of_kept {bu : Nat} {lu : Value} {M : Tr} (hu : UR w B bu lu M) (hs : Kept (fun k => k = bu ∨ lu.ownBlock = some k) w w') : FarU w w' := fun k t cs hb h1 h2 => hb.kept hs (by
  rintro (h | h)
  · exact hb.ne_ hu.blk h1 h
  · exact own_blk_ne hu.own hb (fun e => h2 e.symm) h)
theorem IntsFrom.farU {H : Nat} {v : Value} {l : List Int} (h : IntsFrom w H v l) (hf : FarU w w') : IntsFrom w' H v l := by
  refine ⟨h.1, ?_⟩
  rcases h.2 with hn | ⟨g, cap, cur, rfl, hb, hgg, rest⟩
  · exact .inl hn
  · exact .inr ⟨g, cap, cur, rfl, hb, hf _ _ _ hgg (by decide) (by decide), rest⟩

def oputE : Option Tr → Int → Int → Int
  | none, _, _ => 3
  | some M, lit, reason => putE M lit reason
def oput : Option Tr → Int → Int → Option Tr
  | none, _, _ => none
  | some M, lit, reason => some (putM M lit reason)
def obeginE : Option Tr → Int
  | none => 3
  | some M => beginE M
def obegin : Option Tr → Option Tr
  | none => none
  | some M => some (beginM M)
def obackE : Option Tr → Int → Int
  | none, _ => 3
  | some M, lev => backE M lev
def oback : Option Tr → Int → Option Tr
  | none, _ => none
  | some M, lev => some (backM M lev)
def ogone : Option Tr → Int → List Int
  | none, _ => []
  | some M, lev => backGone M lev
def oval : Option Tr → Int → Int
  | none, _ => 0
  | some M, lit => valOf M.L lit
def olevel : Option Tr → Int → Int
  | none, _ => -1
  | some M, nd => levelOf M.L nd
def oreason : Option Tr → Int → Int
  | none, _ => -1
  | some M, nd => reasonOf M.L nd
def olevels : Option Tr → Int
  | none => 0
  | some M => M.lv
def oall : Option Tr → List Int
  | none => []
  | some M => M.L.map Pt.lit
def obehind : Option Tr → Int → List Int
  | none, _ => []
  | some M, at_ => (M.L.drop (clampAt at_ M.L.length)).map Pt.lit
def ovals : Option Tr → List Int
  | none => []
  | some M => valsOf M.n M.L

/-- The int8 values of a slice of its own. -/
def ValsFrom (w : World) (H : Nat) (v : Value) (l : List Int) : Prop :=
  ∃ A, v = .slice A l.length l.length ∧ ∀ j (h : j < l.length), ∃ g, A = some ⟨g, 0, none⟩ ∧ H ≤ g ∧ g < w.heap.size ∧ w.cell? ⟨g, j, none⟩ = some (.int .i8 l[j])
theorem ValsFrom.below {H : Nat} {l : List Int} (h : ValsFrom w H v l) (hb : Below w.heap.size w w') : ValsFrom w' H v l := by
  obtain ⟨A, rfl, hc⟩ := h
  refine ⟨A, rfl, fun j hj => ?_⟩
  obtain ⟨g, hg, h1, h2, h3⟩ := hc j hj
  exact ⟨g, hg, h1, Nat.lt_of_lt_of_le h2 hb.size, (hb.cell (p := ⟨g, j, none⟩) h2).trans h3⟩
theorem IntsFrom.nil (w : World) (H : Nat) : IntsFrom w H (.slice none 0 0) [] := World.ownsRow_nil _ _ _ _
theorem vals_from {H n : Nat} {L : List Pt} {g : Nat} (hg : H ≤ g) (hv : Blk w g 32 (valCells n L)) : ValsFrom w H (.slice (some ⟨g, 0, none⟩) n n) (valsOf n L) := by
  have hl : (valsOf n L).length = n := by simp [valsOf]
  refine ⟨_, by rw [hl], fun j hj => ⟨g, rfl, hg, hv.lt, ?_⟩⟩
  rw [hv.cell]
  simp [valCells, hj]

theorem beginE_eq {M : Tr} (h : M.lv = 65536) : beginE M = 2 := if_pos h
theorem beginE_ne {M : Tr} (h : ¬ M.lv = 65536) : beginE M = 0 := if_neg h

theorem put_P (h : PP w B v u m1 m2) (lit reason : Int) :
    Calls Try.prog 10 #[v, .int .i64 lit, .int .i64 reason] w fun e w' => e = .returned (.int .i64 (oputE m1 lit reason)) ∧ PP w' B v u (oput m1 lit reason) m2 ∧ Below B w w' ∧ FarT w w' := by
  cases m1 with
  | none =>
    obtain rfl := h.t
    refine (put_nil _ _).mono ?_
    rintro e w' ⟨rfl, rfl⟩
    exact ⟨rfl, h, Below.refl _ _, FarT.refl _⟩
  | some M =>
    obtain ⟨bt, ba, rfl, ht⟩ := h.t
    refine (put_T ht _ _).mono ?_
    rintro e w' ⟨rfl, ht2, hs⟩
    exact ⟨rfl, ⟨⟨bt, ba, rfl, ht2⟩, h.u.step ht hs⟩, hs.below, FarT.of_step ht hs⟩
theorem begin_P (h : PP w B v u m1 m2) :
    Calls Try.prog 9 #[v] w fun e w' => e = .returned (.int .i64 (obeginE m1)) ∧ PP w' B v u (obegin m1) m2 ∧ Below B w w' ∧ FarT w w' := by
  cases m1 with
  | none =>
    obtain rfl := h.t
    refine begin_nil.mono ?_
    rintro e w' ⟨rfl, rfl⟩
    exact ⟨rfl, h, Below.refl _ _, FarT.refl _⟩
  | some M =>
    obtain ⟨bt, ba, rfl, ht⟩ := h.t
    refine (begin_T ht).mono ?_
    rintro e w' ⟨rfl, ht2, hs⟩
    exact ⟨rfl, ⟨⟨bt, ba, rfl, ht2⟩, h.u.step ht hs⟩, hs.below, FarT.of_step ht hs⟩
theorem back_P (h : PP w B v u m1 m2) (hB : B ≤ w.heap.size) (lev : Int) :
    Calls Try.prog 21 #[v, .int .i64 lev] w fun e w' => ∃ g, e = .returned (.tuple #[g, .int .i64 (obackE m1 lev)]) ∧ IntsFrom w' w.heap.size g (ogone m1 lev) ∧ PP w' B v u (oback m1 lev) m2 ∧ Below B w w' ∧ FarT w w' := by
  cases m1 with
  | none =>
    obtain rfl := h.t
    refine (back_nil _).mono ?_
    rintro e w' ⟨rfl, b⟩
    exact ⟨_, rfl, IntsFrom.nil _ _, h.below b, b.mono hB, FarT.of_below b⟩
  | some M =>
    obtain ⟨bt, ba, rfl, ht⟩ := h.t
    refine (back_T ht _).mono ?_
    rintro e w' ⟨g, rfl, o, ht2, hs⟩
    exact ⟨g, rfl, o, ⟨⟨bt, ba, rfl, ht2⟩, h.u.step ht hs⟩, hs.below, FarT.of_step ht hs⟩
theorem UR.below_of {bu : Nat} {lu : Value} {M : Tr} (h : UR w B bu lu M) (hB : B ≤ w.heap.size) (hk : Kept (fun k => k = bu ∨ lu.ownBlock = some k) w w') : Below B w w' := hk.below hB fun k hk => by
  rcases hk with rfl | hk
  · exact h.hbu
  · exact (h.own.lt k hk).1
theorem UR.hB {bu : Nat} {lu : Value} {M : Tr} (h : UR w B bu lu M) : B ≤ w.heap.size := Nat.le_of_lt (Nat.lt_of_le_of_lt h.hbu h.blk.lt)
theorem uput_P (h : PP w B v u m1 m2) (lit reason : Int) :
    Calls Try.prog 19 #[u, .int .i64 lit, .int .i64 reason] w fun e w' => e = .returned (.int .i64 (oputE m2 lit reason)) ∧ PP w' B v u m1 (oput m2 lit reason) ∧ Below B w w' ∧ FarU w w' := by
  cases m2 with
  | none =>
    obtain rfl := h.u
    refine (uput_nil _ _).mono ?_
    rintro e w' ⟨rfl, rfl⟩
    exact ⟨rfl, h, Below.refl _ _, FarU.refl _⟩
  | some M =>
    obtain ⟨bu, lu, rfl, hu⟩ := h.u
    unfold oputE oput putE putM
    by_cases hb : putBad M lit reason = true
    · simp only [if_pos hb]
      have hbad : Calls Try.prog 19 #[.pointer (some ⟨bu, 0, none⟩), .int .i64 lit, .int .i64 reason] w fun e w' => e = .returned (.int .i64 2) ∧ w = w' := by
        by_cases h0 : lit < 0
        · exact uput_arg1 hu lit reason h0
        · by_cases h1 : (M.n : Int) ≤ lit / 2
          · exact uput_arg2 hu lit reason (by omega) h1
          · have h2 : reason < -1 := by
              simp [putBad, h0] at hb
              omega
            exact uput_arg3 hu lit reason (by omega) (by omega) h2
      refine hbad.mono ?_
      rintro e w' ⟨rfl, rfl⟩
      exact ⟨rfl, h, Below.refl _ _, FarU.refl _⟩
    · simp only [if_neg hb]
      simp [putBad] at hb
      obtain ⟨⟨g1, g2⟩, g3⟩ := hb
      cases hf : find M.L (lit / 2) with
      | some p =>
        refine (uput_there hu lit reason g1 g2 g3 p hf).mono ?_
        rintro e w' ⟨rfl, b⟩
        exact ⟨rfl, h.below b, b.mono hu.hB, FarU.of_below b⟩
      | none =>
        refine (uput_new hu lit reason g1 g2 g3 hf).mono ?_
        rintro e w' ⟨lu', rfl, hu2, k⟩
        exact ⟨rfl, ⟨h.t.ustep hu k, ⟨bu, lu', rfl, hu2⟩⟩, hu.below_of hu.hB k, FarU.of_kept hu k⟩
theorem ubegin_P (h : PP w B v u m1 m2) :
    Calls Try.prog 20 #[u] w fun e w' => e = .returned (.int .i64 (obeginE m2)) ∧ PP w' B v u m1 (obegin m2) ∧ Below B w w' ∧ FarU w w' := by
  cases m2 with
  | none =>
    obtain rfl := h.u
    refine ubegin_nil.mono ?_
    rintro e w' ⟨rfl, rfl⟩
    exact ⟨rfl, h, Below.refl _ _, FarU.refl _⟩
  | some M =>
    obtain ⟨bu, lu, rfl, hu⟩ := h.u
    unfold obeginE obegin beginE beginM
    by_cases hb : M.lv = 65536
    · simp only [if_pos hb]
      refine (ubegin_full hu hb).mono ?_
      rintro e w' ⟨rfl, rfl⟩
      exact ⟨rfl, h, Below.refl _ _, FarU.refl _⟩
    · simp only [if_neg hb]
      refine (ubegin_ok hu (by have := hu.ok.lv; omega)).mono ?_
      rintro e w' ⟨rfl, hu2, k⟩
      have k2 : Kept (fun k => k = bu ∨ lu.ownBlock = some k) w w' := k.mono (fun _ _ h => .inl h)
      exact ⟨rfl, ⟨h.t.ustep hu k2, ⟨bu, lu, rfl, hu2⟩⟩, hu.below_of hu.hB k2, FarU.of_kept hu k2⟩
theorem uback_P (h : PP w B v u m1 m2) (lev : Int) :
    Calls Try.prog 22 #[u, .int .i64 lev] w fun e w' => ∃ g, e = .returned (.tuple #[g, .int .i64 (obackE m2 lev)]) ∧ IntsFrom w' w.heap.size g (ogone m2 lev) ∧ PP w' B v u m1 (oback m2 lev) ∧ Below B w w' ∧ FarU w w' := by
  cases m2 with
  | none =>
    obtain rfl := h.u
    refine (uback_nil _).mono ?_
    rintro e w' ⟨rfl, rfl⟩
    exact ⟨_, rfl, IntsFrom.nil _ _, h, Below.refl _ _, FarU.refl _⟩
  | some M =>
    obtain ⟨bu, lu, rfl, hu⟩ := h.u
    unfold obackE oback ogone backE backM backGone
    by_cases hb : backBad M lev = true
    · simp only [if_pos hb]
      refine (uback_arg hu lev (by simpa [backBad] using hb)).mono ?_
      rintro e w' ⟨rfl, rfl⟩
      exact ⟨_, rfl, IntsFrom.nil _ _, h, Below.refl _ _, FarU.refl _⟩
    · simp only [if_neg hb]
      simp [backBad] at hb
      obtain ⟨k, rfl⟩ := Int.eq_ofNat_of_zero_le hb.1
      refine (uback_ok hu k (by omega)).mono ?_
      rintro e w' ⟨g, lu', rfl, o, hu2, kk⟩
      have k2 : Kept (fun k => k = bu ∨ lu.ownBlock = some k) w w' := kk.mono (fun _ _ h => .inl h)
      refine ⟨g, rfl, ?_, ⟨h.t.ustep hu k2, ⟨bu, lu', rfl, hu2⟩⟩, hu.below_of hu.hB k2, FarU.of_kept hu k2⟩
      unfold IntsFrom
      have hl : ((M.L.reverse.take (above k M.L)).map Pt.lit).length = above k M.L := by have := above_le k M.L; simp; omega
      rw [hl, List.map_map]
      exact o
theorem val_P (h : TP w B v m) (x : Int) :
    Calls Try.prog 12 #[v, .int .i64 x] w fun e w' => e = .returned (.int .i8 (oval m x)) ∧ Below w.heap.size w w' := by
  cases m with
  | none =>
    obtain rfl := h
    refine (val_nil _).mono ?_
    rintro e w' ⟨rfl, b⟩
    exact ⟨rfl, b⟩
  | some M =>
    obtain ⟨b1, b2, rfl, ht⟩ := h
    refine (val_T ht _).mono ?_
    rintro e w' ⟨rfl, b⟩
    exact ⟨rfl, b⟩
theorem level_P (h : TP w B v m) (x : Int) :
    Calls Try.prog 13 #[v, .int .i64 x] w fun e w' => e = .returned (.int .i64 (olevel m x)) ∧ Below w.heap.size w w' := by
  cases m with
  | none =>
    obtain rfl := h
    refine (level_nil _).mono ?_
    rintro e w' ⟨rfl, b⟩
    exact ⟨rfl, b⟩
  | some M =>
    obtain ⟨b1, b2, rfl, ht⟩ := h
    refine (level_T ht _).mono ?_
    rintro e w' ⟨rfl, b⟩
    exact ⟨rfl, b⟩
theorem reason_P (h : TP w B v m) (x : Int) :
    Calls Try.prog 24 #[v, .int .i64 x] w fun e w' => e = .returned (.int .i64 (oreason m x)) ∧ Below w.heap.size w w' := by
  cases m with
  | none =>
    obtain rfl := h
    refine (reason_nil _).mono ?_
    rintro e w' ⟨rfl, b⟩
    exact ⟨rfl, b⟩
  | some M =>
    obtain ⟨b1, b2, rfl, ht⟩ := h
    refine (reason_T ht _).mono ?_
    rintro e w' ⟨rfl, b⟩
    exact ⟨rfl, b⟩
theorem levels_P (h : TP w B v m) :
    Calls Try.prog 14 #[v] w fun e w' => e = .returned (.int .i64 (olevels m)) ∧ Below w.heap.size w w' := by
  cases m with
  | none =>
    obtain rfl := h
    refine (levels_nil).mono ?_
    rintro e w' ⟨rfl, rfl⟩
    exact ⟨rfl, Below.refl _ _⟩
  | some M =>
    obtain ⟨b1, b2, rfl, ht⟩ := h
    refine (levels_T ht).mono ?_
    rintro e w' ⟨rfl, rfl⟩
    exact ⟨rfl, Below.refl _ _⟩
theorem uval_P (h : UP w B v m) (x : Int) :
    Calls Try.prog 28 #[v, .int .i64 x] w fun e w' => e = .returned (.int .i8 (oval m x)) ∧ Below w.heap.size w w' := by
  cases m with
  | none =>
    obtain rfl := h
    refine (uval_nil _).mono ?_
    rintro e w' ⟨rfl, b⟩
    exact ⟨rfl, b⟩
  | some M =>
    obtain ⟨b1, b2, rfl, ht⟩ := h
    refine (uval_ok ht _).mono ?_
    rintro e w' ⟨rfl, b⟩
    exact ⟨rfl, b⟩
theorem ulevel_P (h : UP w B v m) (x : Int) :
    Calls Try.prog 29 #[v, .int .i64 x] w fun e w' => e = .returned (.int .i64 (olevel m x)) ∧ Below w.heap.size w w' := by
  cases m with
  | none =>
    obtain rfl := h
    refine (ulevel_nil _).mono ?_
    rintro e w' ⟨rfl, b⟩
    exact ⟨rfl, b⟩
  | some M =>
    obtain ⟨b1, b2, rfl, ht⟩ := h
    refine (ulevel_ok ht _).mono ?_
    rintro e w' ⟨rfl, b⟩
    exact ⟨rfl, b⟩
theorem ureason_P (h : UP w B v m) (x : Int) :
    Calls Try.prog 30 #[v, .int .i64 x] w fun e w' => e = .returned (.int .i64 (oreason m x)) ∧ Below w.heap.size w w' := by
  cases m with
  | none =>
    obtain rfl := h
    refine (ureason_nil _).mono ?_
    rintro e w' ⟨rfl, b⟩
    exact ⟨rfl, b⟩
  | some M =>
    obtain ⟨b1, b2, rfl, ht⟩ := h
    refine (ureason_ok ht _).mono ?_
    rintro e w' ⟨rfl, b⟩
    exact ⟨rfl, b⟩
theorem ubegun_P (h : UP w B v m) :
    Calls Try.prog 31 #[v] w fun e w' => e = .returned (.int .i64 (olevels m)) ∧ Below w.heap.size w w' := by
  cases m with
  | none =>
    obtain rfl := h
    refine (ubegun_nil).mono ?_
    rintro e w' ⟨rfl, rfl⟩
    exact ⟨rfl, Below.refl _ _⟩
  | some M =>
    obtain ⟨b1, b2, rfl, ht⟩ := h
    refine (ubegun_ok ht).mono ?_
    rintro e w' ⟨rfl, rfl⟩
    exact ⟨rfl, Below.refl _ _⟩
theorem all_P (h : TP w B v m) :
    Calls Try.prog 15 #[v] w fun e w' => ∃ g, e = .returned g ∧ IntsFrom w' w.heap.size g (oall m) ∧ Below w.heap.size w w' := by
  cases m with
  | none =>
    obtain rfl := h
    refine (all_nil _).mono ?_
    rintro e w' ⟨g, rfl, o, b⟩
    exact ⟨g, rfl, o, b⟩
  | some M =>
    obtain ⟨b1, b2, rfl, ht⟩ := h
    refine (all_T ht).mono ?_
    rintro e w' ⟨g, rfl, o, b⟩
    exact ⟨g, rfl, o, b⟩
theorem uall_P (h : UP w B v m) :
    Calls Try.prog 32 #[v] w fun e w' => ∃ g, e = .returned g ∧ IntsFrom w' w.heap.size g (oall m) ∧ Below w.heap.size w w' := by
  cases m with
  | none =>
    obtain rfl := h
    refine (uall_nil _).mono ?_
    rintro e w' ⟨g, rfl, o, b⟩
    exact ⟨g, rfl, o, b⟩
  | some M =>
    obtain ⟨b1, b2, rfl, ht⟩ := h
    refine (uall_ok ht).mono ?_
    rintro e w' ⟨g, rfl, o, b⟩
    exact ⟨g, rfl, by unfold IntsFrom; simp only [oall]; rw [List.length_map, List.map_map]; exact o, b⟩
theorem behind_P (h : TP w B v m) (x : Int) :
    Calls Try.prog 17 #[v, .int .i64 x] w fun e w' => ∃ g, e = .returned g ∧ IntsFrom w' w.heap.size g (obehind m x) ∧ Below w.heap.size w w' := by
  cases m with
  | none =>
    obtain rfl := h
    refine (behind_nil _ _).mono ?_
    rintro e w' ⟨g, rfl, o, b⟩
    exact ⟨g, rfl, o, b⟩
  | some M =>
    obtain ⟨b1, b2, rfl, ht⟩ := h
    refine (behind_T ht _).mono ?_
    rintro e w' ⟨g, rfl, o, b⟩
    exact ⟨g, rfl, o, b⟩
theorem ubehind_P (h : UP w B v m) (x : Int) :
    Calls Try.prog 33 #[v, .int .i64 x] w fun e w' => ∃ g, e = .returned g ∧ IntsFrom w' w.heap.size g (obehind m x) ∧ Below w.heap.size w w' := by
  cases m with
  | none =>
    obtain rfl := h
    refine (ubehind_nil _ _).mono ?_
    rintro e w' ⟨g, rfl, o, b⟩
    exact ⟨g, rfl, o, b⟩
  | some M =>
    obtain ⟨b1, b2, rfl, ht⟩ := h
    refine (ubehind_ok ht _).mono ?_
    rintro e w' ⟨g, rfl, o, b⟩
    exact ⟨g, rfl, by unfold IntsFrom; simp only [obehind]; rw [List.length_map, List.map_map]; exact o, b⟩
theorem values_P (h : TP w B v m) :
    Calls Try.prog 11 #[v] w fun e w' => ∃ g, e = .returned g ∧ ValsFrom w' w.heap.size g (ovals m) ∧ Below w.heap.size w w' := by
  cases m with
  | none =>
    obtain rfl := h
    refine (values_nil _).mono ?_
    rintro e w' ⟨rfl, rfl⟩
    exact ⟨_, rfl, ⟨none, rfl, fun j hj => by cases hj⟩, Below.refl _ _⟩
  | some M =>
    obtain ⟨b1, b2, rfl, ht⟩ := h
    refine (values_T ht).mono ?_
    rintro e w' ⟨g, rfl, hg, hv, b⟩
    exact ⟨_, rfl, vals_from hg hv, b⟩
theorem uvalues_P (h : UP w B v m) :
    Calls Try.prog 34 #[v] w fun e w' => ∃ g, e = .returned g ∧ ValsFrom w' w.heap.size g (ovals m) ∧ Below w.heap.size w w' := by
  cases m with
  | none =>
    obtain rfl := h
    refine (uvalues_nil _).mono ?_
    rintro e w' ⟨rfl, rfl⟩
    exact ⟨_, rfl, ⟨none, rfl, fun j hj => by cases hj⟩, Below.refl _ _⟩
  | some M =>
    obtain ⟨b1, b2, rfl, ht⟩ := h
    refine (uvalues_ok ht).mono ?_
    rintro e w' ⟨g, rfl, hg, hv, b⟩
    exact ⟨_, rfl, vals_from hg hv, b⟩
end
end Go.Proofs.Ytfdfblokbojcfaa

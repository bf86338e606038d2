/- The contracts as the laws use them: one a function, whatever the arguments. -/
import Derived.Test.YtnfeggeahnjdeaaTrailC
import Derived.Test.YtnfeggeahnjdeaaTrailD
namespace Go.Proofs.Ytnfeggeahnjdeaa
open Go.RowKit

theorem TR.keep {S : Nat → Prop} {w w' : World} {B bt ba : Nat} {lv : Value} {M : Tr} (h : TR w B bt ba lv M) (hk : Kept S w w') (h1 : ¬ S bt) (h2 : ¬ S ba) (h3 : ∀ g, lv.ownBlock = some g → ¬ S g) : TR w' B bt ba lv M :=
  ⟨h.blk.kept hk h1, h.at_.kept hk h2, own_kept h.own hk h3, h.hbt, h.hba, h.ok⟩

/-- The numbers of a slice. -/
def IntsAt (w : World) (A : Option Addr) (n : Nat) (l : List Int) : Prop :=
  l.length = n ∧ (0 < n → ∃ ad, A = some ad ∧ ad.block < w.heap.size ∧ ∀ j (h : j < l.length), w.cell? (ad.add j) = some (.int .i64 l[j]))

theorem IntsAt.of_own {w : World} {base : Nat} {t : TypeId} {A : Option Addr} {n cap : Nat} {l : List Int} (h : w.ownsRow base t 1 (.slice A n cap) l.length (l.map (Value.int .i64))) : IntsAt w A n l := by
  rcases h.2 with ⟨hv, h0⟩ | ⟨g, cap', cur, hv, _, hg, _⟩
  · injection hv with h1 h2 h3
    exact ⟨by rw [h0, h2], fun hn => by omega⟩
  · injection hv with h1 h2 h3
    subst h1
    refine ⟨h2.symm, fun _ => ⟨_, rfl, Blk.lt hg, fun j hj => ?_⟩⟩
    have := h.cells (g := g) rfl j (.int .i64 l[j])
    exact this (by simp [hj])


/-- But for the trail's own blocks all is as it was; below B all is. -/
structure Step (B bt ba : Nat) (w w' : World) : Prop where
  keep : ∀ k, k < w.heap.size → k ≠ bt → k ≠ ba → (∀ cs, ¬ Blk w k 66 cs) → w'.heap[k]? = w.heap[k]?
  below : Below B w w'
section
variable {B bt ba : Nat} {w w' w2 : World}
theorem Step.refl (B bt ba : Nat) (w : World) : Step B bt ba w w := ⟨fun _ _ _ _ _ => rfl, Below.refl _ _⟩
theorem Step.trans (h : Step B bt ba w w') (k : Step B bt ba w' w2) : Step B bt ba w w2 :=
  ⟨fun i hi h1 h2 h3 => (k.keep i (Nat.lt_of_lt_of_le hi h.below.size) h1 h2 (fun cs hc => h3 cs ((h.keep i hi h1 h2 h3).symm.trans hc))).trans (h.keep i hi h1 h2 h3), h.below.trans k.below⟩
theorem Step.of_below (h : Below w.heap.size w w') (hB : B ≤ w.heap.size) : Step B bt ba w w' := ⟨fun i hi _ _ _ => h.block i hi, h.mono hB⟩
theorem Step.of_kept {S : Nat → Prop} (h : Kept S w w') (hB : B ≤ w.heap.size) (hs : ∀ k, S k → (k = bt ∨ k = ba ∨ ∃ cs, Blk w k 66 cs) ∧ B ≤ k) : Step B bt ba w w' :=
  ⟨fun i hi h1 h2 h3 => h.block i hi fun hc => by
    rcases (hs i hc).1 with h | h | ⟨cs, h⟩
    · exact h1 h
    · exact h2 h
    · exact h3 cs h, h.below hB fun k hk => (hs k hk).2⟩
theorem Step.blk {g : Nat} {t : TypeId} {cs : Array Value} (h : Step B bt ba w w') (hb : Blk w g t cs) (h1 : g ≠ bt) (h2 : g ≠ ba) (ht : t ≠ 66) : Blk w' g t cs :=
  (h.keep g hb.lt h1 h2 (fun _ hc => hb.ne_ hc ht rfl)).trans hb
theorem Step.drewN (h : Step B bt ba w w') (n : Nat) : Step B bt ba w (w'.drewN n) := h.trans ⟨fun _ _ _ _ _ => rfl, ⟨rfl, rfl, rfl, Nat.le_refl _, fun _ _ => rfl⟩⟩
end

/-- A slice of ints in a block of its own from H on. -/
def IntsFrom (w : World) (H : Nat) (v : Value) (l : List Int) : Prop := w.ownsRow H 3 1 v l.length (l.map (Value.int .i64))
theorem IntsFrom.form {w : World} {H : Nat} {v : Value} {l : List Int} (h : IntsFrom w H v l) : ∃ A cap, v = .slice A l.length cap ∧ IntsAt w A l.length l := by
  obtain ⟨A, cap, rfl⟩ := own_slice h
  exact ⟨A, cap, rfl, IntsAt.of_own h⟩
theorem IntsFrom.step {B bt ba : Nat} {w w' : World} {H : Nat} {v : Value} {l : List Int} (h : IntsFrom w H v l) (hs : Step B bt ba w w') (h1 : bt < H) (h2 : ba < H) : IntsFrom w' H v l := by
  refine ⟨h.1, ?_⟩
  rcases h.2 with hn | ⟨g, cap, cur, rfl, hb, hgg, rest⟩
  · exact .inl hn
  · exact .inr ⟨g, cap, cur, rfl, hb, hs.blk hgg (by omega) (by omega) (by decide), rest⟩
theorem IntsFrom.below {w w' : World} {H : Nat} {v : Value} {l : List Int} (h : IntsFrom w H v l) (hs : Below w.heap.size w w') : IntsFrom w' H v l := own_kept h (Kept.of_below (S := fun _ => False) hs) (fun _ _ h => h)

def putBad (M : Tr) (lit reason : Int) : Bool := decide (lit < 0) || decide ((M.n : Int) ≤ lit / 2) || decide (reason < -1)
def putE (M : Tr) (lit reason : Int) : Int := if putBad M lit reason then 2 else match find M.L (lit / 2) with
  | some _ => 32
  | none => 0
def putM (M : Tr) (lit reason : Int) : Tr := if putBad M lit reason then M else match find M.L (lit / 2) with
  | some _ => M
  | none => ⟨M.n, M.L ++ [⟨lit, M.lv, reason⟩], M.lv⟩
def beginE (M : Tr) : Int := if M.lv = 65536 then 2 else 0
def beginM (M : Tr) : Tr := if M.lv = 65536 then M else ⟨M.n, M.L, M.lv + 1⟩
def backBad (M : Tr) (lev : Int) : Bool := decide (lev < 0) || decide ((M.lv : Int) < lev)
def backE (M : Tr) (lev : Int) : Int := if backBad M lev then 2 else 0
def backGone (M : Tr) (lev : Int) : List Int := if backBad M lev then [] else (M.L.reverse.take (above lev M.L)).map Pt.lit
def backM (M : Tr) (lev : Int) : Tr := if backBad M lev then M else ⟨M.n, M.L.take (M.L.length - above lev M.L), lev.toNat⟩

/-- The trail, its list's slice left open. -/
def TT (w : World) (B bt ba : Nat) (M : Tr) : Prop := ∃ lv, TR w B bt ba lv M

section
variable {w : World} {B bt ba : Nat} {M : Tr}
theorem TT.ok (h : TT w B bt ba M) : M.Ok := h.choose_spec.ok
theorem TT.below {w' : World} (h : TT w B bt ba M) (hb : Below w.heap.size w w') : TT w' B bt ba M := by
  obtain ⟨lv, h⟩ := h
  exact ⟨lv, h.keep (Kept.of_below (S := fun _ => False) hb) (fun h => h) (fun h => h) (fun _ _ h => h)⟩
theorem TT.drewN (h : TT w B bt ba M) (n : Nat) : TT (w.drewN n) B bt ba M := by
  obtain ⟨lv, h⟩ := h
  exact ⟨lv, h.drewN n⟩
theorem TT.lt (h : TT w B bt ba M) : B ≤ bt ∧ B ≤ ba ∧ bt < w.heap.size ∧ ba < w.heap.size := by
  obtain ⟨lv, h⟩ := h
  exact ⟨h.hbt, h.hba, h.blk.lt, h.at_.lt⟩

theorem put_T (h : TT w B bt ba M) (lit reason : Int) :
    Calls Try.prog 16 #[.pointer (some ⟨bt, 0, none⟩), .int .i64 lit, .int .i64 reason] w fun e w' => e = .returned (.int .i64 (putE M lit reason)) ∧ TT w' B bt ba (putM M lit reason) ∧ Step B bt ba w w' := by
  obtain ⟨h1, h2, h3, h4⟩ := h.lt
  obtain ⟨lv, h⟩ := h
  unfold putE putM
  by_cases hb : putBad M lit reason = true
  · rw [if_pos hb, if_pos hb]
    refine (put_arg h lit reason ?_).mono ?_
    · simpa [putBad, or_assoc] using hb
    · rintro e w' ⟨rfl, rfl⟩
      exact ⟨rfl, ⟨lv, h⟩, Step.refl _ _ _ _⟩
  · rw [if_neg hb, if_neg hb]
    simp [putBad] at hb
    obtain ⟨⟨g1, g2⟩, g3⟩ := hb
    cases hf : find M.L (lit / 2) with
    | some p =>
      refine (put_there h lit reason g1 g2 g3 p hf).mono ?_
      rintro e w' ⟨rfl, rfl⟩
      exact ⟨rfl, ⟨lv, h⟩, Step.refl _ _ _ _⟩
    | none =>
      refine (put_new h lit reason g1 g2 g3 hf).mono ?_
      rintro e w' ⟨lv', rfl, t, k⟩
      refine ⟨rfl, ⟨lv', t⟩, Step.of_kept k (by omega) ?_⟩
      rintro i (rfl | rfl | hi)
      · exact ⟨.inl rfl, h1⟩
      · exact ⟨.inr (.inl rfl), h2⟩
      · exact ⟨.inr (.inr (own_heap h.own hi)), (h.own.lt i hi).1⟩
theorem begin_T (h : TT w B bt ba M) :
    Calls Try.prog 15 #[.pointer (some ⟨bt, 0, none⟩)] w fun e w' => e = .returned (.int .i64 (beginE M)) ∧ TT w' B bt ba (beginM M) ∧ Step B bt ba w w' := by
  obtain ⟨h1, h2, h3, h4⟩ := h.lt
  obtain ⟨lv, h⟩ := h
  unfold beginE beginM
  by_cases hb : M.lv = 65536
  · rw [if_pos hb, if_pos hb]
    refine (begin_full h hb).mono ?_
    rintro e w' ⟨rfl, rfl⟩
    exact ⟨rfl, ⟨lv, h⟩, Step.refl _ _ _ _⟩
  · rw [if_neg hb, if_neg hb]
    refine (begin_ok h (by have := h.ok.lv; omega)).mono ?_
    rintro e w' ⟨rfl, t, k⟩
    exact ⟨rfl, ⟨lv, t⟩, Step.of_kept k (by omega) (fun i hi => ⟨.inl hi, hi ▸ h1⟩)⟩
theorem all_T (h : TT w B bt ba M) : Calls Try.prog 30 #[.pointer (some ⟨bt, 0, none⟩)] w fun e w' => ∃ v, e = .returned v ∧ IntsFrom w' w.heap.size v (M.L.map Pt.lit) ∧ Below w.heap.size w w' := by
  obtain ⟨lv, h⟩ := h
  refine (all_ok h).mono ?_
  rintro e w' ⟨v, rfl, o, b⟩
  exact ⟨v, rfl, by unfold IntsFrom; rw [List.length_map, List.map_map]; exact o, b⟩
theorem behind_T (h : TT w B bt ba M) (at_ : Int) : Calls Try.prog 37 #[.pointer (some ⟨bt, 0, none⟩), .int .i64 at_] w fun e w' => ∃ v, e = .returned v ∧ IntsFrom w' w.heap.size v ((M.L.drop (clampAt at_ M.L.length)).map Pt.lit) ∧ Below w.heap.size w w' := by
  obtain ⟨lv, h⟩ := h
  refine (behind_ok h at_).mono ?_
  rintro e w' ⟨v, rfl, o, b⟩
  exact ⟨v, rfl, by unfold IntsFrom; rw [List.length_map, List.map_map]; exact o, b⟩
theorem val_T (h : TT w B bt ba M) (lit : Int) : Calls Try.prog 18 #[.pointer (some ⟨bt, 0, none⟩), .int .i64 lit] w fun e w' => e = .returned (.int .i8 (valOf M.L lit)) ∧ Below w.heap.size w w' := by
  obtain ⟨lv, h⟩ := h
  exact val_ok h lit
theorem level_T (h : TT w B bt ba M) (nd : Int) : Calls Try.prog 19 #[.pointer (some ⟨bt, 0, none⟩), .int .i64 nd] w fun e w' => e = .returned (.int .i64 (levelOf M.L nd)) ∧ Below w.heap.size w w' := by
  obtain ⟨lv, h⟩ := h
  exact level_ok h nd
theorem reason_T (h : TT w B bt ba M) (nd : Int) : Calls Try.prog 42 #[.pointer (some ⟨bt, 0, none⟩), .int .i64 nd] w fun e w' => e = .returned (.int .i64 (reasonOf M.L nd)) ∧ Below w.heap.size w w' := by
  obtain ⟨lv, h⟩ := h
  exact reason_ok h nd
end
end Go.Proofs.Ytnfeggeahnjdeaa

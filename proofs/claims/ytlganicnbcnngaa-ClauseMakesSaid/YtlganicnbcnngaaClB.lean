/- Contains, IndexFunc, ContainsFunc over rows of ints; Idle. -/
import Derived.Test.YtlganicnbcnngaaClA
import Derived.Test.YtlganicnbcnngaaShelf
namespace Go.Proofs.Ytlganicnbcnngaa
open Go.RowKit

theorem contains_ok {w : World} {A : Option Addr} {zs : List Int} (cap : Nat) (h : Row .i64 w A zs) (x : Int) :
    Calls Try.prog 20 #[.slice A zs.length cap, .int .i64 x] w fun e w' => e = .returned (.bool (decide (x ∈ zs))) ∧ w = w' := by
  have hl := h.len
  rcases h.at_ with h0 | ⟨b, off, rfl, hb, hc⟩
  · have hz : zs = [] := List.eq_nil_of_length_eq_zero h0
    subst hz
    exact (Try.slices_Contains_int_empty A cap x w).mono fun e w' ⟨h1, h2⟩ => ⟨by rw [h1]; simp, h2.symm⟩
  · refine (Try.slices_Contains_int b off zs.length cap zs x w (Nat.le_refl _) (by omega) (fun j hj => ?_)).mono fun e w' ⟨h1, h2⟩ => ⟨?_, h2.symm⟩
    · rw [hc j hj, List.getD_eq_getElem?_getD, List.getElem?_eq_getElem hj]; rfl
    · rw [h1, List.take_of_length_le (Nat.le_refl _), List.contains_eq_mem]

/-- The first place of which p holds; -1 if there is none. -/
def idxF (p : Int → Bool) : List Int → Nat → Int
  | [], _ => -1
  | x :: r, i => if p x then i else idxF p r (i + 1)
theorem idxF_any (p : Int → Bool) : ∀ (zs : List Int) (i : Nat), decide (0 ≤ idxF p zs i) = zs.any p
  | [], i => rfl
  | x :: r, i => by
    unfold idxF
    rw [List.any_cons]
    cases hp : p x with
    | true => simp
    | false =>
      rw [if_neg (by decide), Bool.false_or]
      exact idxF_any p r (i + 1)

/-- A literal's negation. -/
def negM (x : Int) : Int := if x % 2 = 0 then x + 1 else x - 1
def idleP (zs : List Int) (x : Int) : Bool := decide (0 ≤ x) && decide (negM x ∈ zs)

theorem idle1_ok {w : World} {A : Option Addr} {zs : List Int} (cap g : Nat) (h : Row .i64 w A zs) (hg : w.cell? ⟨g, 0, none⟩ = some (.slice A zs.length cap)) (x : Int) (hx : x ≤ 9223372036854775807) :
    Calls Try.prog 19 #[.int .i64 x, .pointer (some ⟨g, 0, none⟩)] w fun e w' => e = .returned (.bool (idleP zs x)) ∧ w = w' := by
  unfold idleP
  have H := Lib.hid h
  clear h
  by_cases h0 : 0 ≤ x
  · have d0 : decide ((0 : Int) ≤ x) = true := decide_eq_true h0
    have hn : bits .xor .i64 x 1 = negM x := i64_xor_one x h0 (by omega)
    rw [d0, Bool.true_and]
    go_enter Try.func19, Try.ntmps19
    go_wp2_with (go_at_call 20; refine (contains_ok cap H.out _).mono ?_; rintro e w1 ⟨rfl, rfl⟩)
    go_ret
    exact ⟨rfl, rfl⟩
  · have d0 : decide ((0 : Int) ≤ x) = false := decide_eq_false h0
    rw [d0, Bool.false_and]
    clear h0
    go_enter Try.func19, Try.ntmps19
    go_wp2
    go_ret
    exact ⟨rfl, rfl⟩

theorem indexf_idle {w : World} {A : Option Addr} {zs : List Int} (cap g : Nat) (h : Row .i64 w A zs) (hg : w.cell? ⟨g, 0, none⟩ = some (.slice A zs.length cap)) (hm : ∀ x ∈ zs, x ≤ 9223372036854775807) :
    Calls Try.prog 30 #[.slice A zs.length cap, .func (.func 19) #[] #[.pointer (some ⟨g, 0, none⟩)]] w fun e w' => e = .returned (.int .i64 (idxF (idleP zs) zs 0)) ∧ w = w' := by
  have hlen := h.len
  have H := Lib.hid h
  have Hg := Lib.hid hg
  have Hm := Lib.hid hm
  clear h hg hm
  go_enter Try.func30, Try.ntmps30
  go_wp2
  go_loopg [8] zs.length (fun g v wx => w = wx ∧ ∃ i : Nat, i + g = zs.length ∧ v = .int .i64 i ∧ idxF (idleP zs) (zs.drop i) i = idxF (idleP zs) zs 0)
  case atStart => exact ⟨rfl, 0, by omega, rfl, rfl⟩
  case round =>
    obtain ⟨rfl, i, hig, rfl, hinv⟩ := hrel
    have HI := Lib.hid hinv
    clear hinv
    cases gk with
    | zero =>
      have d1 : decide ((i : Int) < zs.length) = false := by simp; omega
      have HN := Lib.hid (show zs.drop i = [] from List.drop_eq_nil_of_le (by omega))
      go_wp2
      go_ret
      rw [← HI.out, HN.out]
      exact ⟨rfl, rfl⟩
    | succ k =>
      have hin : i < zs.length := by omega
      have d1 : decide ((i : Int) < zs.length) = true := by simp; omega
      obtain ⟨b, off, hA, hb, hcell⟩ := H.out.at_.resolve_left (by omega)
      subst hA
      have c0 := hcell i hin
      have hx := Hm.out zs[i] (List.getElem_mem hin)
      have Hdr := Lib.hid (show zs.drop i = zs[i] :: zs.drop (i + 1) from List.drop_eq_getElem_cons hin)
      clear hcell
      generalize zs[i] = x at *
      cases hp : idleP zs x with
      | true =>
        have Hp := Lib.hid hp
        clear hp
        go_wp2_with (go_at_call 19; refine (idle1_ok cap g H.out Hg.out x hx).mono ?_; rintro e w1 ⟨rfl, rfl⟩; rw [Hp.out])
        go_ret
        rw [← HI.out, Hdr.out]
        unfold idxF
        rw [if_pos Hp.out]
        exact ⟨rfl, rfl⟩
      | false =>
        have Hp := Lib.hid hp
        clear hp
        go_wp2_with (go_at_call 19; refine (idle1_ok cap g H.out Hg.out x hx).mono ?_; rintro e w1 ⟨rfl, rfl⟩; rw [Hp.out])
        go_roundg k
        case measure => omega
        case rel => exact ⟨rfl, i + 1, by omega, by go_num, by rw [← HI.out, Hdr.out]; conv => rhs; unfold idxF; rw [if_neg (by rw [Hp.out]; decide)]⟩

theorem containsf_idle {w : World} {A : Option Addr} {zs : List Int} (cap g : Nat) (h : Row .i64 w A zs) (hg : w.cell? ⟨g, 0, none⟩ = some (.slice A zs.length cap)) (hm : ∀ x ∈ zs, x ≤ 9223372036854775807) :
    Calls Try.prog 18 #[.slice A zs.length cap, .func (.func 19) #[] #[.pointer (some ⟨g, 0, none⟩)]] w fun e w' => e = .returned (.bool (zs.any (idleP zs))) ∧ w = w' := by
  rw [← idxF_any (idleP zs) zs 0]
  have H := Lib.hid h
  have Hg := Lib.hid hg
  have Hm := Lib.hid hm
  clear h hg hm
  go_enter Try.func18, Try.ntmps18
  go_wp2_with (go_at_call 30; refine (indexf_idle cap g H.out Hg.out Hm.out).mono ?_; rintro e w1 ⟨rfl, rfl⟩)
  go_ret
  exact ⟨rfl, rfl⟩

theorem idle_ok {w : World} {A : Option Addr} {zs : List Int} (cap : Nat) (h : Row .i64 w A zs) (hm : ∀ x ∈ zs, x ≤ 9223372036854775807) :
    Calls Try.prog 9 #[.slice A zs.length cap] w fun e w' => e = .returned (.bool (zs.any (idleP zs))) ∧ Below w.heap.size w w' := by
  have hb : Below w.heap.size w (w.alloc (.cells #[.slice A zs.length cap] 22)) := (Below.refl _ w).alloc (Nat.le_refl _) _
  have H := Lib.hid (h.below hb)
  have Hb := Lib.hid hb
  have Hg := Lib.hid (show (w.alloc (.cells #[.slice A zs.length cap] 22)).cell? ⟨w.heap.size, 0, none⟩ = some (.slice A zs.length cap) from (Blk.new w _ _).cell 0)
  have Hm := Lib.hid hm
  clear h hb hm
  go_enter Try.func9, Try.ntmps9
  go_wp2_with (go_at_call 18; refine (containsf_idle cap w.heap.size H.out Hg.out Hm.out).mono ?_; rintro e w1 ⟨rfl, rfl⟩)
  go_ret
  exact ⟨rfl, Hb.out⟩
end Go.Proofs.Ytlganicnbcnngaa

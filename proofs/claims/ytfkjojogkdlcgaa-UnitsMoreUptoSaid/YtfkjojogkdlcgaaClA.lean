/- Values of literals, states of clauses. -/
import Derived.Test.YtfkjojogkdlcgaaProg
import Derived.Test.YtfkjojogkdlcgaaBase
import Derived.Test.YtfkjojogkdlcgaaBits
import Derived.Deep.LoopGhost
namespace Go.Proofs.Ytfkjojogkdlcgaa
open Go.RowKit

/-- A slice whose elements are the numbers zs, as they lie in memory. -/
structure Row (k : IntKind) (w : World) (A : Option Addr) (zs : List Int) : Prop where
  len : zs.length ≤ 1000000
  at_ : zs.length = 0 ∨ ∃ b off, A = some ⟨b, off, none⟩ ∧ b < w.heap.size ∧ ∀ i (h : i < zs.length), w.cell? ⟨b, off + i, none⟩ = some (.int k zs[i])
theorem Row.below {k : IntKind} {w w' : World} {A : Option Addr} {zs : List Int} (h : Row k w A zs) (hb : Below w.heap.size w w') : Row k w' A zs := by
  refine ⟨h.len, h.at_.imp id fun ⟨b, off, h1, h2, h3⟩ => ⟨b, off, h1, Nat.lt_of_lt_of_le h2 hb.size, fun i hi => ?_⟩⟩
  rw [hb.cell (p := ⟨b, off + i, none⟩) h2]
  exact h3 i hi

/-- A literal's value under an assignment. -/
def valM (vals : List Int) (lit : Int) : Int :=
  if lit < 0 then 0 else match vals[(lit / 2).toNat]? with
    | none => 0
    | some v => if v = 1 then (if lit % 2 = 0 then 1 else 2) else if v = 2 then (if lit % 2 = 0 then 2 else 1) else 0

theorem val_ok {w : World} {A : Option Addr} {vals : List Int} (cap : Nat) (hv : Row .i8 w A vals) (lit : Int) (hl : lit ≤ 9223372036854775807) :
    Calls Try.prog 28 #[.slice A vals.length cap, .int .i64 lit] w fun e w' => e = .returned (.int .i8 (valM vals lit)) ∧ w = w' := by
  have hlen := hv.len
  by_cases h0 : lit < 0
  · have d0 : decide (lit < 0) = true := decide_eq_true h0
    have e : valM vals lit = 0 := by unfold valM; rw [if_pos h0]
    rw [e]
    clear e hv hlen
    go_enter Try.func28, Try.ntmps28
    go_wp2
    go_ret
    exact ⟨rfl, rfl⟩
  have d0 : decide (lit < 0) = false := decide_eq_false h0
  obtain ⟨q, hq⟩ : ∃ q : Nat, lit / 2 = q := ⟨(lit / 2).toNat, by omega⟩
  have e1 : valM vals lit = match vals[q]? with
    | none => 0
    | some v => if v = 1 then (if lit % 2 = 0 then 1 else 2) else if v = 2 then (if lit % 2 = 0 then 2 else 1) else 0 := by
    unfold valM
    rw [if_neg h0, hq]
    rfl
  rw [e1]
  clear e1
  by_cases h1 : q < vals.length
  · have d1 : decide ((vals.length : Int) ≤ (q : Int)) = false := decide_eq_false (by omega)
    rw [List.getElem?_eq_getElem h1]
    rcases hv.at_ with h2 | ⟨b, off, rfl, hb, hc⟩
    · omega
    have c0 := hc q h1
    have hand : bits .and .i64 lit 1 = lit % 2 := i64_and_one lit (by omega) (by omega)
    generalize hvq : vals[q] = v at *
    have t1 : (q : Int) < (vals.length : Int) := by omega
    have t2 : (0 : Int) ≤ (q : Int) := by omega
    clear hc hv hvq h0
    by_cases hv1 : v = 1
    · subst hv1
      simp only [if_true]
      by_cases hp : lit % 2 = 0
      · rw [hp] at hand
        rw [if_pos hp]
        clear hp
        go_enter Try.func28, Try.ntmps28
        go_wp2
        go_ret
        exact ⟨rfl, rfl⟩
      · have hp1 : lit % 2 = 1 := by omega
        rw [hp1] at hand
        rw [if_neg hp]
        clear hp hp1
        go_enter Try.func28, Try.ntmps28
        go_wp2
        go_ret
        exact ⟨rfl, rfl⟩
    · by_cases hv2 : v = 2
      · subst hv2
        simp only [if_true, if_neg hv1]
        by_cases hp : lit % 2 = 0
        · rw [hp] at hand
          rw [if_pos hp]
          clear hp hv1
          go_enter Try.func28, Try.ntmps28
          go_wp2
          go_ret
          exact ⟨rfl, rfl⟩
        · have hp1 : lit % 2 = 1 := by omega
          rw [hp1] at hand
          rw [if_neg hp]
          clear hp hp1 hv1
          go_enter Try.func28, Try.ntmps28
          go_wp2
          go_ret
          exact ⟨rfl, rfl⟩
      · have b1 : (v == 1) = false := beq_eq_false_iff_ne.2 hv1
        have b2 : (v == 2) = false := beq_eq_false_iff_ne.2 hv2
        simp only [if_neg hv1, if_neg hv2]
        clear hv1 hv2 hand
        go_enter Try.func28, Try.ntmps28
        go_wp2
        go_ret
        exact ⟨rfl, rfl⟩
  · have d1 : decide ((vals.length : Int) ≤ (q : Int)) = true := decide_eq_true (by omega)
    have d2 : vals.length ≤ q := by omega
    rw [List.getElem?_eq_none (by omega)]
    clear hv h1
    go_enter Try.func28, Try.ntmps28
    go_wp2
    go_ret
    exact ⟨rfl, rfl⟩

/-- A clause's state: how many literals are open so far, and the last of them. -/
def stM (vals : List Int) : List Int → Nat → Int → Int × Int
  | [], o, l => if o = 0 then (1, -1) else if o = 1 then (2, l) else (3, -1)
  | x :: r, o, l => if valM vals x = 1 then (0, -1) else if valM vals x = 0 then stM vals r (o + 1) x else stM vals r o l

theorem state_ok {w : World} {A B : Option Addr} {c vals : List Int} (cap cap2 : Nat) (hc : Row .i64 w A c) (hv : Row .i8 w B vals) (hm : ∀ x ∈ c, x ≤ 9223372036854775807) :
    Calls Try.prog 42 #[.slice A c.length cap, .slice B vals.length cap2] w fun e w' => e = .returned (.tuple #[.int .i8 (stM vals c 0 (-1)).1, .int .i64 (stM vals c 0 (-1)).2]) ∧ w = w' := by
  have hlen := hc.len
  have Hc := Lib.hid hc
  have Hv := Lib.hid hv
  have Hm := Lib.hid hm
  clear hc hv hm
  go_enter Try.func42, Try.ntmps42
  go_wp2
  go_loopg [12, 6, 7] c.length (fun g v vo vl wx => w = wx ∧ ∃ (i o : Nat) (l : Int), i + g = c.length ∧ o ≤ i ∧ v = .int .i64 i ∧ vo = .int .i64 o ∧ vl = .int .i64 l ∧ stM vals (c.drop i) o l = stM vals c 0 (-1))
  case atStart => exact ⟨rfl, 0, 0, -1, by omega, by omega, rfl, rfl, rfl, rfl⟩
  case round =>
    obtain ⟨rfl, i, o, l, hig, hoi, rfl, rfl, rfl, hinv⟩ := hrel
    have HI := Lib.hid hinv
    clear hinv
    cases gk with
    | zero =>
      have d1 : decide ((i : Int) < c.length) = false := by simp; omega
      have hnil : c.drop i = [] := List.drop_eq_nil_of_le (by omega)
      have HN := Lib.hid hnil
      clear hnil
      by_cases h0 : o = 0
      · subst h0
        go_wp2
        go_ret2
        rw [← HI.out, HN.out]
        exact ⟨rfl, rfl⟩
      by_cases h1 : o = 1
      · subst h1
        go_wp2
        go_ret2
        rw [← HI.out, HN.out]
        exact ⟨rfl, rfl⟩
      have b0 : ((o : Int) == 0) = false := beq_eq_false_iff_ne.2 (by omega)
      have b1 : ((o : Int) == 1) = false := beq_eq_false_iff_ne.2 (by omega)
      have e : stM vals [] o l = (3, -1) := by unfold stM; rw [if_neg h0, if_neg h1]
      have He := Lib.hid e
      clear e h0 h1
      go_wp2
      go_ret2
      rw [← HI.out, HN.out, He.out]
      exact ⟨rfl, rfl⟩
    | succ g =>
      have hin : i < c.length := by omega
      have d1 : decide ((i : Int) < c.length) = true := by simp; omega
      obtain ⟨b, off, hA, hb, hcell⟩ := Hc.out.at_.resolve_left (by omega)
      subst hA
      have c0 := hcell i hin
      have hdr : c.drop i = c[i] :: c.drop (i + 1) := List.drop_eq_getElem_cons hin
      have hx := Hm.out c[i] (List.getElem_mem hin)
      have Hdr := Lib.hid hdr
      clear hcell hdr
      generalize c[i] = x at *
      generalize hv : valM vals x = v
      have HV := Lib.hid hv
      clear hv
      by_cases h1 : v = 1
      · subst h1
        go_wp2_with (go_at_call 28; refine (val_ok cap2 Hv.out x hx).mono ?_; rintro e w1 ⟨rfl, rfl⟩; rw [HV.out])
        go_ret2
        rw [← HI.out, Hdr.out]
        unfold stM
        rw [if_pos HV.out]
        exact ⟨rfl, rfl⟩
      have b1 : (v == 1) = false := beq_eq_false_iff_ne.2 h1
      by_cases h2 : v = 0
      · subst h2
        go_wp2_with (go_at_call 28; refine (val_ok cap2 Hv.out x hx).mono ?_; rintro e w1 ⟨rfl, rfl⟩; rw [HV.out])
        go_roundg g
        case measure => omega
        case rel => exact ⟨rfl, i + 1, o + 1, x, by omega, by omega, by go_num, by go_num, rfl, by rw [← HI.out, Hdr.out]; conv => rhs; unfold stM; rw [if_neg (by rw [HV.out]; exact h1), if_pos HV.out]⟩
      have b2 : (v == 0) = false := beq_eq_false_iff_ne.2 h2
      go_wp2_with (go_at_call 28; refine (val_ok cap2 Hv.out x hx).mono ?_; rintro e w1 ⟨rfl, rfl⟩; rw [HV.out])
      go_roundg g
      case measure => omega
      case rel => exact ⟨rfl, i + 1, o, l, by omega, by omega, by go_num, rfl, rfl, by rw [← HI.out, Hdr.out]; conv => rhs; unfold stM; rw [if_neg (by rw [HV.out]; exact h1), if_neg (by rw [HV.out]; exact h2)]⟩
end Go.Proofs.Ytfkjojogkdlcgaa

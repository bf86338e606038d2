/- The references' Val, State, Holds. -/
import Derived.Test.YtfkjojogkdlcgaaUnI
namespace Go.Proofs.Ytfkjojogkdlcgaa
open Go.RowKit Go.Lib

theorem val15_ok {w : World} {A : Option Addr} {vals : List Int} (cap : Nat) (hv : Row .i8 w A vals) (lit : Int) (hl : lit ≤ 9223372036854775807) :
    Calls Try.prog 14 #[.slice A vals.length cap, .int .i64 lit] w fun e w' => e = .returned (.int .i8 (valM vals lit)) ∧ w = w' := by
  have hlen := hv.len
  by_cases h0 : lit < 0
  · have d0 : decide (lit < 0) = true := decide_eq_true h0
    have e : valM vals lit = 0 := by unfold valM; rw [if_pos h0]
    rw [e]
    clear e hv hlen
    go_enter Try.func14, Try.ntmps14
    go_wp2
    go_ret
    exact ⟨rfl, rfl⟩
  have d0 : decide (lit < 0) = false := decide_eq_false h0
  obtain ⟨q, hq⟩ : ∃ q : Nat, lit / 2 = q := ⟨(lit / 2).toNat, by omega⟩
  have e1 : valM vals lit = match vals[q]? with
    | none => 0
    | some v => if v = 1 then (if lit % 2 = 0 then 1 else 2) else if v = 2 then (if lit % 2 = 0 then 2 else 1) else 0 := by
    unfold valM
    rw [if_neg h0, hq]
    rfl
  rw [e1]
  clear e1
  by_cases h1 : q < vals.length
  · have d1 : decide ((vals.length : Int) ≤ (q : Int)) = false := decide_eq_false (by omega)
    rw [List.getElem?_eq_getElem h1]
    rcases hv.at_ with h2 | ⟨b, off, rfl, hb, hc⟩
    · omega
    have c0 := hc q h1
    have hand : bits .and .i64 lit 1 = lit % 2 := i64_and_one lit (by omega) (by omega)
    generalize hvq : vals[q] = v at *
    have t1 : (q : Int) < (vals.length : Int) := by omega
    have t2 : (0 : Int) ≤ (q : Int) := by omega
    clear hc hv hvq h0
    by_cases hv1 : v = 1
    · subst hv1
      simp only [if_true]
      by_cases hp : lit % 2 = 0
      · rw [hp] at hand
        rw [if_pos hp]
        clear hp
        go_enter Try.func14, Try.ntmps14
        go_wp2
        go_ret
        exact ⟨rfl, rfl⟩
      · have hp1 : lit % 2 = 1 := by omega
        rw [hp1] at hand
        rw [if_neg hp]
        clear hp hp1
        go_enter Try.func14, Try.ntmps14
        go_wp2
        go_ret
        exact ⟨rfl, rfl⟩
    · by_cases hv2 : v = 2
      · subst hv2
        simp only [if_true, if_neg hv1]
        by_cases hp : lit % 2 = 0
        · rw [hp] at hand
          rw [if_pos hp]
          clear hp hv1
          go_enter Try.func14, Try.ntmps14
          go_wp2
          go_ret
          exact ⟨rfl, rfl⟩
        · have hp1 : lit % 2 = 1 := by omega
          rw [hp1] at hand
          rw [if_neg hp]
          clear hp hp1 hv1
          go_enter Try.func14, Try.ntmps14
          go_wp2
          go_ret
          exact ⟨rfl, rfl⟩
      · have b1 : (v != 1) = true := by simpa using hv1
        have b2 : (v != 2) = true := by simpa using hv2
        simp only [if_neg hv1, if_neg hv2]
        clear hv1 hv2 hand
        go_enter Try.func14, Try.ntmps14
        go_wp2
        go_ret
        exact ⟨rfl, rfl⟩
  · have d1 : decide ((vals.length : Int) ≤ (q : Int)) = true := decide_eq_true (by omega)
    have d2 : vals.length ≤ q := by omega
    rw [List.getElem?_eq_none (by omega)]
    clear hv h1
    go_enter Try.func14, Try.ntmps14
    go_wp2
    go_ret
    exact ⟨rfl, rfl⟩

theorem state15_ok {w : World} {A B : Option Addr} {c vals : List Int} (cap cap2 : Nat) (hc : Row .i64 w A c) (hv : Row .i8 w B vals) (hm : ∀ x ∈ c, x ≤ 9223372036854775807) :
    Calls Try.prog 33 #[.slice A c.length cap, .slice B vals.length cap2] w fun e w' => e = .returned (.tuple #[.int .i8 (stM vals c 0 (-1)).1, .int .i64 (stM vals c 0 (-1)).2]) ∧ w = w' := by
  have hlen := hc.len
  have Hc := Lib.hid hc
  have Hv := Lib.hid hv
  have Hm := Lib.hid hm
  clear hc hv hm
  go_enter Try.func33, Try.ntmps33
  go_wp2
  go_loopg [8, 6, 7] c.length (fun g v vo vl wx => w = wx ∧ ∃ (i o : Nat) (l : Int), i + g = c.length ∧ o ≤ i ∧ v = .int .i64 i ∧ vo = .int .i64 o ∧ vl = .int .i64 l ∧ stM vals (c.drop i) o l = stM vals c 0 (-1))
  case atStart => exact ⟨rfl, 0, 0, -1, by omega, by omega, rfl, rfl, rfl, rfl⟩
  case round =>
    obtain ⟨rfl, i, o, l, hig, hoi, rfl, rfl, rfl, hinv⟩ := hrel
    have HI := Lib.hid hinv
    clear hinv
    cases gk with
    | zero =>
      have d1 : decide ((i : Int) < c.length) = false := by simp; omega
      have hnil : c.drop i = [] := List.drop_eq_nil_of_le (by omega)
      have HN := Lib.hid hnil
      clear hnil
      by_cases h0 : o = 0
      · subst h0
        go_wp2
        go_ret2
        rw [← HI.out, HN.out]
        exact ⟨rfl, rfl⟩
      by_cases h1 : o = 1
      · subst h1
        go_wp2
        go_ret2
        rw [← HI.out, HN.out]
        exact ⟨rfl, rfl⟩
      have b0 : ((o : Int) == 0) = false := beq_eq_false_iff_ne.2 (by omega)
      have b1 : ((o : Int) == 1) = false := beq_eq_false_iff_ne.2 (by omega)
      have e : stM vals [] o l = (3, -1) := by unfold stM; rw [if_neg h0, if_neg h1]
      have He := Lib.hid e
      clear e h0 h1
      go_wp2
      go_ret2
      rw [← HI.out, HN.out, He.out]
      exact ⟨rfl, rfl⟩
    | succ g =>
      have hin : i < c.length := by omega
      have d1 : decide ((i : Int) < c.length) = true := by simp; omega
      obtain ⟨b, off, hA, hb, hcell⟩ := Hc.out.at_.resolve_left (by omega)
      subst hA
      have c0 := hcell i hin
      have hdr : c.drop i = c[i] :: c.drop (i + 1) := List.drop_eq_getElem_cons hin
      have hx := Hm.out c[i] (List.getElem_mem hin)
      have Hdr := Lib.hid hdr
      have t1 : (0 : Int) ≤ (i : Int) := by omega
      have t2 : (i : Int) < (c.length : Int) := by omega
      clear hcell hdr
      generalize c[i] = x at *
      generalize hv : valM vals x = v
      have HV := Lib.hid hv
      clear hv
      by_cases h1 : v = 1
      · subst h1
        go_wp2_with (go_at_call 14; refine (val15_ok cap2 Hv.out x hx).mono ?_; rintro e w1 ⟨rfl, rfl⟩; rw [HV.out])
        go_ret2
        rw [← HI.out, Hdr.out]
        unfold stM
        rw [if_pos HV.out]
        exact ⟨rfl, rfl⟩
      have b1 : (v == 1) = false := beq_eq_false_iff_ne.2 h1
      by_cases h2 : v = 0
      · subst h2
        go_wp2_with (go_at_call 14; refine (val15_ok cap2 Hv.out x hx).mono ?_; rintro e w1 ⟨rfl, rfl⟩; rw [HV.out])
        go_roundg g
        case measure => omega
        case rel => exact ⟨rfl, i + 1, o + 1, x, by omega, by omega, by go_num, by go_num, rfl, by rw [← HI.out, Hdr.out]; conv => rhs; unfold stM; rw [if_neg (by rw [HV.out]; exact h1), if_pos HV.out]⟩
      have b2 : (v == 0) = false := beq_eq_false_iff_ne.2 h2
      go_wp2_with (go_at_call 14; refine (val15_ok cap2 Hv.out x hx).mono ?_; rintro e w1 ⟨rfl, rfl⟩; rw [HV.out])
      go_roundg g
      case measure => omega
      case rel => exact ⟨rfl, i + 1, o, l, by omega, by omega, by go_num, rfl, rfl, by rw [← HI.out, Hdr.out]; conv => rhs; unfold stM; rw [if_neg (by rw [HV.out]; exact h1), if_neg (by rw [HV.out]; exact h2)]⟩

/-- Does each clause hold? -/
def holdsM (vals : List Int) (cs : List (List Int)) : Bool := cs.all fun c => (stM vals c 0 (-1)).1 == 0
set_option maxHeartbeats 1000000 in
theorem holds15_ok {w : World} {A B : Option Addr} {rows : List (Option Addr × Nat × List Int)} {vals : List Int} (cap cap2 : Nat) (h : Grid w A rows) (hv : Row .i8 w B vals) (hm : ∀ r ∈ rows, ∀ x ∈ r.2.2, x ≤ 9223372036854775807) :
    Calls Try.prog 15 #[.slice A rows.length cap, .slice B vals.length cap2] w fun e w' => e = .returned (.bool (holdsM vals (rowsOf rows))) ∧ w = w' := by
  have hlen := h.len
  have H := Lib.hid h
  have Hm := Lib.hid hm
  have Hv := Lib.hid hv
  clear h hm hv
  go_enter Try.func15, Try.ntmps15
  go_wp2
  go_loopg [5] rows.length (fun g v wx => w = wx ∧ ∃ i : Nat, i + g = rows.length ∧ v = .int .i64 i ∧ holdsM vals (rowsOf rows) = holdsM vals ((rowsOf rows).drop i))
  case atStart => exact ⟨rfl, 0, by omega, rfl, rfl⟩
  case round =>
    obtain ⟨rfl, i, hig, rfl, hinv⟩ := hrel
    have HI := Lib.hid hinv
    clear hinv
    cases gk with
    | zero =>
      have d1 : decide ((i : Int) < rows.length) = false := by simp; omega
      have HN := Lib.hid (show (rowsOf rows).drop i = [] from List.drop_eq_nil_of_le (by unfold rowsOf; rw [List.length_map]; omega))
      go_wp2
      go_ret
      rw [HI.out, HN.out]
      exact ⟨rfl, rfl⟩
    | succ k =>
      have hin : i < rows.length := by omega
      have d1 : decide ((i : Int) < rows.length) = true := by simp; omega
      obtain ⟨b, off, hA, hb, hcell⟩ := H.out.at_.resolve_left (by omega)
      subst hA
      obtain ⟨c0, hrow, _⟩ := hcell i hin
      have hx := Hm.out rows[i] (List.getElem_mem hin)
      have hdr : holdsM vals ((rowsOf rows).drop i) = (((stM vals rows[i].2.2 0 (-1)).1 == 0) && holdsM vals ((rowsOf rows).drop (i + 1))) := by
        have hi2 : i < (rowsOf rows).length := by unfold rowsOf; rw [List.length_map]; exact hin
        rw [List.drop_eq_getElem_cons hi2]
        simp [rowsOf, holdsM]
      have Hdr := Lib.hid hdr
      have t1 : (0 : Int) ≤ (i : Int) := by omega
      have t2 : (i : Int) < (rows.length : Int) := by omega
      clear hcell hdr
      generalize rows[i].1 = xa at *
      generalize rows[i].2.1 = xc at *
      generalize rows[i].2.2 = c at *
      have K := state15_ok xc cap2 hrow Hv.out hx
      generalize stM vals c 0 (-1) = s at K Hdr
      obtain ⟨p1, p2⟩ := s
      clear hx hrow
      simp only at K
      by_cases h1 : p1 = 0
      · subst h1
        go_wp2_with (go_at_call 33; (with_reducible refine K.mono ?_); rintro e w1 ⟨rfl, rfl⟩)
        go_roundg k
        case measure => omega
        case rel => exact ⟨rfl, i + 1, by omega, by go_num, by rw [HI.out, Hdr.out]; rfl⟩
      · have b1 : (p1 != 0) = true := by simpa using h1
        have H1 := Lib.hid (show (p1 == 0) = false by simpa using h1)
        clear h1
        go_wp2_with (go_at_call 33; (with_reducible refine K.mono ?_); rintro e w1 ⟨rfl, rfl⟩)
        go_ret
        rw [HI.out, Hdr.out, H1.out]
        exact ⟨rfl, rfl⟩
end Go.Proofs.Ytfkjojogkdlcgaa

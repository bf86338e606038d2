/- look. -/
import Derived.Test.YthnakfdiikidaaaUnB
namespace Go.Proofs.Ythnakfdiikidaaa
open Go.RowKit Go.Lib

set_option maxHeartbeats 1000000 in
theorem look_ok {w : World} {A B : Option Addr} {rows : List (Option Addr × Nat × List Int)} {vals : List Int} {val : Int → Int} (cap cap2 : Nat) (h : Grid w A rows) (hv : Row .i8 w B vals) (hval : ∀ r ∈ rows, ∀ x ∈ r.2.2, valM vals x = val x) (hm : ∀ r ∈ rows, ∀ x ∈ r.2.2, x ≤ 9223372036854775807) :
    Calls Try.prog 46 #[.slice A rows.length cap, .slice B vals.length cap2] w fun e w' => e = .returned (.tuple #[.int .i64 (lookF val (rowsOf rows) 0 (-1) 0).1, .int .i64 (lookF val (rowsOf rows) 0 (-1) 0).2.1, .int .i64 (lookF val (rowsOf rows) 0 (-1) 0).2.2]) ∧ w = w' := by
  have hlen := h.len
  have H := Lib.hid h
  have Hval := Lib.hid hval
  have Hm := Lib.hid hm
  have Hv := Lib.hid hv
  clear h hm hv hval
  go_enter Try.func46, Try.ntmps46
  go_wp2
  go_loopg [13, 5, 6] rows.length (fun g v vu vl wx => w = wx ∧ ∃ (i : Nat) (u l : Int), i + g = rows.length ∧ v = .int .i64 i ∧ vu = .int .i64 u ∧ vl = .int .i64 l ∧ lookF val ((rowsOf rows).drop i) i u l = lookF val (rowsOf rows) 0 (-1) 0)
  case atStart => exact ⟨rfl, 0, -1, 0, by omega, rfl, rfl, rfl, rfl⟩
  case round =>
    obtain ⟨rfl, i, u, l, hig, rfl, rfl, rfl, hinv⟩ := hrel
    have HI := Lib.hid hinv
    clear hinv
    cases gk with
    | zero =>
      have d1 : decide ((i : Int) < rows.length) = false := by simp; omega
      have HN := Lib.hid (show (rowsOf rows).drop i = [] from List.drop_eq_nil_of_le (by unfold rowsOf; rw [List.length_map]; omega))
      go_wp2
      go_ret3
      rw [← HI.out, HN.out]
      exact ⟨rfl, rfl⟩
    | succ k =>
      have hin : i < rows.length := by omega
      have d1 : decide ((i : Int) < rows.length) = true := by simp; omega
      obtain ⟨b, off, hA, hb, hcell⟩ := H.out.at_.resolve_left (by omega)
      subst hA
      obtain ⟨c0, hrow, _⟩ := hcell i hin
      have hx := Hm.out rows[i] (List.getElem_mem hin)
      have hvx := Hval.out rows[i] (List.getElem_mem hin)
      have hdr : (rowsOf rows).drop i = rows[i].2.2 :: (rowsOf rows).drop (i + 1) := by
        have hi2 : i < (rowsOf rows).length := by unfold rowsOf; rw [List.length_map]; exact hin
        rw [List.drop_eq_getElem_cons hi2]
        simp [rowsOf]
      have Hdr := Lib.hid hdr
      clear hcell hdr
      generalize rows[i].1 = xa at *
      generalize rows[i].2.1 = xc at *
      generalize rows[i].2.2 = c at *
      have K := state_ok xc cap2 hrow Hv.out hx
      rw [st_rep c 0 (-1) hvx] at K
      have hstep : lookF val (c :: (rowsOf rows).drop (i + 1)) i u l = (if (stF val c 0 (-1)).1 = 1 then ((i : Int), u, l) else if (stF val c 0 (-1)).1 = 2 then (if u = -1 then lookF val ((rowsOf rows).drop (i + 1)) (i + 1) i (stF val c 0 (-1)).2 else lookF val ((rowsOf rows).drop (i + 1)) (i + 1) u l) else lookF val ((rowsOf rows).drop (i + 1)) (i + 1) u l) := by
        conv => lhs; unfold lookF
      generalize stF val c 0 (-1) = s at K hstep
      obtain ⟨p1, p2⟩ := s
      have Hstep := Lib.hid hstep
      clear hx hvx hrow hstep
      simp only at K
      by_cases h1 : p1 = 1
      · subst h1
        go_wp2_with (go_at_call 50; (with_reducible refine K.mono ?_); rintro e w1 ⟨rfl, rfl⟩)
        go_ret3
        rw [← HI.out, Hdr.out, Hstep.out]
        exact ⟨rfl, rfl⟩
      have b1 : (p1 == 1) = false := beq_eq_false_iff_ne.2 h1
      have H1 := Lib.hid h1
      clear h1
      by_cases h2 : p1 = 2
      · subst h2
        by_cases h3 : u = -1
        · subst h3
          go_wp2_with (go_at_call 50; (with_reducible refine K.mono ?_); rintro e w1 ⟨rfl, rfl⟩)
          go_roundg k
          case measure => omega
          case rel => exact ⟨rfl, i + 1, i, p2, by omega, by go_num, rfl, rfl, by rw [← HI.out, Hdr.out, Hstep.out, if_neg H1.out]; rfl⟩
        · have b3 : (u == -1) = false := beq_eq_false_iff_ne.2 h3
          have H3 := Lib.hid h3
          clear h3
          go_wp2_with (go_at_call 50; (with_reducible refine K.mono ?_); rintro e w1 ⟨rfl, rfl⟩)
          go_roundg k
          case measure => omega
          case rel => exact ⟨rfl, i + 1, u, l, by omega, by go_num, rfl, rfl, by rw [← HI.out, Hdr.out, Hstep.out, if_neg H1.out, if_pos trivial, if_neg H3.out]; rfl⟩
      have b2 : (p1 == 2) = false := beq_eq_false_iff_ne.2 h2
      have H2 := Lib.hid h2
      clear h2
      go_wp2_with (go_at_call 50; (with_reducible refine K.mono ?_); rintro e w1 ⟨rfl, rfl⟩)
      go_roundg k
      case measure => omega
      case rel => exact ⟨rfl, i + 1, u, l, by omega, by go_num, rfl, rfl, by rw [← HI.out, Hdr.out, Hstep.out, if_neg H1.out, if_neg H2.out]; rfl⟩
end Go.Proofs.Ythnakfdiikidaaa

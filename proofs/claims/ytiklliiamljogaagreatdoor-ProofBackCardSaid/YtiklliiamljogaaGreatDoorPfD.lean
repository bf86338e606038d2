/- The reference's Is; what is put holds. -/
import Derived.Test.YtiklliiamljogaaGreatDoorUnL
import Derived.Test.YtiklliiamljogaaGreatDoorSameRef
namespace Go.Proofs.YtiklliiamljogaaGreatDoor
open Go.RowKit Go.Lib

theorem is15_ok {w : World} {A : Option Addr} {zs : List Int} (cap : Nat) (h : Row .i64 w A zs) (hz : zs.length ≤ 100000) :
    Calls Tryz.prog 46 #[.slice A zs.length cap] w fun e w' => e = .returned (.bool (zs == makeM zs)) ∧ Below w.heap.size w w' := by
  generalize hq : (zs == makeM zs) = q
  have Hq := Lib.hid hq
  have H := Lib.hid h
  have K1 := make15_ok cap h hz
  clear h hq
  go_enter Tryz.func46, Tryz.ntmps46
  go_wp2_with (first
    | (go_at_call 69; (with_reducible refine K1.mono ?_); rintro e w1 ⟨B, d, rfl, hr1, _, hb1⟩; have Hr1 := Lib.hid hr1; have Hb1 := Lib.hid hb1; clear hr1 hb1)
    | (go_at_call 40; refine (sameRef_ok cap d (H.out.below Hb1.out) Hr1.out).mono ?_; rintro e w2 ⟨rfl, n2, rfl⟩; rw [Hq.out]))
  go_ret
  exact ⟨rfl, below_drewN Hb1.out n2⟩
end Go.Proofs.YtiklliiamljogaaGreatDoor

/- The reference's numbers, May. -/
namespace Go.Proofs.YtiklliiamljogaaGreatDoor
open Go.RowKit

set_option maxHeartbeats 1000000 in
set_option maxRecDepth 100000 in
theorem numbers_ok {w : World} {A : Option Addr} {zs : List Int} (cap : Nat) (h : Row .i64 w A zs) :
    Calls Tryz.prog 47 #[.slice A zs.length cap] w fun e w' => e = .returned (.bool (zs.all fitN)) ∧ w = w' := by
  have hlen := h.len
  have H := Lib.hid h
  obtain ⟨R, hR⟩ : ∃ R, zs.all fitN = R := ⟨_, rfl⟩
  rw [hR]
  have HR := Lib.hid hR
  clear h hR
  go_enter Tryz.func47, Tryz.ntmps47
  go_wp2
  go_loopg [3] zs.length (fun g v wx => w = wx ∧ ∃ i : Nat, i + g = zs.length ∧ v = .int .i64 i ∧ (zs.drop i).all fitN = R)
  case atStart => exact ⟨rfl, 0, by omega, rfl, HR.out⟩
  case round =>
    obtain ⟨rfl, i, hig, rfl, hinv⟩ := hrel
    have HI := Lib.hid hinv
    clear hinv
    cases gk with
    | zero =>
      have d1 : decide ((i : Int) < zs.length) = false := by simp; omega
      have HN := Lib.hid (show zs.drop i = [] from List.drop_eq_nil_of_le (by omega))
      go_wp2
      go_ret
      rw [← HI.out, HN.out]
      exact ⟨rfl, rfl⟩
    | succ k =>
      have hin : i < zs.length := by omega
      have d1 : decide ((i : Int) < zs.length) = true := by simp; omega
      obtain ⟨b, off, hA, hb, hcell⟩ := H.out.at_.resolve_left (by omega)
      subst hA
      have c0 := hcell i hin
      have Hdr := Lib.hid (show zs.drop i = zs[i] :: zs.drop (i + 1) from List.drop_eq_getElem_cons hin)
      clear hcell
      generalize zs[i] = x at *
      by_cases hx0 : x < 0
      · have e1 : decide (x < 0) = true := decide_eq_true hx0
        have HE := Lib.hid (show R = false by rw [← HI.out, Hdr.out, List.all_cons]; unfold fitN; rw [decide_eq_false (show ¬ 0 ≤ x by omega)]; rfl)
        clear HI Hdr HR
        go_wp2
        go_ret
        exact ⟨by rw [HE.out]; rfl, rfl⟩
      · have e1 : decide (x < 0) = false := decide_eq_false hx0
        by_cases hx1 : x > 1073741824
        · have e2 : decide (x > 1073741824) = true := decide_eq_true hx1
          have e2' : decide (1073741824 < x) = true := e2
          have HE := Lib.hid (show R = false by rw [← HI.out, Hdr.out, List.all_cons]; unfold fitN; rw [decide_eq_false (show ¬ x ≤ 1073741824 by omega), Bool.and_false]; rfl)
          clear HI Hdr HR
          go_wp2
          go_ret
          exact ⟨by rw [HE.out]; rfl, rfl⟩
        · have e2 : decide (x > 1073741824) = false := decide_eq_false hx1
          have e2' : decide (1073741824 < x) = false := e2
          have HE := Lib.hid (show (zs.drop (i + 1)).all fitN = R by rw [← HI.out, Hdr.out, List.all_cons, (fit_iff x).2 ⟨by omega, by omega⟩]; rfl)
          clear HI Hdr HR
          go_wp2
          go_roundg k
          case measure => omega
          case rel => exact ⟨rfl, i + 1, by omega, by go_num, HE.out⟩
end Go.Proofs.YtiklliiamljogaaGreatDoor

/- The reference's May. -/
namespace Go.Proofs.YtiklliiamljogaaGreatDoor
open Go.RowKit

theorem two_row (w : World) (a b : Int) : Row .i64 (w.alloc (.cells #[.int .i64 a, .int .i64 b] 3)) (some ⟨w.heap.size, 0, none⟩) [a, b] := by
  have hB := Blk.new w 3 #[.int .i64 a, .int .i64 b]
  refine ⟨by simp, .inr ⟨w.heap.size, 0, rfl, hB.lt, fun i hi => ?_⟩⟩
  rw [Nat.zero_add]
  have : i = 0 ∨ i = 1 := by have : i < 2 := hi; omega
  rcases this with rfl | rfl
  · exact hB.cell 0
  · exact hB.cell 1

set_option maxHeartbeats 2000000 in
set_option maxRecDepth 100000 in
theorem rmay_is (s : Stp) (w w0 : World) (A : Option Addr) (c : Nat) (h : Box4 w s A c w0) (hz : s.l.length ≤ 100000) (hI : (s.l == makeM s.l) = false) :
    Calls Tryz.prog 24 #[.agg #[.int .i8 s.k, .int .i64 s.a, .int .i64 s.b, .slice A s.l.length c]] w fun e w' => e = .returned (.bool false) ∧ Below w.heap.size w w' := by
  have HI := Lib.hid hI
  clear hI
  have e0 := h.eq
  have HX := Lib.hid h
  have HZ := Lib.hid hz
  obtain ⟨x0, x1, x2, x3⟩ := h.at_ w0 (Below.refl _ _)
  clear h hz
  go_enter Tryz.func24, Tryz.ntmps24
  go_wp2_with (first
    | (go_at_call 46; refine (is15_ok c (HX.out.row _ (Below.refl _ _)) HZ.out).mono ?_; rw [HI.out]; rintro e w2 ⟨rfl, hb2⟩; obtain ⟨y0, y1, y2, y3⟩ := HX.out.at_ w2 hb2))
  go_ret
  exact ⟨rfl, HX.out.below.trans (hb2.mono HX.out.below.size)⟩
set_option maxHeartbeats 2000000 in
set_option maxRecDepth 100000 in
theorem rmay_l (s : Stp) (w w0 : World) (A : Option Addr) (c : Nat) (h : Box4 w s A c w0) (hz : s.l.length ≤ 100000) (hI : (s.l == makeM s.l) = true) (hL : s.l.all fitN = false) :
    Calls Tryz.prog 24 #[.agg #[.int .i8 s.k, .int .i64 s.a, .int .i64 s.b, .slice A s.l.length c]] w fun e w' => e = .returned (.bool false) ∧ Below w.heap.size w w' := by
  have HI := Lib.hid hI
  clear hI
  have HL := Lib.hid hL
  clear hL
  have e0 := h.eq
  have HX := Lib.hid h
  have HZ := Lib.hid hz
  obtain ⟨x0, x1, x2, x3⟩ := h.at_ w0 (Below.refl _ _)
  clear h hz
  go_enter Tryz.func24, Tryz.ntmps24
  go_wp2_with (first
    | (go_at_call 46; refine (is15_ok c (HX.out.row _ (Below.refl _ _)) HZ.out).mono ?_; rw [HI.out]; rintro e w2 ⟨rfl, hb2⟩; obtain ⟨y0, y1, y2, y3⟩ := HX.out.at_ w2 hb2)
    | (go_at_call 47; (with_reducible refine (numbers_ok c (HX.out.row _ hb2)).mono ?_); rw [HL.out]; rintro e w3 ⟨rfl, rfl⟩))
  go_ret
  exact ⟨rfl, HX.out.below.trans (hb2.mono HX.out.below.size)⟩
set_option maxHeartbeats 2000000 in
set_option maxRecDepth 100000 in
theorem rmay_ab (s : Stp) (w w0 : World) (A : Option Addr) (c : Nat) (h : Box4 w s A c w0) (hz : s.l.length ≤ 100000) (hI : (s.l == makeM s.l) = true) (hL : s.l.all fitN = true) (hAB : (fitN s.a && fitN s.b) = false) :
    Calls Tryz.prog 24 #[.agg #[.int .i8 s.k, .int .i64 s.a, .int .i64 s.b, .slice A s.l.length c]] w fun e w' => e = .returned (.bool false) ∧ Below w.heap.size w w' := by
  have HI := Lib.hid hI
  clear hI
  have HL := Lib.hid hL
  clear hL
  have HAB := Lib.hid (show [s.a, s.b].all fitN = false by simp only [List.all_cons, List.all_nil, Bool.and_true]; exact hAB)
  clear hAB
  have e0 := h.eq
  have HX := Lib.hid h
  have HZ := Lib.hid hz
  obtain ⟨x0, x1, x2, x3⟩ := h.at_ w0 (Below.refl _ _)
  clear h hz
  go_enter Tryz.func24, Tryz.ntmps24
  go_wp2_with (first
    | (go_at_call 46; refine (is15_ok c (HX.out.row _ (Below.refl _ _)) HZ.out).mono ?_; rw [HI.out]; rintro e w2 ⟨rfl, hb2⟩; obtain ⟨y0, y1, y2, y3⟩ := HX.out.at_ w2 hb2)
    | (go_at_call 47; (with_reducible refine (numbers_ok c (HX.out.row _ hb2)).mono ?_); rw [HL.out]; rintro e w3 ⟨rfl, rfl⟩)
    | (go_at_call 47; refine (numbers_ok (zs := [s.a, s.b]) 2 (two_row w2 s.a s.b)).mono ?_; rw [HAB.out]; rintro e w3 ⟨rfl, rfl⟩; have hb3 := hb2.alloc hb2.size (.cells #[.int .i64 s.a, .int .i64 s.b] 3); obtain ⟨z0, z1, z2, z3⟩ := HX.out.at_ _ hb3))
  go_ret
  exact ⟨rfl, HX.out.below.trans (hb3.mono HX.out.below.size)⟩
set_option maxHeartbeats 2000000 in
set_option maxRecDepth 100000 in
theorem rmay_none (s : Stp) (w w0 : World) (A : Option Addr) (c : Nat) (h : Box4 w s A c w0) (hz : s.l.length ≤ 100000) (hI : (s.l == makeM s.l) = true) (hL : s.l.all fitN = true) (hAB : (fitN s.a && fitN s.b) = true) (hk : s.k < 0 ∨ 6 ≤ s.k) :
    Calls Tryz.prog 24 #[.agg #[.int .i8 s.k, .int .i64 s.a, .int .i64 s.b, .slice A s.l.length c]] w fun e w' => e = .returned (.bool false) ∧ Below w.heap.size w w' := by
  have HI := Lib.hid hI
  clear hI
  have HL := Lib.hid hL
  clear hL
  have HAB := Lib.hid (show [s.a, s.b].all fitN = true by simp only [List.all_cons, List.all_nil, Bool.and_true]; exact hAB)
  clear hAB
  have k0 : (s.k == 0) = false := beq_eq_false_iff_ne.2 (by omega)
  have k1 : (s.k == 1) = false := beq_eq_false_iff_ne.2 (by omega)
  have k2 : (s.k == 2) = false := beq_eq_false_iff_ne.2 (by omega)
  have k3 : (s.k == 3) = false := beq_eq_false_iff_ne.2 (by omega)
  have k4 : (s.k == 4) = false := beq_eq_false_iff_ne.2 (by omega)
  have k5 : (s.k == 5) = false := beq_eq_false_iff_ne.2 (by omega)
  have e0 := h.eq
  have HX := Lib.hid h
  have HZ := Lib.hid hz
  obtain ⟨x0, x1, x2, x3⟩ := h.at_ w0 (Below.refl _ _)
  clear h hz
  go_enter Tryz.func24, Tryz.ntmps24
  go_wp2_with (first
    | (go_at_call 46; refine (is15_ok c (HX.out.row _ (Below.refl _ _)) HZ.out).mono ?_; rw [HI.out]; rintro e w2 ⟨rfl, hb2⟩; obtain ⟨y0, y1, y2, y3⟩ := HX.out.at_ w2 hb2)
    | (go_at_call 47; (with_reducible refine (numbers_ok c (HX.out.row _ hb2)).mono ?_); rw [HL.out]; rintro e w3 ⟨rfl, rfl⟩)
    | (go_at_call 47; refine (numbers_ok (zs := [s.a, s.b]) 2 (two_row w2 s.a s.b)).mono ?_; rw [HAB.out]; rintro e w3 ⟨rfl, rfl⟩; have hb3 := hb2.alloc hb2.size (.cells #[.int .i64 s.a, .int .i64 s.b] 3); obtain ⟨z0, z1, z2, z3⟩ := HX.out.at_ _ hb3))
  go_ret
  exact ⟨rfl, HX.out.below.trans (hb3.mono HX.out.below.size)⟩
set_option maxHeartbeats 2000000 in
set_option maxRecDepth 100000 in
theorem rmay_0 (s : Stp) (w w0 : World) (A : Option Addr) (c : Nat) (h : Box4 w s A c w0) (hz : s.l.length ≤ 100000) (hk : s.k = 0) (hI : (s.l == makeM s.l) = true) (hL : s.l.all fitN = true) (hAB : (fitN s.a && fitN s.b) = true) :
    Calls Tryz.prog 24 #[.agg #[.int .i8 s.k, .int .i64 s.a, .int .i64 s.b, .slice A s.l.length c]] w fun e w' => e = .returned (.bool (s.b == 0)) ∧ Below w.heap.size w w' := by
  have HI := Lib.hid hI
  clear hI
  have HL := Lib.hid hL
  clear hL
  have HAB := Lib.hid (show [s.a, s.b].all fitN = true by simp only [List.all_cons, List.all_nil, Bool.and_true]; exact hAB)
  clear hAB
  have k0 : (s.k == 0) = true := beq_iff_eq.2 (by omega)
  have e0 := h.eq
  rw [hk] at e0
  have HX := Lib.hid h
  have HZ := Lib.hid hz
  obtain ⟨x0, x1, x2, x3⟩ := h.at_ w0 (Below.refl _ _)
  clear h hz
  go_enter Tryz.func24, Tryz.ntmps24
  go_wp2_with (first
    | (go_at_call 46; refine (is15_ok c (HX.out.row _ (Below.refl _ _)) HZ.out).mono ?_; rw [HI.out]; rintro e w2 ⟨rfl, hb2⟩; obtain ⟨y0, y1, y2, y3⟩ := HX.out.at_ w2 hb2)
    | (go_at_call 47; (with_reducible refine (numbers_ok c (HX.out.row _ hb2)).mono ?_); rw [HL.out]; rintro e w3 ⟨rfl, rfl⟩)
    | (go_at_call 47; refine (numbers_ok (zs := [s.a, s.b]) 2 (two_row w2 s.a s.b)).mono ?_; rw [HAB.out]; rintro e w3 ⟨rfl, rfl⟩; have hb3 := hb2.alloc hb2.size (.cells #[.int .i64 s.a, .int .i64 s.b] 3); obtain ⟨z0, z1, z2, z3⟩ := HX.out.at_ _ hb3))
  go_ret
  exact ⟨rfl, HX.out.below.trans (hb3.mono HX.out.below.size)⟩
set_option maxHeartbeats 2000000 in
set_option maxRecDepth 100000 in
theorem rmay_1 (s : Stp) (w w0 : World) (A : Option Addr) (c : Nat) (h : Box4 w s A c w0) (hz : s.l.length ≤ 100000) (hk : s.k = 1) (hI : (s.l == makeM s.l) = true) (hL : s.l.all fitN = true) (hAB : (fitN s.a && fitN s.b) = true) :
    Calls Tryz.prog 24 #[.agg #[.int .i8 s.k, .int .i64 s.a, .int .i64 s.b, .slice A s.l.length c]] w fun e w' => e = .returned (.bool (s.b == 0)) ∧ Below w.heap.size w w' := by
  have HI := Lib.hid hI
  clear hI
  have HL := Lib.hid hL
  clear hL
  have HAB := Lib.hid (show [s.a, s.b].all fitN = true by simp only [List.all_cons, List.all_nil, Bool.and_true]; exact hAB)
  clear hAB
  have k0 : (s.k == 0) = false := beq_eq_false_iff_ne.2 (by omega)
  have k1 : (s.k == 1) = true := beq_iff_eq.2 (by omega)
  have e0 := h.eq
  rw [hk] at e0
  have HX := Lib.hid h
  have HZ := Lib.hid hz
  obtain ⟨x0, x1, x2, x3⟩ := h.at_ w0 (Below.refl _ _)
  clear h hz
  go_enter Tryz.func24, Tryz.ntmps24
  go_wp2_with (first
    | (go_at_call 46; refine (is15_ok c (HX.out.row _ (Below.refl _ _)) HZ.out).mono ?_; rw [HI.out]; rintro e w2 ⟨rfl, hb2⟩; obtain ⟨y0, y1, y2, y3⟩ := HX.out.at_ w2 hb2)
    | (go_at_call 47; (with_reducible refine (numbers_ok c (HX.out.row _ hb2)).mono ?_); rw [HL.out]; rintro e w3 ⟨rfl, rfl⟩)
    | (go_at_call 47; refine (numbers_ok (zs := [s.a, s.b]) 2 (two_row w2 s.a s.b)).mono ?_; rw [HAB.out]; rintro e w3 ⟨rfl, rfl⟩; have hb3 := hb2.alloc hb2.size (.cells #[.int .i64 s.a, .int .i64 s.b] 3); obtain ⟨z0, z1, z2, z3⟩ := HX.out.at_ _ hb3))
  go_ret
  exact ⟨rfl, HX.out.below.trans (hb3.mono HX.out.below.size)⟩
set_option maxHeartbeats 2000000 in
set_option maxRecDepth 100000 in
theorem rmay_2 (s : Stp) (w w0 : World) (A : Option Addr) (c : Nat) (h : Box4 w s A c w0) (hz : s.l.length ≤ 100000) (hk : s.k = 2) (hI : (s.l == makeM s.l) = true) (hL : s.l.all fitN = true) (hAB : (fitN s.a && fitN s.b) = true) :
    Calls Tryz.prog 24 #[.agg #[.int .i8 s.k, .int .i64 s.a, .int .i64 s.b, .slice A s.l.length c]] w fun e w' => e = .returned (.bool (decide (s.a < s.b))) ∧ Below w.heap.size w w' := by
  have HI := Lib.hid hI
  clear hI
  have HL := Lib.hid hL
  clear hL
  have HAB := Lib.hid (show [s.a, s.b].all fitN = true by simp only [List.all_cons, List.all_nil, Bool.and_true]; exact hAB)
  clear hAB
  have k0 : (s.k == 0) = false := beq_eq_false_iff_ne.2 (by omega)
  have k1 : (s.k == 1) = false := beq_eq_false_iff_ne.2 (by omega)
  have k2 : (s.k == 2) = true := beq_iff_eq.2 (by omega)
  have e0 := h.eq
  rw [hk] at e0
  have HX := Lib.hid h
  have HZ := Lib.hid hz
  obtain ⟨x0, x1, x2, x3⟩ := h.at_ w0 (Below.refl _ _)
  clear h hz
  go_enter Tryz.func24, Tryz.ntmps24
  go_wp2_with (first
    | (go_at_call 46; refine (is15_ok c (HX.out.row _ (Below.refl _ _)) HZ.out).mono ?_; rw [HI.out]; rintro e w2 ⟨rfl, hb2⟩; obtain ⟨y0, y1, y2, y3⟩ := HX.out.at_ w2 hb2)
    | (go_at_call 47; (with_reducible refine (numbers_ok c (HX.out.row _ hb2)).mono ?_); rw [HL.out]; rintro e w3 ⟨rfl, rfl⟩)
    | (go_at_call 47; refine (numbers_ok (zs := [s.a, s.b]) 2 (two_row w2 s.a s.b)).mono ?_; rw [HAB.out]; rintro e w3 ⟨rfl, rfl⟩; have hb3 := hb2.alloc hb2.size (.cells #[.int .i64 s.a, .int .i64 s.b] 3); obtain ⟨z0, z1, z2, z3⟩ := HX.out.at_ _ hb3))
  go_ret
  exact ⟨rfl, HX.out.below.trans (hb3.mono HX.out.below.size)⟩
set_option maxHeartbeats 2000000 in
set_option maxRecDepth 100000 in
theorem rmay_3z (s : Stp) (w w0 : World) (A : Option Addr) (c : Nat) (h : Box4 w s A c w0) (hz : s.l.length ≤ 100000) (hk : s.k = 3) (hI : (s.l == makeM s.l) = true) (hL : s.l.all fitN = true) (hAB : (fitN s.a && fitN s.b) = true) (ha : s.a = 0) :
    Calls Tryz.prog 24 #[.agg #[.int .i8 s.k, .int .i64 s.a, .int .i64 s.b, .slice A s.l.length c]] w fun e w' => e = .returned (.bool (s.b == 0)) ∧ Below w.heap.size w w' := by
  have HI := Lib.hid hI
  clear hI
  have HL := Lib.hid hL
  clear hL
  have HAB := Lib.hid (show [s.a, s.b].all fitN = true by simp only [List.all_cons, List.all_nil, Bool.and_true]; exact hAB)
  clear hAB
  have b1 : (s.a == 0) = true := beq_iff_eq.2 ha
  clear ha
  have k0 : (s.k == 0) = false := beq_eq_false_iff_ne.2 (by omega)
  have k1 : (s.k == 1) = false := beq_eq_false_iff_ne.2 (by omega)
  have k2 : (s.k == 2) = false := beq_eq_false_iff_ne.2 (by omega)
  have k3 : (s.k == 3) = true := beq_iff_eq.2 (by omega)
  have e0 := h.eq
  rw [hk] at e0
  have HX := Lib.hid h
  have HZ := Lib.hid hz
  obtain ⟨x0, x1, x2, x3⟩ := h.at_ w0 (Below.refl _ _)
  clear h hz
  go_enter Tryz.func24, Tryz.ntmps24
  go_wp2_with (first
    | (go_at_call 46; refine (is15_ok c (HX.out.row _ (Below.refl _ _)) HZ.out).mono ?_; rw [HI.out]; rintro e w2 ⟨rfl, hb2⟩; obtain ⟨y0, y1, y2, y3⟩ := HX.out.at_ w2 hb2)
    | (go_at_call 47; (with_reducible refine (numbers_ok c (HX.out.row _ hb2)).mono ?_); rw [HL.out]; rintro e w3 ⟨rfl, rfl⟩)
    | (go_at_call 47; refine (numbers_ok (zs := [s.a, s.b]) 2 (two_row w2 s.a s.b)).mono ?_; rw [HAB.out]; rintro e w3 ⟨rfl, rfl⟩; have hb3 := hb2.alloc hb2.size (.cells #[.int .i64 s.a, .int .i64 s.b] 3); obtain ⟨z0, z1, z2, z3⟩ := HX.out.at_ _ hb3))
  go_ret
  exact ⟨rfl, HX.out.below.trans (hb3.mono HX.out.below.size)⟩
set_option maxHeartbeats 2000000 in
set_option maxRecDepth 100000 in
theorem rmay_3n (s : Stp) (w w0 : World) (A : Option Addr) (c : Nat) (h : Box4 w s A c w0) (hz : s.l.length ≤ 100000) (hk : s.k = 3) (hI : (s.l == makeM s.l) = true) (hL : s.l.all fitN = true) (hAB : (fitN s.a && fitN s.b) = true) (ha : s.a ≠ 0) :
    Calls Tryz.prog 24 #[.agg #[.int .i8 s.k, .int .i64 s.a, .int .i64 s.b, .slice A s.l.length c]] w fun e w' => e = .returned (.bool false) ∧ Below w.heap.size w w' := by
  have HI := Lib.hid hI
  clear hI
  have HL := Lib.hid hL
  clear hL
  have HAB := Lib.hid (show [s.a, s.b].all fitN = true by simp only [List.all_cons, List.all_nil, Bool.and_true]; exact hAB)
  clear hAB
  have b1 : (s.a == 0) = false := beq_eq_false_iff_ne.2 ha
  clear ha
  have k0 : (s.k == 0) = false := beq_eq_false_iff_ne.2 (by omega)
  have k1 : (s.k == 1) = false := beq_eq_false_iff_ne.2 (by omega)
  have k2 : (s.k == 2) = false := beq_eq_false_iff_ne.2 (by omega)
  have k3 : (s.k == 3) = true := beq_iff_eq.2 (by omega)
  have e0 := h.eq
  rw [hk] at e0
  have HX := Lib.hid h
  have HZ := Lib.hid hz
  obtain ⟨x0, x1, x2, x3⟩ := h.at_ w0 (Below.refl _ _)
  clear h hz
  go_enter Tryz.func24, Tryz.ntmps24
  go_wp2_with (first
    | (go_at_call 46; refine (is15_ok c (HX.out.row _ (Below.refl _ _)) HZ.out).mono ?_; rw [HI.out]; rintro e w2 ⟨rfl, hb2⟩; obtain ⟨y0, y1, y2, y3⟩ := HX.out.at_ w2 hb2)
    | (go_at_call 47; (with_reducible refine (numbers_ok c (HX.out.row _ hb2)).mono ?_); rw [HL.out]; rintro e w3 ⟨rfl, rfl⟩)
    | (go_at_call 47; refine (numbers_ok (zs := [s.a, s.b]) 2 (two_row w2 s.a s.b)).mono ?_; rw [HAB.out]; rintro e w3 ⟨rfl, rfl⟩; have hb3 := hb2.alloc hb2.size (.cells #[.int .i64 s.a, .int .i64 s.b] 3); obtain ⟨z0, z1, z2, z3⟩ := HX.out.at_ _ hb3))
  go_ret
  exact ⟨rfl, HX.out.below.trans (hb3.mono HX.out.below.size)⟩
set_option maxHeartbeats 2000000 in
set_option maxRecDepth 100000 in
theorem rmay_4z (s : Stp) (w w0 : World) (A : Option Addr) (c : Nat) (h : Box4 w s A c w0) (hz : s.l.length ≤ 100000) (hk : s.k = 4) (hI : (s.l == makeM s.l) = true) (hL : s.l.all fitN = true) (hAB : (fitN s.a && fitN s.b) = true) (ha : s.a = 0) :
    Calls Tryz.prog 24 #[.agg #[.int .i8 s.k, .int .i64 s.a, .int .i64 s.b, .slice A s.l.length c]] w fun e w' => e = .returned (.bool (s.b == 0)) ∧ Below w.heap.size w w' := by
  have HI := Lib.hid hI
  clear hI
  have HL := Lib.hid hL
  clear hL
  have HAB := Lib.hid (show [s.a, s.b].all fitN = true by simp only [List.all_cons, List.all_nil, Bool.and_true]; exact hAB)
  clear hAB
  have b1 : (s.a == 0) = true := beq_iff_eq.2 ha
  clear ha
  have k0 : (s.k == 0) = false := beq_eq_false_iff_ne.2 (by omega)
  have k1 : (s.k == 1) = false := beq_eq_false_iff_ne.2 (by omega)
  have k2 : (s.k == 2) = false := beq_eq_false_iff_ne.2 (by omega)
  have k3 : (s.k == 3) = false := beq_eq_false_iff_ne.2 (by omega)
  have k4 : (s.k == 4) = true := beq_iff_eq.2 (by omega)
  have e0 := h.eq
  rw [hk] at e0
  have HX := Lib.hid h
  have HZ := Lib.hid hz
  obtain ⟨x0, x1, x2, x3⟩ := h.at_ w0 (Below.refl _ _)
  clear h hz
  go_enter Tryz.func24, Tryz.ntmps24
  go_wp2_with (first
    | (go_at_call 46; refine (is15_ok c (HX.out.row _ (Below.refl _ _)) HZ.out).mono ?_; rw [HI.out]; rintro e w2 ⟨rfl, hb2⟩; obtain ⟨y0, y1, y2, y3⟩ := HX.out.at_ w2 hb2)
    | (go_at_call 47; (with_reducible refine (numbers_ok c (HX.out.row _ hb2)).mono ?_); rw [HL.out]; rintro e w3 ⟨rfl, rfl⟩)
    | (go_at_call 47; refine (numbers_ok (zs := [s.a, s.b]) 2 (two_row w2 s.a s.b)).mono ?_; rw [HAB.out]; rintro e w3 ⟨rfl, rfl⟩; have hb3 := hb2.alloc hb2.size (.cells #[.int .i64 s.a, .int .i64 s.b] 3); obtain ⟨z0, z1, z2, z3⟩ := HX.out.at_ _ hb3))
  go_ret
  exact ⟨rfl, HX.out.below.trans (hb3.mono HX.out.below.size)⟩
set_option maxHeartbeats 2000000 in
set_option maxRecDepth 100000 in
theorem rmay_4n (s : Stp) (w w0 : World) (A : Option Addr) (c : Nat) (h : Box4 w s A c w0) (hz : s.l.length ≤ 100000) (hk : s.k = 4) (hI : (s.l == makeM s.l) = true) (hL : s.l.all fitN = true) (hAB : (fitN s.a && fitN s.b) = true) (ha : s.a ≠ 0) :
    Calls Tryz.prog 24 #[.agg #[.int .i8 s.k, .int .i64 s.a, .int .i64 s.b, .slice A s.l.length c]] w fun e w' => e = .returned (.bool false) ∧ Below w.heap.size w w' := by
  have HI := Lib.hid hI
  clear hI
  have HL := Lib.hid hL
  clear hL
  have HAB := Lib.hid (show [s.a, s.b].all fitN = true by simp only [List.all_cons, List.all_nil, Bool.and_true]; exact hAB)
  clear hAB
  have b1 : (s.a == 0) = false := beq_eq_false_iff_ne.2 ha
  clear ha
  have k0 : (s.k == 0) = false := beq_eq_false_iff_ne.2 (by omega)
  have k1 : (s.k == 1) = false := beq_eq_false_iff_ne.2 (by omega)
  have k2 : (s.k == 2) = false := beq_eq_false_iff_ne.2 (by omega)
  have k3 : (s.k == 3) = false := beq_eq_false_iff_ne.2 (by omega)
  have k4 : (s.k == 4) = true := beq_iff_eq.2 (by omega)
  have e0 := h.eq
  rw [hk] at e0
  have HX := Lib.hid h
  have HZ := Lib.hid hz
  obtain ⟨x0, x1, x2, x3⟩ := h.at_ w0 (Below.refl _ _)
  clear h hz
  go_enter Tryz.func24, Tryz.ntmps24
  go_wp2_with (first
    | (go_at_call 46; refine (is15_ok c (HX.out.row _ (Below.refl _ _)) HZ.out).mono ?_; rw [HI.out]; rintro e w2 ⟨rfl, hb2⟩; obtain ⟨y0, y1, y2, y3⟩ := HX.out.at_ w2 hb2)
    | (go_at_call 47; (with_reducible refine (numbers_ok c (HX.out.row _ hb2)).mono ?_); rw [HL.out]; rintro e w3 ⟨rfl, rfl⟩)
    | (go_at_call 47; refine (numbers_ok (zs := [s.a, s.b]) 2 (two_row w2 s.a s.b)).mono ?_; rw [HAB.out]; rintro e w3 ⟨rfl, rfl⟩; have hb3 := hb2.alloc hb2.size (.cells #[.int .i64 s.a, .int .i64 s.b] 3); obtain ⟨z0, z1, z2, z3⟩ := HX.out.at_ _ hb3))
  go_ret
  exact ⟨rfl, HX.out.below.trans (hb3.mono HX.out.below.size)⟩
set_option maxHeartbeats 2000000 in
set_option maxRecDepth 100000 in
theorem rmay_5z (s : Stp) (w w0 : World) (A : Option Addr) (c : Nat) (h : Box4 w s A c w0) (hz : s.l.length ≤ 100000) (hk : s.k = 5) (hI : (s.l == makeM s.l) = true) (hL : s.l.all fitN = true) (hAB : (fitN s.a && fitN s.b) = true) (ha : s.a = 0) :
    Calls Tryz.prog 24 #[.agg #[.int .i8 s.k, .int .i64 s.a, .int .i64 s.b, .slice A s.l.length c]] w fun e w' => e = .returned (.bool (s.b == 0)) ∧ Below w.heap.size w w' := by
  have HI := Lib.hid hI
  clear hI
  have HL := Lib.hid hL
  clear hL
  have HAB := Lib.hid (show [s.a, s.b].all fitN = true by simp only [List.all_cons, List.all_nil, Bool.and_true]; exact hAB)
  clear hAB
  have b1 : (s.a == 0) = true := beq_iff_eq.2 ha
  clear ha
  have k0 : (s.k == 0) = false := beq_eq_false_iff_ne.2 (by omega)
  have k1 : (s.k == 1) = false := beq_eq_false_iff_ne.2 (by omega)
  have k2 : (s.k == 2) = false := beq_eq_false_iff_ne.2 (by omega)
  have k3 : (s.k == 3) = false := beq_eq_false_iff_ne.2 (by omega)
  have k4 : (s.k == 4) = false := beq_eq_false_iff_ne.2 (by omega)
  have k5 : (s.k == 5) = true := beq_iff_eq.2 (by omega)
  have e0 := h.eq
  rw [hk] at e0
  have HX := Lib.hid h
  have HZ := Lib.hid hz
  obtain ⟨x0, x1, x2, x3⟩ := h.at_ w0 (Below.refl _ _)
  clear h hz
  go_enter Tryz.func24, Tryz.ntmps24
  go_wp2_with (first
    | (go_at_call 46; refine (is15_ok c (HX.out.row _ (Below.refl _ _)) HZ.out).mono ?_; rw [HI.out]; rintro e w2 ⟨rfl, hb2⟩; obtain ⟨y0, y1, y2, y3⟩ := HX.out.at_ w2 hb2)
    | (go_at_call 47; (with_reducible refine (numbers_ok c (HX.out.row _ hb2)).mono ?_); rw [HL.out]; rintro e w3 ⟨rfl, rfl⟩)
    | (go_at_call 47; refine (numbers_ok (zs := [s.a, s.b]) 2 (two_row w2 s.a s.b)).mono ?_; rw [HAB.out]; rintro e w3 ⟨rfl, rfl⟩; have hb3 := hb2.alloc hb2.size (.cells #[.int .i64 s.a, .int .i64 s.b] 3); obtain ⟨z0, z1, z2, z3⟩ := HX.out.at_ _ hb3))
  go_ret
  exact ⟨rfl, HX.out.below.trans (hb3.mono HX.out.below.size)⟩
set_option maxHeartbeats 2000000 in
set_option maxRecDepth 100000 in
theorem rmay_5n (s : Stp) (w w0 : World) (A : Option Addr) (c : Nat) (h : Box4 w s A c w0) (hz : s.l.length ≤ 100000) (hk : s.k = 5) (hI : (s.l == makeM s.l) = true) (hL : s.l.all fitN = true) (hAB : (fitN s.a && fitN s.b) = true) (ha : s.a ≠ 0) :
    Calls Tryz.prog 24 #[.agg #[.int .i8 s.k, .int .i64 s.a, .int .i64 s.b, .slice A s.l.length c]] w fun e w' => e = .returned (.bool false) ∧ Below w.heap.size w w' := by
  have HI := Lib.hid hI
  clear hI
  have HL := Lib.hid hL
  clear hL
  have HAB := Lib.hid (show [s.a, s.b].all fitN = true by simp only [List.all_cons, List.all_nil, Bool.and_true]; exact hAB)
  clear hAB
  have b1 : (s.a == 0) = false := beq_eq_false_iff_ne.2 ha
  clear ha
  have k0 : (s.k == 0) = false := beq_eq_false_iff_ne.2 (by omega)
  have k1 : (s.k == 1) = false := beq_eq_false_iff_ne.2 (by omega)
  have k2 : (s.k == 2) = false := beq_eq_false_iff_ne.2 (by omega)
  have k3 : (s.k == 3) = false := beq_eq_false_iff_ne.2 (by omega)
  have k4 : (s.k == 4) = false := beq_eq_false_iff_ne.2 (by omega)
  have k5 : (s.k == 5) = true := beq_iff_eq.2 (by omega)
  have e0 := h.eq
  rw [hk] at e0
  have HX := Lib.hid h
  have HZ := Lib.hid hz
  obtain ⟨x0, x1, x2, x3⟩ := h.at_ w0 (Below.refl _ _)
  clear h hz
  go_enter Tryz.func24, Tryz.ntmps24
  go_wp2_with (first
    | (go_at_call 46; refine (is15_ok c (HX.out.row _ (Below.refl _ _)) HZ.out).mono ?_; rw [HI.out]; rintro e w2 ⟨rfl, hb2⟩; obtain ⟨y0, y1, y2, y3⟩ := HX.out.at_ w2 hb2)
    | (go_at_call 47; (with_reducible refine (numbers_ok c (HX.out.row _ hb2)).mono ?_); rw [HL.out]; rintro e w3 ⟨rfl, rfl⟩)
    | (go_at_call 47; refine (numbers_ok (zs := [s.a, s.b]) 2 (two_row w2 s.a s.b)).mono ?_; rw [HAB.out]; rintro e w3 ⟨rfl, rfl⟩; have hb3 := hb2.alloc hb2.size (.cells #[.int .i64 s.a, .int .i64 s.b] 3); obtain ⟨z0, z1, z2, z3⟩ := HX.out.at_ _ hb3))
  go_ret
  exact ⟨rfl, HX.out.below.trans (hb3.mono HX.out.below.size)⟩

theorem rmay_ok (s : Stp) (w : World) (y : C4) (h : Is4 w y s) (hz : s.l.length ≤ 100000) :
    Calls Tryz.prog 24 #[y.val] w fun e w' => e = .returned (.bool s.may) ∧ Below w.heap.size w w' := by
  obtain ⟨A, c, w0, hy, hx⟩ := box4 h
  rw [hy]
  have hsm : s.may = ((s.l == makeM s.l) && (s.l.all fitN && ((fitN s.a && fitN s.b) && (decide (0 ≤ s.k) && (decide (s.k < 6) && s.ab))))) := by
    unfold Stp.may
    cases decide (0 ≤ s.k) <;> cases decide (s.k < 6) <;> cases (s.l == makeM s.l) <;> cases fitN s.a <;> cases fitN s.b <;> cases s.l.all fitN <;> rfl
  rw [hsm]
  cases hI : s.l == makeM s.l with
  | false => rw [Bool.false_and]; exact rmay_is s w w0 A c hx hz hI
  | true =>
    rw [Bool.true_and]
    cases hL : s.l.all fitN with
    | false => rw [Bool.false_and]; exact rmay_l s w w0 A c hx hz hI hL
    | true =>
      rw [Bool.true_and]
      cases hAB : fitN s.a && fitN s.b with
      | false => rw [Bool.false_and]; exact rmay_ab s w w0 A c hx hz hI hL hAB
      | true =>
        rw [Bool.true_and]
        by_cases h0 : 0 ≤ s.k
        · rw [decide_eq_true h0, Bool.true_and]
          by_cases h6 : s.k < 6
          · rw [decide_eq_true h6, Bool.true_and]
            unfold Stp.ab manyK
            have hk : s.k = 0 ∨ s.k = 1 ∨ s.k = 2 ∨ s.k = 3 ∨ s.k = 4 ∨ s.k = 5 := by omega
            rcases hk with hk | hk | hk | hk | hk | hk
            · simp only [hk]; exact rmay_0 s w w0 A c hx hz hk hI hL hAB |> fun h => by rw [hk] at h; exact h
            · simp only [hk]; exact rmay_1 s w w0 A c hx hz hk hI hL hAB |> fun h => by rw [hk] at h; exact h
            · simp only [hk]; exact rmay_2 s w w0 A c hx hz hk hI hL hAB |> fun h => by rw [hk] at h; exact h
            · by_cases ha : s.a = 0
              · simp only [hk, ha]; exact rmay_3z s w w0 A c hx hz hk hI hL hAB ha |> fun h => by rw [hk, ha] at h; exact h
              · have hb : (s.a == 0) = false := beq_eq_false_iff_ne.2 ha
                simp only [hk, hb]; exact rmay_3n s w w0 A c hx hz hk hI hL hAB ha |> fun h => by rw [hk] at h; exact h
            · by_cases ha : s.a = 0
              · simp only [hk, ha]; exact rmay_4z s w w0 A c hx hz hk hI hL hAB ha |> fun h => by rw [hk, ha] at h; exact h
              · have hb : (s.a == 0) = false := beq_eq_false_iff_ne.2 ha
                simp only [hk, hb]; exact rmay_4n s w w0 A c hx hz hk hI hL hAB ha |> fun h => by rw [hk] at h; exact h
            · by_cases ha : s.a = 0
              · simp only [hk, ha]; exact rmay_5z s w w0 A c hx hz hk hI hL hAB ha |> fun h => by rw [hk, ha] at h; exact h
              · have hb : (s.a == 0) = false := beq_eq_false_iff_ne.2 ha
                simp only [hk, hb]; exact rmay_5n s w w0 A c hx hz hk hI hL hAB ha |> fun h => by rw [hk] at h; exact h
          · rw [decide_eq_false h6, Bool.false_and]
            exact rmay_none s w w0 A c hx hz hI hL hAB (.inr (by omega))
        · rw [decide_eq_false h0, Bool.false_and]
          exact rmay_none s w w0 A c hx hz hI hL hAB (.inl (by omega))
end Go.Proofs.YtiklliiamljogaaGreatDoor

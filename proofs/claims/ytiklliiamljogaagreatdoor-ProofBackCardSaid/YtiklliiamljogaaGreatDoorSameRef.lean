/- May. -/
import Derived.Test.YtiklliiamljogaaGreatDoorPfA
import Derived.Test.YtiklliiamljogaaGreatDoorClI
namespace Go.Proofs.YtiklliiamljogaaGreatDoor
open Go.RowKit

/-- A step that was handed over, boxed. -/
structure Box4 (w : World) (s : Stp) (A : Option Addr) (c : Nat) (w0 : World) : Prop where
  eq : w.alloc (.cells #[.int .i8 s.k, .int .i64 s.a, .int .i64 s.b, .slice A s.l.length c] 46) = w0
  below : Below w.heap.size w w0
  at_ : ∀ w1, Below w0.heap.size w0 w1 → w1.cell? ⟨w.heap.size, 0, none⟩ = some (.int .i8 s.k) ∧ w1.cell? ⟨w.heap.size, 1, none⟩ = some (.int .i64 s.a) ∧ w1.cell? ⟨w.heap.size, 2, none⟩ = some (.int .i64 s.b) ∧ w1.cell? ⟨w.heap.size, 3, none⟩ = some (.slice A s.l.length c)
  row : ∀ w1, Below w0.heap.size w0 w1 → Row .i64 w1 A s.l
  nil : A = none → c = 0
  cap : s.l.length ≤ c
theorem box4 {w : World} {y : C4} {s : Stp} (h : Is4 w y s) : ∃ A c w0, y.val = .agg #[.int .i8 s.k, .int .i64 s.a, .int .i64 s.b, .slice A s.l.length c] ∧ Box4 w s A c w0 := by
  obtain ⟨k, a, b, A, n, c⟩ := y
  obtain ⟨rfl, rfl, rfl, rfl, hnc, hnil, hrow⟩ := h
  dsimp only at hrow hnil hnc
  have hb0 : Below w.heap.size w (w.alloc (.cells #[.int .i8 s.k, .int .i64 s.a, .int .i64 s.b, .slice A s.l.length c] 46)) := (Below.refl _ w).alloc (Nat.le_refl _) _
  have hB0 := Blk.new w 46 #[.int .i8 s.k, .int .i64 s.a, .int .i64 s.b, .slice A s.l.length c]
  exact ⟨A, c, _, rfl, rfl, hb0, fun w1 h1 => blk4 (hB0.below h1 hB0.lt), fun w1 h1 => (hrow.below hb0).below h1, hnil, hnc⟩

set_option maxHeartbeats 2000000 in
set_option maxRecDepth 100000 in
theorem may_lo (s : Stp) (w w0 : World) (A : Option Addr) (c : Nat) (h : Box4 w s A c w0) (hk : s.k < 0) :
    Calls Tryz.prog 23 #[.agg #[.int .i8 s.k, .int .i64 s.a, .int .i64 s.b, .slice A s.l.length c]] w fun e w' => e = .returned (.bool false) ∧ Below w.heap.size w w' := by
  have d1 : decide (s.k < 0) = true := decide_eq_true (by omega)
  have e0 := h.eq
  have HX := Lib.hid h
  clear h
  go_enter Tryz.func23, Tryz.ntmps23
  go_wp2_with (first
    | (go_at_call 41; refine (forms_ok _).mono ?_; rintro e w1 ⟨rfl, hf1, hb1⟩; obtain ⟨x0, x1, x2, x3⟩ := HX.out.at_ w1 hb1; have HF1 := Lib.hid hf1; clear hf1))
  go_ret
  exact ⟨rfl, HX.out.below.trans (hb1.mono HX.out.below.size)⟩
set_option maxHeartbeats 2000000 in
set_option maxRecDepth 100000 in
theorem may_hi (s : Stp) (w w0 : World) (A : Option Addr) (c : Nat) (h : Box4 w s A c w0) (hk : 6 ≤ s.k) (hk2 : s.k ≤ 127) :
    Calls Tryz.prog 23 #[.agg #[.int .i8 s.k, .int .i64 s.a, .int .i64 s.b, .slice A s.l.length c]] w fun e w' => e = .returned (.bool false) ∧ Below w.heap.size w w' := by
  have d1 : decide (s.k < 0) = false := decide_eq_false (by omega)
  have d2 : decide (s.k ≥ 6) = true := decide_eq_true (by omega)
  have d2' : decide (6 ≤ s.k) = true := decide_eq_true (by omega)
  have e0 := h.eq
  have HX := Lib.hid h
  clear h
  go_enter Tryz.func23, Tryz.ntmps23
  go_wp2_with (first
    | (go_at_call 41; refine (forms_ok _).mono ?_; rintro e w1 ⟨rfl, hf1, hb1⟩; obtain ⟨x0, x1, x2, x3⟩ := HX.out.at_ w1 hb1; have HF1 := Lib.hid hf1; clear hf1))
  go_ret
  exact ⟨rfl, HX.out.below.trans (hb1.mono HX.out.below.size)⟩
set_option maxHeartbeats 2000000 in
set_option maxRecDepth 100000 in
theorem may_is (s : Stp) (w w0 : World) (A : Option Addr) (c : Nat) (h : Box4 w s A c w0) (hk0 : 0 ≤ s.k) (hk1 : s.k < 6) (hI : (s.l == makeM s.l) = false) :
    Calls Tryz.prog 23 #[.agg #[.int .i8 s.k, .int .i64 s.a, .int .i64 s.b, .slice A s.l.length c]] w fun e w' => e = .returned (.bool false) ∧ Below w.heap.size w w' := by
  have d1 : decide (s.k < 0) = false := decide_eq_false (by omega)
  have d2 : decide (s.k ≥ 6) = false := decide_eq_false (by omega)
  have d2' : decide (6 ≤ s.k) = false := decide_eq_false (by omega)
  have HI := Lib.hid hI
  clear hI
  have e0 := h.eq
  have HX := Lib.hid h
  clear h
  go_enter Tryz.func23, Tryz.ntmps23
  go_wp2_with (first
    | (go_at_call 41; refine (forms_ok _).mono ?_; rintro e w1 ⟨rfl, hf1, hb1⟩; obtain ⟨x0, x1, x2, x3⟩ := HX.out.at_ w1 hb1; have HF1 := Lib.hid hf1; clear hf1)
    | (go_at_call 42; refine (is_ok c (HX.out.row _ hb1) HX.out.nil).mono ?_; rw [HI.out]; rintro e w2 ⟨rfl, hb2⟩; have hc2 := hb1.trans (hb2.mono hb1.size); obtain ⟨y0, y1, y2, y3⟩ := HX.out.at_ w2 hc2; have HF2 := Lib.hid (HF1.out.below hb2 HF1.out.lt)))
  go_ret
  exact ⟨rfl, HX.out.below.trans (hc2.mono HX.out.below.size)⟩
set_option maxHeartbeats 2000000 in
set_option maxRecDepth 100000 in
theorem may_a (s : Stp) (w w0 : World) (A : Option Addr) (c : Nat) (h : Box4 w s A c w0) (hk0 : 0 ≤ s.k) (hk1 : s.k < 6) (hI : (s.l == makeM s.l) = true) (hA : fitN s.a = false) :
    Calls Tryz.prog 23 #[.agg #[.int .i8 s.k, .int .i64 s.a, .int .i64 s.b, .slice A s.l.length c]] w fun e w' => e = .returned (.bool false) ∧ Below w.heap.size w w' := by
  have d1 : decide (s.k < 0) = false := decide_eq_false (by omega)
  have d2 : decide (s.k ≥ 6) = false := decide_eq_false (by omega)
  have d2' : decide (6 ≤ s.k) = false := decide_eq_false (by omega)
  have HI := Lib.hid hI
  clear hI
  have HA := Lib.hid hA
  clear hA
  have e0 := h.eq
  have HX := Lib.hid h
  clear h
  go_enter Tryz.func23, Tryz.ntmps23
  go_wp2_with (first
    | (go_at_call 41; refine (forms_ok _).mono ?_; rintro e w1 ⟨rfl, hf1, hb1⟩; obtain ⟨x0, x1, x2, x3⟩ := HX.out.at_ w1 hb1; have HF1 := Lib.hid hf1; clear hf1)
    | (go_at_call 42; refine (is_ok c (HX.out.row _ hb1) HX.out.nil).mono ?_; rw [HI.out]; rintro e w2 ⟨rfl, hb2⟩; have hc2 := hb1.trans (hb2.mono hb1.size); obtain ⟨y0, y1, y2, y3⟩ := HX.out.at_ w2 hc2; have HF2 := Lib.hid (HF1.out.below hb2 HF1.out.lt))
    | (go_at_call 43; (with_reducible refine (fits_ok s.a _).mono ?_); rw [HA.out]; rintro e w3 ⟨rfl, rfl⟩))
  go_ret
  exact ⟨rfl, HX.out.below.trans (hc2.mono HX.out.below.size)⟩
set_option maxHeartbeats 2000000 in
set_option maxRecDepth 100000 in
theorem may_b (s : Stp) (w w0 : World) (A : Option Addr) (c : Nat) (h : Box4 w s A c w0) (hk0 : 0 ≤ s.k) (hk1 : s.k < 6) (hI : (s.l == makeM s.l) = true) (hA : fitN s.a = true) (hB : fitN s.b = false) :
    Calls Tryz.prog 23 #[.agg #[.int .i8 s.k, .int .i64 s.a, .int .i64 s.b, .slice A s.l.length c]] w fun e w' => e = .returned (.bool false) ∧ Below w.heap.size w w' := by
  have d1 : decide (s.k < 0) = false := decide_eq_false (by omega)
  have d2 : decide (s.k ≥ 6) = false := decide_eq_false (by omega)
  have d2' : decide (6 ≤ s.k) = false := decide_eq_false (by omega)
  have HI := Lib.hid hI
  clear hI
  have HA := Lib.hid hA
  clear hA
  have HB := Lib.hid hB
  clear hB
  have e0 := h.eq
  have HX := Lib.hid h
  clear h
  go_enter Tryz.func23, Tryz.ntmps23
  go_wp2_with (first
    | (go_at_call 41; refine (forms_ok _).mono ?_; rintro e w1 ⟨rfl, hf1, hb1⟩; obtain ⟨x0, x1, x2, x3⟩ := HX.out.at_ w1 hb1; have HF1 := Lib.hid hf1; clear hf1)
    | (go_at_call 42; refine (is_ok c (HX.out.row _ hb1) HX.out.nil).mono ?_; rw [HI.out]; rintro e w2 ⟨rfl, hb2⟩; have hc2 := hb1.trans (hb2.mono hb1.size); obtain ⟨y0, y1, y2, y3⟩ := HX.out.at_ w2 hc2; have HF2 := Lib.hid (HF1.out.below hb2 HF1.out.lt))
    | (go_at_call 43; (with_reducible refine (fits_ok s.a _).mono ?_); rw [HA.out]; rintro e w3 ⟨rfl, rfl⟩)
    | (go_at_call 43; (with_reducible refine (fits_ok s.b _).mono ?_); rw [HB.out]; rintro e w3 ⟨rfl, rfl⟩))
  go_ret
  exact ⟨rfl, HX.out.below.trans (hc2.mono HX.out.below.size)⟩
set_option maxHeartbeats 2000000 in
set_option maxRecDepth 100000 in
theorem may_l (s : Stp) (w w0 : World) (A : Option Addr) (c : Nat) (h : Box4 w s A c w0) (hk0 : 0 ≤ s.k) (hk1 : s.k < 6) (hI : (s.l == makeM s.l) = true) (hA : fitN s.a = true) (hB : fitN s.b = true) (hL : s.l.all fitN = false) :
    Calls Tryz.prog 23 #[.agg #[.int .i8 s.k, .int .i64 s.a, .int .i64 s.b, .slice A s.l.length c]] w fun e w' => e = .returned (.bool false) ∧ Below w.heap.size w w' := by
  have d1 : decide (s.k < 0) = false := decide_eq_false (by omega)
  have d2 : decide (s.k ≥ 6) = false := decide_eq_false (by omega)
  have d2' : decide (6 ≤ s.k) = false := decide_eq_false (by omega)
  have HI := Lib.hid hI
  clear hI
  have HA := Lib.hid hA
  clear hA
  have HB := Lib.hid hB
  clear hB
  have HL := Lib.hid hL
  clear hL
  have e0 := h.eq
  have HX := Lib.hid h
  clear h
  go_enter Tryz.func23, Tryz.ntmps23
  go_wp2_with (first
    | (go_at_call 41; refine (forms_ok _).mono ?_; rintro e w1 ⟨rfl, hf1, hb1⟩; obtain ⟨x0, x1, x2, x3⟩ := HX.out.at_ w1 hb1; have HF1 := Lib.hid hf1; clear hf1)
    | (go_at_call 42; refine (is_ok c (HX.out.row _ hb1) HX.out.nil).mono ?_; rw [HI.out]; rintro e w2 ⟨rfl, hb2⟩; have hc2 := hb1.trans (hb2.mono hb1.size); obtain ⟨y0, y1, y2, y3⟩ := HX.out.at_ w2 hc2; have HF2 := Lib.hid (HF1.out.below hb2 HF1.out.lt))
    | (go_at_call 43; (with_reducible refine (fits_ok s.a _).mono ?_); rw [HA.out]; rintro e w3 ⟨rfl, rfl⟩)
    | (go_at_call 43; (with_reducible refine (fits_ok s.b _).mono ?_); rw [HB.out]; rintro e w3 ⟨rfl, rfl⟩)
    | (go_at_call 44; refine (containsf_fits c (HX.out.row _ hc2)).mono ?_; rw [HL.out]; rintro e w3 ⟨rfl, rfl⟩))
  go_ret
  exact ⟨rfl, HX.out.below.trans (hc2.mono HX.out.below.size)⟩
set_option maxHeartbeats 2000000 in
set_option maxRecDepth 100000 in
theorem may_0 (s : Stp) (w w0 : World) (A : Option Addr) (c : Nat) (h : Box4 w s A c w0) (hk : s.k = 0) (hI : (s.l == makeM s.l) = true) (hA : fitN s.a = true) (hB : fitN s.b = true) (hL : s.l.all fitN = true) :
    Calls Tryz.prog 23 #[.agg #[.int .i8 s.k, .int .i64 s.a, .int .i64 s.b, .slice A s.l.length c]] w fun e w' => e = .returned (.bool (s.b == 0)) ∧ Below w.heap.size w w' := by
  have HI := Lib.hid hI
  clear hI
  have HA := Lib.hid hA
  clear hA
  have HB := Lib.hid hB
  clear hB
  have HL := Lib.hid hL
  clear hL
  have e0 := h.eq
  rw [hk] at e0
  have HX := Lib.hid h
  clear h
  go_enter Tryz.func23, Tryz.ntmps23
  go_wp2_with (first
    | (go_at_call 41; refine (forms_ok _).mono ?_; rintro e w1 ⟨rfl, hf1, hb1⟩; obtain ⟨x0, x1, x2, x3⟩ := HX.out.at_ w1 hb1; have HF1 := Lib.hid hf1; clear hf1)
    | (go_at_call 42; refine (is_ok c (HX.out.row _ hb1) HX.out.nil).mono ?_; rw [HI.out]; rintro e w2 ⟨rfl, hb2⟩; have hc2 := hb1.trans (hb2.mono hb1.size); obtain ⟨y0, y1, y2, y3⟩ := HX.out.at_ w2 hc2; have HF2 := Lib.hid (HF1.out.below hb2 HF1.out.lt))
    | (go_at_call 43; (with_reducible refine (fits_ok s.a _).mono ?_); rw [HA.out]; rintro e w3 ⟨rfl, rfl⟩)
    | (go_at_call 43; (with_reducible refine (fits_ok s.b _).mono ?_); rw [HB.out]; rintro e w3 ⟨rfl, rfl⟩)
    | (go_at_call 44; refine (containsf_fits c (HX.out.row _ hc2)).mono ?_; rw [HL.out]; rintro e w3 ⟨rfl, rfl⟩; have z0 := HF2.out.cell 1; simp only [formCells, List.getElem?_toArray, List.getElem?_cons_succ, List.getElem?_cons_zero] at z0))
  go_ret
  exact ⟨rfl, HX.out.below.trans (hc2.mono HX.out.below.size)⟩
set_option maxHeartbeats 2000000 in
set_option maxRecDepth 100000 in
theorem may_1 (s : Stp) (w w0 : World) (A : Option Addr) (c : Nat) (h : Box4 w s A c w0) (hk : s.k = 1) (hI : (s.l == makeM s.l) = true) (hA : fitN s.a = true) (hB : fitN s.b = true) (hL : s.l.all fitN = true) :
    Calls Tryz.prog 23 #[.agg #[.int .i8 s.k, .int .i64 s.a, .int .i64 s.b, .slice A s.l.length c]] w fun e w' => e = .returned (.bool (s.b == 0)) ∧ Below w.heap.size w w' := by
  have HI := Lib.hid hI
  clear hI
  have HA := Lib.hid hA
  clear hA
  have HB := Lib.hid hB
  clear hB
  have HL := Lib.hid hL
  clear hL
  have e0 := h.eq
  rw [hk] at e0
  have HX := Lib.hid h
  clear h
  go_enter Tryz.func23, Tryz.ntmps23
  go_wp2_with (first
    | (go_at_call 41; refine (forms_ok _).mono ?_; rintro e w1 ⟨rfl, hf1, hb1⟩; obtain ⟨x0, x1, x2, x3⟩ := HX.out.at_ w1 hb1; have HF1 := Lib.hid hf1; clear hf1)
    | (go_at_call 42; refine (is_ok c (HX.out.row _ hb1) HX.out.nil).mono ?_; rw [HI.out]; rintro e w2 ⟨rfl, hb2⟩; have hc2 := hb1.trans (hb2.mono hb1.size); obtain ⟨y0, y1, y2, y3⟩ := HX.out.at_ w2 hc2; have HF2 := Lib.hid (HF1.out.below hb2 HF1.out.lt))
    | (go_at_call 43; (with_reducible refine (fits_ok s.a _).mono ?_); rw [HA.out]; rintro e w3 ⟨rfl, rfl⟩)
    | (go_at_call 43; (with_reducible refine (fits_ok s.b _).mono ?_); rw [HB.out]; rintro e w3 ⟨rfl, rfl⟩)
    | (go_at_call 44; refine (containsf_fits c (HX.out.row _ hc2)).mono ?_; rw [HL.out]; rintro e w3 ⟨rfl, rfl⟩; have z0 := HF2.out.cell 3; simp only [formCells, List.getElem?_toArray, List.getElem?_cons_succ, List.getElem?_cons_zero] at z0))
  go_ret
  exact ⟨rfl, HX.out.below.trans (hc2.mono HX.out.below.size)⟩
set_option maxHeartbeats 2000000 in
set_option maxRecDepth 100000 in
theorem may_2 (s : Stp) (w w0 : World) (A : Option Addr) (c : Nat) (h : Box4 w s A c w0) (hk : s.k = 2) (hI : (s.l == makeM s.l) = true) (hA : fitN s.a = true) (hB : fitN s.b = true) (hL : s.l.all fitN = true) :
    Calls Tryz.prog 23 #[.agg #[.int .i8 s.k, .int .i64 s.a, .int .i64 s.b, .slice A s.l.length c]] w fun e w' => e = .returned (.bool (decide (s.a < s.b))) ∧ Below w.heap.size w w' := by
  have HI := Lib.hid hI
  clear hI
  have HA := Lib.hid hA
  clear hA
  have HB := Lib.hid hB
  clear hB
  have HL := Lib.hid hL
  clear hL
  have e0 := h.eq
  rw [hk] at e0
  have HX := Lib.hid h
  clear h
  go_enter Tryz.func23, Tryz.ntmps23
  go_wp2_with (first
    | (go_at_call 41; refine (forms_ok _).mono ?_; rintro e w1 ⟨rfl, hf1, hb1⟩; obtain ⟨x0, x1, x2, x3⟩ := HX.out.at_ w1 hb1; have HF1 := Lib.hid hf1; clear hf1)
    | (go_at_call 42; refine (is_ok c (HX.out.row _ hb1) HX.out.nil).mono ?_; rw [HI.out]; rintro e w2 ⟨rfl, hb2⟩; have hc2 := hb1.trans (hb2.mono hb1.size); obtain ⟨y0, y1, y2, y3⟩ := HX.out.at_ w2 hc2; have HF2 := Lib.hid (HF1.out.below hb2 HF1.out.lt))
    | (go_at_call 43; (with_reducible refine (fits_ok s.a _).mono ?_); rw [HA.out]; rintro e w3 ⟨rfl, rfl⟩)
    | (go_at_call 43; (with_reducible refine (fits_ok s.b _).mono ?_); rw [HB.out]; rintro e w3 ⟨rfl, rfl⟩)
    | (go_at_call 44; refine (containsf_fits c (HX.out.row _ hc2)).mono ?_; rw [HL.out]; rintro e w3 ⟨rfl, rfl⟩; have z0 := HF2.out.cell 5; simp only [formCells, List.getElem?_toArray, List.getElem?_cons_succ, List.getElem?_cons_zero] at z0))
  go_ret
  exact ⟨rfl, HX.out.below.trans (hc2.mono HX.out.below.size)⟩
set_option maxHeartbeats 2000000 in
set_option maxRecDepth 100000 in
theorem may_3z (s : Stp) (w w0 : World) (A : Option Addr) (c : Nat) (h : Box4 w s A c w0) (hk : s.k = 3) (hI : (s.l == makeM s.l) = true) (hA : fitN s.a = true) (hB : fitN s.b = true) (hL : s.l.all fitN = true) (ha : s.a = 0) :
    Calls Tryz.prog 23 #[.agg #[.int .i8 s.k, .int .i64 s.a, .int .i64 s.b, .slice A s.l.length c]] w fun e w' => e = .returned (.bool (s.b == 0)) ∧ Below w.heap.size w w' := by
  have HI := Lib.hid hI
  clear hI
  have HA := Lib.hid hA
  clear hA
  have HB := Lib.hid hB
  clear hB
  have HL := Lib.hid hL
  clear hL
  have b1 : (s.a == 0) = true := beq_iff_eq.2 ha
  clear ha
  have e0 := h.eq
  rw [hk] at e0
  have HX := Lib.hid h
  clear h
  go_enter Tryz.func23, Tryz.ntmps23
  go_wp2_with (first
    | (go_at_call 41; refine (forms_ok _).mono ?_; rintro e w1 ⟨rfl, hf1, hb1⟩; obtain ⟨x0, x1, x2, x3⟩ := HX.out.at_ w1 hb1; have HF1 := Lib.hid hf1; clear hf1)
    | (go_at_call 42; refine (is_ok c (HX.out.row _ hb1) HX.out.nil).mono ?_; rw [HI.out]; rintro e w2 ⟨rfl, hb2⟩; have hc2 := hb1.trans (hb2.mono hb1.size); obtain ⟨y0, y1, y2, y3⟩ := HX.out.at_ w2 hc2; have HF2 := Lib.hid (HF1.out.below hb2 HF1.out.lt))
    | (go_at_call 43; (with_reducible refine (fits_ok s.a _).mono ?_); rw [HA.out]; rintro e w3 ⟨rfl, rfl⟩)
    | (go_at_call 43; (with_reducible refine (fits_ok s.b _).mono ?_); rw [HB.out]; rintro e w3 ⟨rfl, rfl⟩)
    | (go_at_call 44; refine (containsf_fits c (HX.out.row _ hc2)).mono ?_; rw [HL.out]; rintro e w3 ⟨rfl, rfl⟩; have z0 := HF2.out.cell 7; simp only [formCells, List.getElem?_toArray, List.getElem?_cons_succ, List.getElem?_cons_zero] at z0))
  go_ret
  exact ⟨rfl, HX.out.below.trans (hc2.mono HX.out.below.size)⟩
set_option maxHeartbeats 2000000 in
set_option maxRecDepth 100000 in
theorem may_3n (s : Stp) (w w0 : World) (A : Option Addr) (c : Nat) (h : Box4 w s A c w0) (hk : s.k = 3) (hI : (s.l == makeM s.l) = true) (hA : fitN s.a = true) (hB : fitN s.b = true) (hL : s.l.all fitN = true) (ha : s.a ≠ 0) :
    Calls Tryz.prog 23 #[.agg #[.int .i8 s.k, .int .i64 s.a, .int .i64 s.b, .slice A s.l.length c]] w fun e w' => e = .returned (.bool false) ∧ Below w.heap.size w w' := by
  have HI := Lib.hid hI
  clear hI
  have HA := Lib.hid hA
  clear hA
  have HB := Lib.hid hB
  clear hB
  have HL := Lib.hid hL
  clear hL
  have b1 : (s.a == 0) = false := beq_eq_false_iff_ne.2 ha
  clear ha
  have e0 := h.eq
  rw [hk] at e0
  have HX := Lib.hid h
  clear h
  go_enter Tryz.func23, Tryz.ntmps23
  go_wp2_with (first
    | (go_at_call 41; refine (forms_ok _).mono ?_; rintro e w1 ⟨rfl, hf1, hb1⟩; obtain ⟨x0, x1, x2, x3⟩ := HX.out.at_ w1 hb1; have HF1 := Lib.hid hf1; clear hf1)
    | (go_at_call 42; refine (is_ok c (HX.out.row _ hb1) HX.out.nil).mono ?_; rw [HI.out]; rintro e w2 ⟨rfl, hb2⟩; have hc2 := hb1.trans (hb2.mono hb1.size); obtain ⟨y0, y1, y2, y3⟩ := HX.out.at_ w2 hc2; have HF2 := Lib.hid (HF1.out.below hb2 HF1.out.lt))
    | (go_at_call 43; (with_reducible refine (fits_ok s.a _).mono ?_); rw [HA.out]; rintro e w3 ⟨rfl, rfl⟩)
    | (go_at_call 43; (with_reducible refine (fits_ok s.b _).mono ?_); rw [HB.out]; rintro e w3 ⟨rfl, rfl⟩)
    | (go_at_call 44; refine (containsf_fits c (HX.out.row _ hc2)).mono ?_; rw [HL.out]; rintro e w3 ⟨rfl, rfl⟩; have z0 := HF2.out.cell 7; simp only [formCells, List.getElem?_toArray, List.getElem?_cons_succ, List.getElem?_cons_zero] at z0))
  go_ret
  exact ⟨rfl, HX.out.below.trans (hc2.mono HX.out.below.size)⟩
set_option maxHeartbeats 2000000 in
set_option maxRecDepth 100000 in
theorem may_4z (s : Stp) (w w0 : World) (A : Option Addr) (c : Nat) (h : Box4 w s A c w0) (hk : s.k = 4) (hI : (s.l == makeM s.l) = true) (hA : fitN s.a = true) (hB : fitN s.b = true) (hL : s.l.all fitN = true) (ha : s.a = 0) :
    Calls Tryz.prog 23 #[.agg #[.int .i8 s.k, .int .i64 s.a, .int .i64 s.b, .slice A s.l.length c]] w fun e w' => e = .returned (.bool (s.b == 0)) ∧ Below w.heap.size w w' := by
  have HI := Lib.hid hI
  clear hI
  have HA := Lib.hid hA
  clear hA
  have HB := Lib.hid hB
  clear hB
  have HL := Lib.hid hL
  clear hL
  have b1 : (s.a == 0) = true := beq_iff_eq.2 ha
  clear ha
  have e0 := h.eq
  rw [hk] at e0
  have HX := Lib.hid h
  clear h
  go_enter Tryz.func23, Tryz.ntmps23
  go_wp2_with (first
    | (go_at_call 41; refine (forms_ok _).mono ?_; rintro e w1 ⟨rfl, hf1, hb1⟩; obtain ⟨x0, x1, x2, x3⟩ := HX.out.at_ w1 hb1; have HF1 := Lib.hid hf1; clear hf1)
    | (go_at_call 42; refine (is_ok c (HX.out.row _ hb1) HX.out.nil).mono ?_; rw [HI.out]; rintro e w2 ⟨rfl, hb2⟩; have hc2 := hb1.trans (hb2.mono hb1.size); obtain ⟨y0, y1, y2, y3⟩ := HX.out.at_ w2 hc2; have HF2 := Lib.hid (HF1.out.below hb2 HF1.out.lt))
    | (go_at_call 43; (with_reducible refine (fits_ok s.a _).mono ?_); rw [HA.out]; rintro e w3 ⟨rfl, rfl⟩)
    | (go_at_call 43; (with_reducible refine (fits_ok s.b _).mono ?_); rw [HB.out]; rintro e w3 ⟨rfl, rfl⟩)
    | (go_at_call 44; refine (containsf_fits c (HX.out.row _ hc2)).mono ?_; rw [HL.out]; rintro e w3 ⟨rfl, rfl⟩; have z0 := HF2.out.cell 9; simp only [formCells, List.getElem?_toArray, List.getElem?_cons_succ, List.getElem?_cons_zero] at z0))
  go_ret
  exact ⟨rfl, HX.out.below.trans (hc2.mono HX.out.below.size)⟩
set_option maxHeartbeats 2000000 in
set_option maxRecDepth 100000 in
theorem may_4n (s : Stp) (w w0 : World) (A : Option Addr) (c : Nat) (h : Box4 w s A c w0) (hk : s.k = 4) (hI : (s.l == makeM s.l) = true) (hA : fitN s.a = true) (hB : fitN s.b = true) (hL : s.l.all fitN = true) (ha : s.a ≠ 0) :
    Calls Tryz.prog 23 #[.agg #[.int .i8 s.k, .int .i64 s.a, .int .i64 s.b, .slice A s.l.length c]] w fun e w' => e = .returned (.bool false) ∧ Below w.heap.size w w' := by
  have HI := Lib.hid hI
  clear hI
  have HA := Lib.hid hA
  clear hA
  have HB := Lib.hid hB
  clear hB
  have HL := Lib.hid hL
  clear hL
  have b1 : (s.a == 0) = false := beq_eq_false_iff_ne.2 ha
  clear ha
  have e0 := h.eq
  rw [hk] at e0
  have HX := Lib.hid h
  clear h
  go_enter Tryz.func23, Tryz.ntmps23
  go_wp2_with (first
    | (go_at_call 41; refine (forms_ok _).mono ?_; rintro e w1 ⟨rfl, hf1, hb1⟩; obtain ⟨x0, x1, x2, x3⟩ := HX.out.at_ w1 hb1; have HF1 := Lib.hid hf1; clear hf1)
    | (go_at_call 42; refine (is_ok c (HX.out.row _ hb1) HX.out.nil).mono ?_; rw [HI.out]; rintro e w2 ⟨rfl, hb2⟩; have hc2 := hb1.trans (hb2.mono hb1.size); obtain ⟨y0, y1, y2, y3⟩ := HX.out.at_ w2 hc2; have HF2 := Lib.hid (HF1.out.below hb2 HF1.out.lt))
    | (go_at_call 43; (with_reducible refine (fits_ok s.a _).mono ?_); rw [HA.out]; rintro e w3 ⟨rfl, rfl⟩)
    | (go_at_call 43; (with_reducible refine (fits_ok s.b _).mono ?_); rw [HB.out]; rintro e w3 ⟨rfl, rfl⟩)
    | (go_at_call 44; refine (containsf_fits c (HX.out.row _ hc2)).mono ?_; rw [HL.out]; rintro e w3 ⟨rfl, rfl⟩; have z0 := HF2.out.cell 9; simp only [formCells, List.getElem?_toArray, List.getElem?_cons_succ, List.getElem?_cons_zero] at z0))
  go_ret
  exact ⟨rfl, HX.out.below.trans (hc2.mono HX.out.below.size)⟩
set_option maxHeartbeats 2000000 in
set_option maxRecDepth 100000 in
theorem may_5z (s : Stp) (w w0 : World) (A : Option Addr) (c : Nat) (h : Box4 w s A c w0) (hk : s.k = 5) (hI : (s.l == makeM s.l) = true) (hA : fitN s.a = true) (hB : fitN s.b = true) (hL : s.l.all fitN = true) (ha : s.a = 0) :
    Calls Tryz.prog 23 #[.agg #[.int .i8 s.k, .int .i64 s.a, .int .i64 s.b, .slice A s.l.length c]] w fun e w' => e = .returned (.bool (s.b == 0)) ∧ Below w.heap.size w w' := by
  have HI := Lib.hid hI
  clear hI
  have HA := Lib.hid hA
  clear hA
  have HB := Lib.hid hB
  clear hB
  have HL := Lib.hid hL
  clear hL
  have b1 : (s.a == 0) = true := beq_iff_eq.2 ha
  clear ha
  have e0 := h.eq
  rw [hk] at e0
  have HX := Lib.hid h
  clear h
  go_enter Tryz.func23, Tryz.ntmps23
  go_wp2_with (first
    | (go_at_call 41; refine (forms_ok _).mono ?_; rintro e w1 ⟨rfl, hf1, hb1⟩; obtain ⟨x0, x1, x2, x3⟩ := HX.out.at_ w1 hb1; have HF1 := Lib.hid hf1; clear hf1)
    | (go_at_call 42; refine (is_ok c (HX.out.row _ hb1) HX.out.nil).mono ?_; rw [HI.out]; rintro e w2 ⟨rfl, hb2⟩; have hc2 := hb1.trans (hb2.mono hb1.size); obtain ⟨y0, y1, y2, y3⟩ := HX.out.at_ w2 hc2; have HF2 := Lib.hid (HF1.out.below hb2 HF1.out.lt))
    | (go_at_call 43; (with_reducible refine (fits_ok s.a _).mono ?_); rw [HA.out]; rintro e w3 ⟨rfl, rfl⟩)
    | (go_at_call 43; (with_reducible refine (fits_ok s.b _).mono ?_); rw [HB.out]; rintro e w3 ⟨rfl, rfl⟩)
    | (go_at_call 44; refine (containsf_fits c (HX.out.row _ hc2)).mono ?_; rw [HL.out]; rintro e w3 ⟨rfl, rfl⟩; have z0 := HF2.out.cell 11; simp only [formCells, List.getElem?_toArray, List.getElem?_cons_succ, List.getElem?_cons_zero] at z0))
  go_ret
  exact ⟨rfl, HX.out.below.trans (hc2.mono HX.out.below.size)⟩
set_option maxHeartbeats 2000000 in
set_option maxRecDepth 100000 in
theorem may_5n (s : Stp) (w w0 : World) (A : Option Addr) (c : Nat) (h : Box4 w s A c w0) (hk : s.k = 5) (hI : (s.l == makeM s.l) = true) (hA : fitN s.a = true) (hB : fitN s.b = true) (hL : s.l.all fitN = true) (ha : s.a ≠ 0) :
    Calls Tryz.prog 23 #[.agg #[.int .i8 s.k, .int .i64 s.a, .int .i64 s.b, .slice A s.l.length c]] w fun e w' => e = .returned (.bool false) ∧ Below w.heap.size w w' := by
  have HI := Lib.hid hI
  clear hI
  have HA := Lib.hid hA
  clear hA
  have HB := Lib.hid hB
  clear hB
  have HL := Lib.hid hL
  clear hL
  have b1 : (s.a == 0) = false := beq_eq_false_iff_ne.2 ha
  clear ha
  have e0 := h.eq
  rw [hk] at e0
  have HX := Lib.hid h
  clear h
  go_enter Tryz.func23, Tryz.ntmps23
  go_wp2_with (first
    | (go_at_call 41; refine (forms_ok _).mono ?_; rintro e w1 ⟨rfl, hf1, hb1⟩; obtain ⟨x0, x1, x2, x3⟩ := HX.out.at_ w1 hb1; have HF1 := Lib.hid hf1; clear hf1)
    | (go_at_call 42; refine (is_ok c (HX.out.row _ hb1) HX.out.nil).mono ?_; rw [HI.out]; rintro e w2 ⟨rfl, hb2⟩; have hc2 := hb1.trans (hb2.mono hb1.size); obtain ⟨y0, y1, y2, y3⟩ := HX.out.at_ w2 hc2; have HF2 := Lib.hid (HF1.out.below hb2 HF1.out.lt))
    | (go_at_call 43; (with_reducible refine (fits_ok s.a _).mono ?_); rw [HA.out]; rintro e w3 ⟨rfl, rfl⟩)
    | (go_at_call 43; (with_reducible refine (fits_ok s.b _).mono ?_); rw [HB.out]; rintro e w3 ⟨rfl, rfl⟩)
    | (go_at_call 44; refine (containsf_fits c (HX.out.row _ hc2)).mono ?_; rw [HL.out]; rintro e w3 ⟨rfl, rfl⟩; have z0 := HF2.out.cell 11; simp only [formCells, List.getElem?_toArray, List.getElem?_cons_succ, List.getElem?_cons_zero] at z0))
  go_ret
  exact ⟨rfl, HX.out.below.trans (hc2.mono HX.out.below.size)⟩

theorem may_ok (s : Stp) (w : World) (y : C4) (h : Is4 w y s) (hk1 : s.k ≤ 127) :
    Calls Tryz.prog 23 #[y.val] w fun e w' => e = .returned (.bool s.may) ∧ Below w.heap.size w w' := by
  obtain ⟨A, c, w0, hy, hx⟩ := box4 h
  rw [hy]
  unfold Stp.may
  by_cases h0 : 0 ≤ s.k
  · rw [decide_eq_true h0, Bool.true_and]
    by_cases h6 : s.k < 6
    · rw [decide_eq_true h6, Bool.true_and]
      cases hI : s.l == makeM s.l with
      | false => rw [Bool.false_and]; exact may_is s w w0 A c hx h0 h6 hI
      | true =>
        rw [Bool.true_and]
        cases hA : fitN s.a with
        | false => rw [Bool.false_and]; exact may_a s w w0 A c hx h0 h6 hI hA
        | true =>
          rw [Bool.true_and]
          cases hB : fitN s.b with
          | false => rw [Bool.false_and]; exact may_b s w w0 A c hx h0 h6 hI hA hB
          | true =>
            rw [Bool.true_and]
            cases hL : s.l.all fitN with
            | false => rw [Bool.false_and]; exact may_l s w w0 A c hx h0 h6 hI hA hB hL
            | true =>
              rw [Bool.true_and]
              unfold Stp.ab manyK
              have hk : s.k = 0 ∨ s.k = 1 ∨ s.k = 2 ∨ s.k = 3 ∨ s.k = 4 ∨ s.k = 5 := by omega
              rcases hk with hk | hk | hk | hk | hk | hk
              · simp only [hk]; exact may_0 s w w0 A c hx hk hI hA hB hL |> fun h => by rw [hk] at h; exact h
              · simp only [hk]; exact may_1 s w w0 A c hx hk hI hA hB hL |> fun h => by rw [hk] at h; exact h
              · simp only [hk]; exact may_2 s w w0 A c hx hk hI hA hB hL |> fun h => by rw [hk] at h; exact h
              · by_cases ha : s.a = 0
                · simp only [hk, ha]; exact may_3z s w w0 A c hx hk hI hA hB hL ha |> fun h => by rw [hk, ha] at h; exact h
                · have hb : (s.a == 0) = false := beq_eq_false_iff_ne.2 ha
                  simp only [hk, hb]; exact may_3n s w w0 A c hx hk hI hA hB hL ha |> fun h => by rw [hk] at h; exact h
              · by_cases ha : s.a = 0
                · simp only [hk, ha]; exact may_4z s w w0 A c hx hk hI hA hB hL ha |> fun h => by rw [hk, ha] at h; exact h
                · have hb : (s.a == 0) = false := beq_eq_false_iff_ne.2 ha
                  simp only [hk, hb]; exact may_4n s w w0 A c hx hk hI hA hB hL ha |> fun h => by rw [hk] at h; exact h
              · by_cases ha : s.a = 0
                · simp only [hk, ha]; exact may_5z s w w0 A c hx hk hI hA hB hL ha |> fun h => by rw [hk, ha] at h; exact h
                · have hb : (s.a == 0) = false := beq_eq_false_iff_ne.2 ha
                  simp only [hk, hb]; exact may_5n s w w0 A c hx hk hI hA hB hL ha |> fun h => by rw [hk] at h; exact h
    · rw [decide_eq_false h6, Bool.false_and]
      exact may_hi s w w0 A c hx (by omega) hk1
  · rw [decide_eq_false h0, Bool.false_and]
    exact may_lo s w w0 A c hx (by omega)
end Go.Proofs.YtiklliiamljogaaGreatDoor

/- The reference's Same. -/
namespace Go.Proofs.YtiklliiamljogaaGreatDoor
open Go.RowKit Go.Lib

theorem drop_beq {xs ys : List Int} (hl : xs.length = ys.length) {i : Nat} (h : i < xs.length) : (xs.drop i == ys.drop i) = ((xs[i] == ys[i]) && (xs.drop (i + 1) == ys.drop (i + 1))) := by
  rw [List.drop_eq_getElem_cons h, List.drop_eq_getElem_cons (by omega : i < ys.length)]
  rfl

theorem sameRef_ok {w : World} {A B : Option Addr} {xs ys : List Int} (c d : Nat) (h : Row .i64 w A xs) (k : Row .i64 w B ys) :
    Calls Tryz.prog 40 #[.slice A xs.length c, .slice B ys.length d] w fun e w' => e = .returned (.bool (xs == ys)) ∧ ∃ q, w' = w.drewN q := by
  have hlen := h.len
  have klen := k.len
  have H := Lib.hid h
  have K := Lib.hid k
  clear h k
  by_cases hl : xs.length = ys.length
  · have hb : ((xs.length : Int) != ys.length) = false := by simp [hl]
    have Hl := Lib.hid hl
    clear hl
    go_enter Tryz.func40, Tryz.ntmps40
    go_wp2
    go_loopw [5] (fun vi wx => ∃ (i : Nat) (q : Nat), i ≤ xs.length ∧ vi = .int .i64 i ∧ wx = w.drewN q ∧ (xs == ys) = (xs.drop i == ys.drop i)) (fun vi _ => (xs.length - intOf vi).toNat)
    case atStart => exact ⟨0, 0, Nat.zero_le _, rfl, rfl, rfl⟩
    case round =>
      obtain ⟨i, q, hi, rfl, rfl, hinv⟩ := hrel
      by_cases hlt : i < xs.length
      · have d1 : decide ((i : Int) < xs.length) = true := by simp; omega
        have hlt2 : i < ys.length := by rw [← Hl.out]; exact hlt
        rw [drop_beq Hl.out hlt] at hinv
        obtain ⟨b, off, hA, hb, hcell⟩ := H.out.at_.resolve_left (by omega)
        obtain ⟨b2, off2, hB, hb2, hcell2⟩ := K.out.at_.resolve_left (by omega)
        subst hA hB
        have y0 := hcell i hlt
        have y1 := hcell2 i hlt2
        have HI := Lib.hid hinv
        clear hcell hcell2 hinv
        generalize xs[i] = x at *
        generalize ys[i] = y at *
        have t1 : (0 : Int) ≤ (i : Int) := by omega
        have t2 : (i : Int) < (xs.length : Int) := by omega
        have t3 : (i : Int) < (ys.length : Int) := by omega
        by_cases e : x = y
        · subst e
          have hne : (x != x) = false := by simp
          go_wp2
          go_quiet (fail)
          go_wp2
          go_roundw
          case rel => exact ⟨i + 1, _, by omega, by go_num, rfl, by rw [HI.out]; simp⟩
          case measure => simp only [intOf]; omega
        · have hne : (x != y) = true := by simp [e]
          have hbe : (x == y) = false := by simp [e]
          rw [hbe, Bool.false_and] at HI
          clear e hbe
          go_wp2
          go_quiet (fail)
          go_wp2
          go_ret
          exact ⟨by rw [HI.out]; rfl, _, World.drewN_drewN _ _ _⟩
      · obtain rfl : i = xs.length := by omega
        have d1 : decide ((xs.length : Int) < xs.length) = false := by simp
        rw [List.drop_length, List.drop_of_length_le (by rw [Hl.out]; exact Nat.le_refl _)] at hinv
        have HI := Lib.hid hinv
        clear hinv
        go_wp2
        go_ret
        exact ⟨by rw [HI.out]; rfl, q, rfl⟩
  · have hb : ((xs.length : Int) != ys.length) = true := by simp; omega
    have hf : (xs == ys) = false := by
      simp only [beq_eq_false_iff_ne]
      exact fun e => hl (by rw [e])
    have HF := Lib.hid hf
    clear hl hf
    go_enter Tryz.func40, Tryz.ntmps40
    go_wp2
    go_ret
    exact ⟨by rw [HF.out]; rfl, 0, rfl⟩
end Go.Proofs.YtiklliiamljogaaGreatDoor

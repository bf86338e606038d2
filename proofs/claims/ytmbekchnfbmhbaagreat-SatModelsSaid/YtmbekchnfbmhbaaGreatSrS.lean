/- The reference's Right. -/
import Derived.Test.YtmbekchnfbmhbaaGreatSrO
namespace Go.Proofs.YtmbekchnfbmhbaaGreat
open Go.RowKit Go.Lib

set_option maxRecDepth 100000 in
set_option maxHeartbeats 4000000 in
theorem right_sat {w : World} {A : Option Addr} {R : List RowT} {n g : Nat} {vals : List Int} (cap : Nat) (h : Grid w A R) (hm : ∀ r ∈ R, ∀ x ∈ r.2.2, x ≤ 9223372036854775807) (hn : n ≤ 400) (hb : Blk w g 26 ((vals.map (Value.int .i8)).toArray)) (hl : vals.length = n) (h12 : ∀ x ∈ vals, x = 1 ∨ x = 2) (hh : holdsM vals (rowsOf R) = true) :
    Calls Tryz.prog 11 #[.int .i64 n, .slice A R.length cap, .agg #[.int .i8 0, .slice (some ⟨g, 0, none⟩) n n, .slice none 0 0]] w fun e w' => e = .returned (.bool true) ∧ Below w.heap.size w w' := by
  have hal : Below w.heap.size w (w.alloc (.cells #[.int .i8 0, .slice (some ⟨g, 0, none⟩) n n, .slice none 0 0] 29)) := (Below.refl _ w).alloc (Nat.le_refl _) _
  have hrow : Row .i8 w (some ⟨g, 0, none⟩) vals := by
    refine ⟨by omega, .inr ⟨g, 0, rfl, hb.lt, fun i hi => ?_⟩⟩
    rw [Nat.zero_add, hb.cell]
    simp [hi]
  have K := holds15_ok cap n (h.below hal) (hrow.below hal) hm
  rw [hh, hl] at K
  have hcell : ∀ (i : Nat) (hi : i < vals.length), (w.alloc (.cells #[.int .i8 0, .slice (some ⟨g, 0, none⟩) n n, .slice none 0 0] 29)).cell? ⟨g, i, none⟩ = some (.int .i8 (vals[i]'hi)) := fun i hi => by
    rw [((hb.alloc _).cell i)]
    simp [hi]
  have HC := Lib.hid hcell
  have H12 := Lib.hid h12
  have HA := Lib.hid hal
  have HL := Lib.hid hl
  clear h hm hb hh hal hrow hcell h12 hl
  go_enter Tryz.func11, Tryz.ntmps11
  go_wp2
  go_loopg [7] n (fun gk v wx => w.alloc (.cells #[.int .i8 0, .slice (some ⟨g, 0, none⟩) n n, .slice none 0 0] 29) = wx ∧ ∃ i : Nat, i + gk = n ∧ v = .int .i64 i)
  case atStart => exact ⟨rfl, 0, by omega, rfl⟩
  case round =>
    obtain ⟨rfl, i, hig, rfl⟩ := hrel
    cases gk with
    | zero =>
      obtain rfl : i = n := by omega
      have d1 : decide (i < i) = false := by simp
      go_wp2_with (go_at_call 15; (with_reducible refine K.mono ?_); rintro e w1 ⟨rfl, rfl⟩)
      go_ret
      exact ⟨rfl, HA.out⟩
    | succ k =>
      have hi : i < n := by omega
      have d1 : decide (i < n) = true := decide_eq_true hi
      have hi' : i < vals.length := by rw [HL.out]; exact hi
      have y1 := HC.out i hi'
      have t1 : (0 : Int) ≤ (i : Int) := by omega
      have t2 : (i : Int) < (n : Int) := by omega
      rcases H12.out _ (List.getElem_mem hi') with e | e
      · rw [e] at y1
        clear e
        go_wp2
        go_roundg k
        case measure => omega
        case rel => exact ⟨rfl, i + 1, by omega, by go_num⟩
      · rw [e] at y1
        clear e
        go_wp2
        go_roundg k
        case measure => omega
        case rel => exact ⟨rfl, i + 1, by omega, by go_num⟩
set_option maxRecDepth 100000 in
set_option maxHeartbeats 4000000 in
theorem right_unsat {w : World} {A SA : Option Addr} {R st : List RowT} {n : Int} (cap sc : Nat) (h : Grid w A R) (hs : Grid w SA st) (hsc : st.length ≤ sc) (hsz : R.length + st.length ≤ 20000) (hn0 : A = none → cap = 0) (hn1 : SA = none → sc = 0) (he : ∀ r ∈ R ++ st, r.2.2.length ≤ 50) (hm : ∀ r ∈ R ++ st, ∀ x ∈ r.2.2, x ≤ 9223372036854775807) (hr : refutesM (rowsOf R) (rowsOf st) = true) :
    Calls Tryz.prog 11 #[.int .i64 n, .slice A R.length cap, .agg #[.int .i8 1, .slice none 0 0, .slice SA st.length sc]] w fun e w' => e = .returned (.bool true) ∧ Below w.heap.size w w' := by
  have hal : Below w.heap.size w (w.alloc (.cells #[.int .i8 1, .slice none 0 0, .slice SA st.length sc] 29)) := (Below.refl _ w).alloc (Nat.le_refl _) _
  have K := refutes17_ok cap sc hsc (h.below hal) (hs.below hal) hsz hn0 hn1 he hm
  rw [hr] at K
  have HA := Lib.hid hal
  clear h hs hm he hr hal hn0 hn1
  go_enter Tryz.func11, Tryz.ntmps11
  go_wp2_with (go_at_call 14; (with_reducible refine K.mono ?_); rintro e w1 ⟨rfl, hb1⟩; have HB1 := Lib.hid (HA.out.trans (hb1.mono HA.out.size)); clear hb1)
  go_ret
  exact ⟨rfl, HB1.out⟩
theorem right_unk {w : World} {A : Option Addr} {n : Int} {m : Nat} (cap : Nat) :
    Calls Tryz.prog 11 #[.int .i64 n, .slice A m cap, .agg #[.int .i8 2, .slice none 0 0, .slice none 0 0]] w fun e w' => e = .returned (.bool true) ∧ Below w.heap.size w w' := by
  have hal : Below w.heap.size w (w.alloc (.cells #[.int .i8 2, .slice none 0 0, .slice none 0 0] 29)) := (Below.refl _ w).alloc (Nat.le_refl _) _
  have HA := Lib.hid hal
  clear hal
  go_enter Tryz.func11, Tryz.ntmps11
  go_wp2
  go_ret
  exact ⟨rfl, HA.out⟩

/-- Right, of whatever Solve told. -/
theorem right_ok {w w1 w2 : World} {A : Option Addr} {R : List RowT} {n budget H0 : Nat} {v : Value} (cap : Nat) (h : Grid w1 A R) (hn0 : A = none → cap = 0) (hn : n ≤ 25) (hcl : CL n (rowsOf R)) (hR : R.length ≤ 1000) (hbu : budget ≤ 10000) (hp : SatPost w H0 n R budget v w1) (hb : Below w1.heap.size w1 w2) :
    Calls Tryz.prog 11 #[.int .i64 n, .slice A R.length cap, v] w2 fun e w' => e = .returned (.bool true) ∧ Below w2.heap.size w2 w' := by
  have hcr : ∀ (st : List RowT), CL n (rowsOf st) → ∀ r ∈ st, r.2.2.length ≤ 50 ∧ ∀ x ∈ r.2.2, x ≤ 9223372036854775807 := fun st hst r hr => by
    have hc := hst r.2.2 (List.mem_map.2 ⟨r, hr, rfl⟩)
    have := isC_len hc.1 hc.2
    exact ⟨by omega, fun x hx => by have := hc.2 x hx; omega⟩
  rcases hp.2 with ⟨g, vals, rfl, p1, p2, p3, p4⟩ | ⟨QA, qc, st, rfl, p1, p2, p3, p4, p5, p6⟩ | ⟨rfl, p1⟩
  · exact right_sat cap (h.below hb) (fun r hr => (hcr R hcl r hr).2) (by omega) (p1.below hb p1.lt) p2 p3 p4
  · obtain ⟨SA2, sc2, e2, hgr⟩ := own_grid2 p1 (by omega) p2
    obtain ⟨rfl, rfl⟩ : QA = SA2 ∧ qc = sc2 := by
      injection e2 with h1 h2 h3
      exact ⟨h1, h3⟩
    obtain ⟨g1, g2⟩ := own_cap p1
    refine right_unsat cap qc (h.below hb) (hgr.below hb) g2 (by omega) hn0 g1 (fun r hr => ?_) (fun r hr => ?_) p3
    · rcases List.mem_append.1 hr with hr | hr
      · exact (hcr R hcl r hr).1
      · exact (hcr st p5 r hr).1
    · rcases List.mem_append.1 hr with hr | hr
      · exact (hcr R hcl r hr).2
      · exact (hcr st p5 r hr).2
  · exact right_unk cap
end Go.Proofs.YtmbekchnfbmhbaaGreat

/- Assignments as models; wakes. -/
namespace Go.Proofs.YtmbekchnfbmhbaaGreat
open Go.RowKit Go.Lib

theorem vals_model {vals : List Int} {n : Nat} (hl : vals.length = n) (h12 : ∀ x ∈ vals, x = 1 ∨ x = 2) : Model n (fun x => valM vals x = 1) := by
  intro x h0 hx
  have hi : (x / 2).toNat < vals.length := by omega
  have hn : 0 ≤ negM x := by unfold negM; split <;> omega
  have hm : negM x % 2 = if x % 2 = 0 then 1 else 0 := by unfold negM; split <;> omega
  show valM vals x = 1 ↔ ¬ valM vals (negM x) = 1
  unfold valM
  rw [if_neg (show ¬ x < 0 by omega), if_neg (show ¬ negM x < 0 by omega), negM_half, List.getElem?_eq_getElem hi, hm]
  have hp : x % 2 = 0 ∨ x % 2 = 1 := by omega
  rcases h12 _ (List.getElem_mem hi) with e | e <;> rcases hp with p | p <;> simp [e, p]
theorem holds_iff {vals : List Int} {rows : List (List Int)} : HoldsT (fun x => valM vals x = 1) rows ↔ holdsM vals rows = true := by
  unfold holdsM HoldsT
  rw [List.all_eq_true]
  constructor
  · intro h cl hcl
    rw [beq_iff_eq, st_true]
    exact h cl hcl
  · intro h cl hcl
    have := h cl hcl
    rw [beq_iff_eq, st_true] at this
    exact this

theorem boxed (w : World) (u0 u1 u2 : Value) : Below w.heap.size w (w.alloc (.cells #[u0, u1, u2] 29)) ∧
    Blk (w.alloc (.cells #[u0, u1, u2] 29)) w.heap.size 29 #[u0, u1, u2] :=
  ⟨(Below.refl _ w).alloc (Nat.le_refl _) _, Blk.new _ _ _⟩

abbrev wG3 (w : World) : World := (((w.alloc (.cells #[.int .i64 0, .int .i64 2] 3)).alloc (.cells #[.int .i64 1, .int .i64 2] 3)).alloc (.cells #[.int .i64 3] 3)).alloc (.cells #[.slice (some ⟨w.heap.size, 0, none⟩) 2 2, .slice (some ⟨w.heap.size + 1, 0, none⟩) 2 2, .slice (some ⟨w.heap.size + 1 + 1, 0, none⟩) 1 1] 23)
abbrev wG2 (w : World) : World := ((w.alloc (.cells #[.int .i64 0, .int .i64 2] 3)).alloc (.cells #[.int .i64 1, .int .i64 2] 3)).alloc (.cells #[.slice (some ⟨w.heap.size, 0, none⟩) 2 2, .slice (some ⟨w.heap.size + 1, 0, none⟩) 2 2] 23)
abbrev wG1 (w : World) : World := (w.alloc (.cells #[.int .i64 2] 3)).alloc (.cells #[.slice (some ⟨w.heap.size, 0, none⟩) 1 1] 23)

theorem made_a : makeM [0, 2] = [0, 2] := make_of_ord (ord_two (by decide)) (by decide)
theorem made_b : makeM [1, 2] = [1, 2] := make_of_ord (ord_two (by decide)) (by decide)
theorem made_c : makeM [3] = [3] := make_of_ord ord_one (by decide)
theorem badC_a : badC 2 [0, 2] = false := bad_none (by rw [made_a]; rfl) (by decide)
theorem badC_b : badC 2 [1, 2] = false := bad_none (by rw [made_b]; rfl) (by decide)
theorem badC_c : badC 2 [3] = false := bad_none (by rw [made_c]; rfl) (by decide)
theorem two_vals {vals : List Int} (hl : vals.length = 2) (h12 : ∀ x ∈ vals, x = 1 ∨ x = 2) : vals = [1, 1] ∨ vals = [1, 2] ∨ vals = [2, 1] ∨ vals = [2, 2] := by
  match vals, hl with
  | [a, b], _ =>
    rcases h12 a (by simp) with e1 | e1 <;> rcases h12 b (by simp) with e2 | e2 <;> simp [e1, e2]

theorem k_a (w : World) :
    Calls Tryz.prog 9 #[.int .i64 2, .slice (some ⟨w.heap.size + 1 + 1 + 1, 0, none⟩) 3 3, .slice none 0 0, .int .i64 9] (wG3 w) fun e w' => (∃ SA m sc, e = .returned (.tuple #[.agg #[.int .i8 1, .slice none 0 0, .slice SA m sc], .int .i64 0])) ∧ Below w.heap.size w w' := by
  have hb : Below w.heap.size w (wG3 w) :=
    ((((Below.refl _ w).alloc (Nat.le_refl _) _).alloc (by simp) _).alloc (by simp; omega) _).alloc (by simp; omega) _
  have hg : Grid (wG3 w) (some ⟨w.heap.size + 1 + 1 + 1, 0, none⟩) [(some ⟨w.heap.size, 0, none⟩, 2, [0, 2]), (some ⟨w.heap.size + 1, 0, none⟩, 2, [1, 2]), (some ⟨w.heap.size + 1 + 1, 0, none⟩, 1, [3])] := by
    refine blk_grid (Blk.new_at (by simp) _ _) (by simp) ?_
    intro r hr
    rcases List.mem_cons.1 hr with rfl | hr
    · exact ⟨blk_row ((((Blk.new w 3 #[.int .i64 0, .int .i64 2]).alloc _).alloc _).alloc _) (by simp), fun h => by cases h⟩
    rcases List.mem_cons.1 hr with rfl | hr
    · exact ⟨blk_row (((Blk.new_at (w := w.alloc (.cells #[.int .i64 0, .int .i64 2] 3)) (by simp) 3 #[.int .i64 1, .int .i64 2]).alloc _).alloc _) (by simp), fun h => by cases h⟩
    rcases List.mem_cons.1 hr with rfl | hr
    · exact ⟨blk_row ((Blk.new_at (w := (w.alloc (.cells #[.int .i64 0, .int .i64 2] 3)).alloc (.cells #[.int .i64 1, .int .i64 2] 3)) (by simp) 3 #[.int .i64 3]).alloc _) (by simp), fun h => by cases h⟩
    cases hr
  have K := solve_any (cl := 3) (n := 2) (budget := 9) hg (show Row .i64 (wG3 w) none [] from ⟨by simp, .inl rfl⟩) (fun _ => rfl) (Nat.le_refl 0) (by omega) (by simp)
  have hm : mayB 2 [(some (⟨w.heap.size, 0, none⟩ : Addr), 2, [0, 2]), (some ⟨w.heap.size + 1, 0, none⟩, 2, [1, 2]), (some ⟨w.heap.size + 1 + 1, 0, none⟩, 1, [3])] 9 = true := by
    unfold mayB
    simp [badC_a, badC_b, badC_c]
  refine K.mono ?_
  rintro e w' (⟨h1, _⟩ | ⟨_, v, rfl, h2, h3⟩)
  · rw [hm] at h1; cases h1
  refine ⟨?_, below_then hb (Nat.le_refl _) h2⟩
  rcases h3 with ⟨g, vals, rfl, p1, p2, p3, p4⟩ | ⟨QA, qc, st, rfl, p⟩ | ⟨rfl, p1⟩
  · exfalso
    have p5 : holdsM vals [[0, 2], [1, 2], [3]] = true := p4
    rcases two_vals p2 p3 with rfl | rfl | rfl | rfl <;> exact absurd p5 (by decide)
  · exact ⟨QA, _, qc, rfl⟩
  · exact absurd p1 (by decide)
theorem k_b (w : World) :
    Calls Tryz.prog 9 #[.int .i64 2, .slice (some ⟨w.heap.size + 1 + 1, 0, none⟩) 2 2, .slice none 0 0, .int .i64 9] (wG2 w) fun e w' => (∃ g x, e = .returned (.tuple #[.agg #[.int .i8 0, .slice (some ⟨g, 0, none⟩) 2 2, .slice none 0 0], .int .i64 0]) ∧ Blk w' g 26 #[.int .i8 x, .int .i8 1]) ∧ Below w.heap.size w w' := by
  have hb : Below w.heap.size w (wG2 w) :=
    (((Below.refl _ w).alloc (Nat.le_refl _) _).alloc (by simp) _).alloc (by simp; omega) _
  have hg : Grid (wG2 w) (some ⟨w.heap.size + 1 + 1, 0, none⟩) [(some ⟨w.heap.size, 0, none⟩, 2, [0, 2]), (some ⟨w.heap.size + 1, 0, none⟩, 2, [1, 2])] := by
    refine blk_grid (Blk.new_at (by simp) _ _) (by simp) ?_
    intro r hr
    rcases List.mem_cons.1 hr with rfl | hr
    · exact ⟨blk_row (((Blk.new w 3 #[.int .i64 0, .int .i64 2]).alloc _).alloc _) (by simp), fun h => by cases h⟩
    rcases List.mem_cons.1 hr with rfl | hr
    · exact ⟨blk_row ((Blk.new_at (w := w.alloc (.cells #[.int .i64 0, .int .i64 2] 3)) (by simp) 3 #[.int .i64 1, .int .i64 2]).alloc _) (by simp), fun h => by cases h⟩
    cases hr
  have K := solve_any (cl := 2) (n := 2) (budget := 9) hg (show Row .i64 (wG2 w) none [] from ⟨by simp, .inl rfl⟩) (fun _ => rfl) (Nat.le_refl 0) (by omega) (by simp)
  have hm : mayB 2 [(some (⟨w.heap.size, 0, none⟩ : Addr), 2, [0, 2]), (some ⟨w.heap.size + 1, 0, none⟩, 2, [1, 2])] 9 = true := by
    unfold mayB
    simp [badC_a, badC_b]
  refine K.mono ?_
  rintro e w' (⟨h1, _⟩ | ⟨_, v, rfl, h2, h3⟩)
  · rw [hm] at h1; cases h1
  refine ⟨?_, below_then hb (Nat.le_refl _) h2⟩
  rcases h3 with ⟨g, vals, rfl, p1, p2, p3, p4⟩ | ⟨QA, qc, st, rfl, p1, p2, p3, p4, p5, p6⟩ | ⟨rfl, p1⟩
  · have p5 : holdsM vals [[0, 2], [1, 2]] = true := p4
    rcases two_vals p2 p3 with rfl | rfl | rfl | rfl
    · exact ⟨g, 1, rfl, p1⟩
    · exact absurd p5 (by decide)
    · exact ⟨g, 2, rfl, p1⟩
    · exact absurd p5 (by decide)
  · exact absurd (holds_iff.2 (show holdsM [1, 1] [[0, 2], [1, 2]] = true by decide)) (p6 _ (vals_model (vals := [1, 1]) rfl (by decide)))
  · exact absurd p1 (by decide)
theorem k_c (w : World) :
    Calls Tryz.prog 9 #[.int .i64 1, .slice (some ⟨w.heap.size + 1, 0, none⟩) 1 1, .slice none 0 0, .int .i64 9] (wG1 w) fun e w' => e = .returned (.tuple #[.agg #[.int .i8 0, .slice none 0 0, .slice none 0 0], .int .i64 2]) ∧ Below w.heap.size w w' := by
  have hb : Below w.heap.size w (wG1 w) := ((Below.refl _ w).alloc (Nat.le_refl _) _).alloc (by simp) _
  have hg : Grid (wG1 w) (some ⟨w.heap.size + 1, 0, none⟩) [(some ⟨w.heap.size, 0, none⟩, 1, [2])] := by
    refine blk_grid (Blk.new_at (by simp) _ _) (by simp) ?_
    intro r hr
    rcases List.mem_cons.1 hr with rfl | hr
    · exact ⟨blk_row ((Blk.new w 3 #[.int .i64 2]).alloc _) (by simp), fun h => by cases h⟩
    cases hr
  have hm : mayB 1 [(some (⟨w.heap.size, 0, none⟩ : Addr), 1, [2])] 9 = false := may_bad (i := 0) (by simp) (bad_lit (x := 2) (by simp) (by decide))
  exact (solve_no (cl := 1) (m := 0) (cs := 0) (SA := none) hg hm).mono fun e w' h => ⟨h.1, below_then hb (Nat.le_refl _) h.2⟩
end Go.Proofs.YtmbekchnfbmhbaaGreat

/- wakes. -/
namespace Go.Proofs.YtmbekchnfbmhbaaGreat
open Go.RowKit Go.Lib

set_option maxRecDepth 100000 in
set_option maxHeartbeats 8000000 in
theorem wakes_ok (w : World) :
    Calls Tryz.prog 8 #[] w fun e w' => e = .returned (.bool true) ∧ Below w.heap.size w w' := by
  go_enter Tryz.func8, Tryz.ntmps8
  go_upto_region 2 with (go_at_call 9; (with_reducible refine (k_a _).mono ?_); rintro e w1 ⟨⟨SA, m, sc, rfl⟩, hb1⟩; have HB1 := Lib.hid hb1; clear hb1)
  have q1 := boxed w1 (.int .i8 1) (.slice none 0 0) (.slice SA m sc)
  have HB2 := Lib.hid (below_then HB1.out (Nat.le_refl _) q1.1)
  have HA := Lib.hid q1.2
  clear q1
  generalize w1.alloc (.cells #[.int .i8 1, .slice none 0 0, .slice SA m sc] 29) = W1 at *
  generalize w1.heap.size = gA at *
  go_upto_region 3 with (go_at_call 9; (with_reducible refine (k_b _).mono ?_); rintro e w2 ⟨⟨g, x, rfl, hv⟩, hb1⟩; have HV := Lib.hid hv; have HB3 := Lib.hid hb1; clear hv hb1)
  have q1 := boxed w2 (.int .i8 0) (.slice (some ⟨g, 0, none⟩) 2 2) (.slice none 0 0)
  have HB4 := Lib.hid (below_then HB3.out (Nat.le_refl _) q1.1)
  have HB := Lib.hid q1.2
  have HV2 := Lib.hid (HV.out.below q1.1 HV.out.lt)
  clear q1
  generalize w2.alloc (.cells #[.int .i8 0, .slice (some ⟨g, 0, none⟩) 2 2, .slice none 0 0] 29) = W2 at *
  generalize w2.heap.size = gB at *
  go_upto_region 4 with (go_at_call 9; (with_reducible refine (k_c _).mono ?_); rintro e w3 ⟨rfl, hb1⟩; have HB5 := Lib.hid hb1; clear hb1)
  have q1 := boxed w3 (.int .i8 0) (.slice none 0 0) (.slice none 0 0)
  have HB6 := Lib.hid (below_then HB5.out (Nat.le_refl _) q1.1)
  clear q1
  generalize w3.alloc (.cells #[.int .i8 0, .slice none 0 0, .slice none 0 0] 29) = W3 at *
  have hA := HA.out.below (below_then HB4.out (Nat.le_refl _) HB6.out) HA.out.lt
  have hB := HB.out.below HB6.out HB.out.lt
  have hV := HV2.out.below HB6.out HV2.out.lt
  have x0 := hA.cell 0
  have y0 := hB.cell 0
  have y1 := hB.cell 1
  have z1 := hV.cell 1
  simp only [List.getElem?_toArray, List.getElem?_cons_zero, List.getElem?_cons_succ] at x0 y0 y1 z1
  have HBF := Lib.hid (below_then HB2.out (Nat.le_refl _) (below_then HB4.out (Nat.le_refl _) HB6.out))
  clear hA hB hV
  go_wp2
  go_ret
  exact ⟨rfl, HBF.out⟩
end Go.Proofs.YtmbekchnfbmhbaaGreat

/- What the laws share. -/
namespace Go.Proofs.YtmbekchnfbmhbaaGreat
open Go.RowKit Go.Lib

/-- Clauses that came in and are not great. -/
structure TameG (w : World) (A : Option Addr) (c : Nat) (R : List (Option Addr × Nat × List Int)) : Prop where
  grid : Grid w A R
  nil : A = none → c = 0
  cap : R.length ≤ c
  r80 : R.length ≤ 80
  each : ∀ r ∈ R, r.2.2.length ≤ 20 ∧ ∀ x ∈ r.2.2, x ≤ 4096
theorem tameG {w : World} {a : Option Addr} {len cap : Nat} {A : Nat → Option Addr} {L C : Nat → Nat} {Z : Nat → List Int} (h : IsGrid w a len cap A L C Z) (hn : len ≤ 80 ∧ ∀ r, r < len → L r ≤ 20 ∧ ∀ c, c < L r → (Z r).getD c 0 ≤ 4096) :
    ∃ R, R.length = len ∧ TameG w a cap R := by
  obtain ⟨hl, hg⟩ := h.grid (by omega) (fun r hr => by have := (hn.2 r hr).1; omega)
  refine ⟨gridRows len A L C Z, hl, ⟨hg, ?_, ?_, by omega, ?_⟩⟩
  · intro ha
    rcases h with ⟨_, _, h2⟩ | ⟨x, h0, _⟩
    · exact h2
    · rw [ha] at h0; cases h0
  · rw [hl]
    rcases h with ⟨_, h1, h2⟩ | ⟨x, h0, h1, _⟩
    · omega
    · exact h1
  · intro r hr
    obtain ⟨k, hk, rfl⟩ := grid_mem hr
    have := hn.2 k hk
    exact ⟨by rw [List.length_take]; omega, take_le this.2⟩
theorem TameG.max {w : World} {A : Option Addr} {c : Nat} {R : List (Option Addr × Nat × List Int)} (h : TameG w A c R) : ∀ r ∈ R, ∀ x ∈ r.2.2, x ≤ 9223372036854775807 := fun r hr x hx => by have := (h.each r hr).2 x hx; omega
theorem TameG.short {w : World} {A : Option Addr} {c : Nat} {R : List (Option Addr × Nat × List Int)} (h : TameG w A c R) : ∀ r ∈ R, r.2.2.length ≤ 1000 := fun r hr => by have := (h.each r hr).1; omega
theorem TameG.below {w w' : World} {A : Option Addr} {c : Nat} {R : List (Option Addr × Nat × List Int)} (h : TameG w A c R) (hb : Below w.heap.size w w') : TameG w' A c R := ⟨h.grid.below hb, h.nil, h.cap, h.r80, h.each⟩

theorem tmod_mod (t : Int) (n : Nat) (hn : 0 < n) : ∃ (q : Int) (k : Nat), t.tmod n = q ∧ -(n : Int) < q ∧ q < n ∧ (q + n).tmod n = k ∧ k < n := by
  have hn0 : (n : Int) ≠ 0 := by omega
  have h1 := Int.tmod_lt_of_pos t (show (0 : Int) < n by omega)
  have h2 : -(n : Int) < t.tmod n := by
    have := Int.tmod_lt_of_pos (-t) (show (0 : Int) < n by omega)
    rw [Int.neg_tmod] at this
    omega
  have h3 := Int.tmod_nonneg (n : Int) (show 0 ≤ t.tmod n + n by omega)
  have h4 := Int.tmod_lt_of_pos (t.tmod n + n) (show (0 : Int) < n by omega)
  exact ⟨t.tmod n, ((t.tmod n + n).tmod n).toNat, rfl, h2, h1, by omega, by omega⟩


theorem SatPost.steps {w w' : World} {H0 n : Nat} {R0 : List RowT} {budget : Nat} {v : Value} (h : SatPost w H0 n R0 budget v w') : ∃ k VA vm vc QA qc m, v = .agg #[.int .i8 k, .slice VA (vm : Nat) vc, .slice QA (m : Nat) qc] ∧ m ≤ budget + 1 := by
  rcases h.2 with ⟨g, vals, rfl, _⟩ | ⟨QA, qc, st, rfl, _, _, _, p4, _⟩ | ⟨rfl, _⟩
  · exact ⟨_, _, _, _, _, _, 0, rfl, Nat.zero_le _⟩
  · exact ⟨_, _, _, _, _, _, _, rfl, p4⟩
  · exact ⟨_, _, _, _, _, _, 0, rfl, Nat.zero_le _⟩
end Go.Proofs.YtmbekchnfbmhbaaGreat

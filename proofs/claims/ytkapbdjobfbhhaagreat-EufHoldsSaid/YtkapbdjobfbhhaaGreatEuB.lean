/- Nodes and tables as they lie; whether a node may stand at a place. -/
import Derived.Test.YtkapbdjobfbhhaaGreatBits
import Derived.Test.YtkapbdjobfbhhaaGreatEuQ
import Derived.Test.YtkapbdjobfbhhaaGreatProg
import Derived.Deep.LoopGhost
import Derived.OwnWalk
namespace Go.Proofs.YtkapbdjobfbhhaaGreat
open Go.RowKit Go.Lib
def ArIs (op : Int) (w : World) (e : Ending) (w' : World) : Prop := Below w.heap.size w w' ∧ match arityM op with
  | some (lo, hi) => e = .returned (.tuple #[.int .i8 lo, .int .i8 hi, .bool true])
  | none => e = .returned (.tuple #[.int .i8 0, .int .i8 0, .bool false])
theorem arity_far {op : Int} (h : op < 0 ∨ 13 < op) : arityM op = none := by
  unfold arityM
  repeat' split
  all_goals first | rfl | (exfalso; omega)
set_option maxHeartbeats 2000000 in
theorem arity_ok (op : Int) (hr : -128 ≤ op ∧ op ≤ 127) (w : World) : Calls Tryz.prog 85 #[.int .i8 op] w (ArIs op w) := by
  have hb : ∀ c t, Below w.heap.size w (w.alloc (.cells c t)) := fun c t => (Below.refl _ w).alloc (Nat.le_refl _) _
  have HB := Lib.hid hb
  clear hb
  by_cases h0 : op < 0
  · have d0 : decide (op < 0) = true := decide_eq_true h0
    have d1 : (op == 13) = false := beq_eq_false_iff_ne.2 (by omega)
    have HA := Lib.hid (arity_far (.inl h0))
    clear h0 hr
    go_enter Tryz.func85, Tryz.ntmps85
    go_wp2
    go_ret3
    unfold ArIs
    rw [HA.out]
    exact ⟨HB.out _ _, rfl⟩
  by_cases h1 : 13 < op
  · have d0 : decide (op < 0) = false := decide_eq_false h0
    have d1 : (op == 13) = false := beq_eq_false_iff_ne.2 (by omega)
    have d2 : decide (13 ≤ op) = true := decide_eq_true (by omega)
    have HA := Lib.hid (arity_far (.inr h1))
    have h2 := hr.2
    clear h0 hr
    go_enter Tryz.func85, Tryz.ntmps85
    go_wp2
    go_ret3
    unfold ArIs
    rw [HA.out]
    exact ⟨HB.out _ _, rfl⟩
  have hc : op = 13 ∨ op = 0 ∨ op = 1 ∨ op = 2 ∨ op = 3 ∨ op = 4 ∨ op = 5 ∨ op = 6 ∨ op = 7 ∨ op = 8 ∨ op = 9 ∨ op = 10 ∨ op = 11 ∨ op = 12 := by omega
  clear h0 h1 hr
  rcases hc with rfl | hc
  · go_enter Tryz.func85, Tryz.ntmps85
    go_wp2
    go_ret3
    exact ⟨Below.refl _ _, rfl⟩
  rcases hc with rfl | rfl | rfl | rfl | rfl | rfl | rfl | rfl | rfl | rfl | rfl | rfl | rfl
  all_goals
    go_enter Tryz.func85, Tryz.ntmps85
    go_wp2
    go_quiet (fail)
    go_wp2
    go_ret3
    exact ⟨below_drewN (HB.out _ _) _, rfl⟩
def arity05 (op : Int) : Int := if op = 0 ∨ op = 10 then 0 else if op = 1 ∨ op = 11 then 1 else if op = 7 then 3 else if op = 13 then -1 else if 2 ≤ op ∧ op ≤ 12 then 2 else -2
theorem arity5_far {op : Int} (h : op < 0 ∨ 13 < op) : arity05 op = -2 := by
  unfold arity05
  repeat' split
  all_goals first | rfl | (exfalso; omega)
set_option maxHeartbeats 2000000 in
theorem arity5_ok (op : Int) (w : World) : Calls Tryz.prog 58 #[.int .i8 op] w fun e w' => e = .returned (.int .i64 (arity05 op)) ∧ w = w' := by
  by_cases h0 : op < 0 ∨ 13 < op
  · have b : ∀ k : Int, 0 ≤ k → k ≤ 13 → (op == k) = false := fun k h1 h2 => beq_eq_false_iff_ne.2 (by omega)
    have b0 := b 0 (by omega) (by omega)
    have b1 := b 1 (by omega) (by omega)
    have b2 := b 2 (by omega) (by omega)
    have b3 := b 3 (by omega) (by omega)
    have b4 := b 4 (by omega) (by omega)
    have b5 := b 5 (by omega) (by omega)
    have b6 := b 6 (by omega) (by omega)
    have b7 := b 7 (by omega) (by omega)
    have b8 := b 8 (by omega) (by omega)
    have b9 := b 9 (by omega) (by omega)
    have b10 := b 10 (by omega) (by omega)
    have b11 := b 11 (by omega) (by omega)
    have b12 := b 12 (by omega) (by omega)
    have b13 := b 13 (by omega) (by omega)
    rw [arity5_far h0]
    clear b h0
    go_enter Tryz.func58, Tryz.ntmps58
    go_wp2
    go_ret
    exact ⟨rfl, rfl⟩
  have hc : op = 0 ∨ op = 1 ∨ op = 2 ∨ op = 3 ∨ op = 4 ∨ op = 5 ∨ op = 6 ∨ op = 7 ∨ op = 8 ∨ op = 9 ∨ op = 10 ∨ op = 11 ∨ op = 12 ∨ op = 13 := by omega
  clear h0
  rcases hc with rfl | rfl | rfl | rfl | rfl | rfl | rfl | rfl | rfl | rfl | rfl | rfl | rfl | rfl
  all_goals
    go_enter Tryz.func58, Tryz.ntmps58
    go_wp2
    go_ret
    exact ⟨rfl, rfl⟩
def numB (n : Int) : Bool := decide (-4611686018427387904 ≤ n) && decide (n ≤ 4611686018427387904)
theorem num5_ok (n : Int) (w : World) : Calls Tryz.prog 59 #[.int .i64 n] w fun e w' => e = .returned (.bool (numB n)) ∧ w = w' := by
  by_cases h0 : -4611686018427387904 ≤ n
  · have d0 : decide (-4611686018427387904 ≤ n) = true := decide_eq_true h0
    unfold numB
    rw [d0, Bool.true_and]
    clear h0
    generalize hq : decide (n ≤ 4611686018427387904) = q
    go_enter Tryz.func59, Tryz.ntmps59
    go_wp2
    go_ret
    exact ⟨rfl, rfl⟩
  · have d0 : decide (-4611686018427387904 ≤ n) = false := decide_eq_false h0
    unfold numB
    rw [d0, Bool.false_and]
    clear h0
    go_enter Tryz.func59, Tryz.ntmps59
    go_wp2
    go_ret
    exact ⟨rfl, rfl⟩
theorem numB_a {n : Int} (h : n / 4611686018427387904 = 0 ∨ n / 4611686018427387904 = -1) : numB n = true := by
  unfold numB
  rw [decide_eq_true (by omega : -4611686018427387904 ≤ n), decide_eq_true (by omega : n ≤ 4611686018427387904)]
  rfl
theorem numB_b {n : Int} : (n / 4611686018427387904 == 0 || n / 4611686018427387904 == -1 || n == 4611686018427387904) = numB n := by
  unfold numB
  by_cases h0 : n / 4611686018427387904 = 0
  · exact (by rw [h0]; rfl : _ = true).trans (numB_a (.inl h0)).symm
  by_cases h1 : n / 4611686018427387904 = -1
  · exact (by rw [h1]; rfl : _ = true).trans (numB_a (.inr h1)).symm
  rw [beq_eq_false_iff_ne.2 h0, beq_eq_false_iff_ne.2 h1]
  by_cases h2 : n = 4611686018427387904
  · subst h2
    rfl
  · rw [beq_eq_false_iff_ne.2 h2]
    by_cases h3 : -4611686018427387904 ≤ n
    · rw [decide_eq_true h3, decide_eq_false (by omega)]
      rfl
    · rw [decide_eq_false h3]
      rfl
theorem num_ok (n : Int) (w : World) : Calls Tryz.prog 86 #[.int .i64 n] w fun e w' => e = .returned (.bool (numB n)) ∧ w = w' := by
  go_enter Tryz.func86, Tryz.ntmps86
  go_wp2
  · rename_i h
    go_ret
    exact ⟨by rw [numB_a (.inl h)]; rfl, rfl⟩
  · rename_i h
    go_ret
    exact ⟨by rw [numB_a (.inr h)]; rfl, rfl⟩
  · go_ret
    exact ⟨by rw [numB_b]; rfl, rfl⟩
def nodeCells (n : Nd) : List Value := [.int .i8 n.op, .int .i8 n.len, .int .i64 n.a0, .int .i64 n.a1, .int .i64 n.a2, .int .i64 n.sort, .int .i64 n.fn, .int .i64 n.num]
def nodeVal (n : Nd) : Value := .agg (nodeCells n).toArray
structure NdWf (n : Nd) : Prop where
  op : -128 ≤ n.op ∧ n.op ≤ 127
  len : -128 ≤ n.len ∧ n.len ≤ 127
  arg : ∀ j, -9223372036854775808 ≤ n.arg j ∧ n.arg j ≤ 9223372036854775807
  sort : -9223372036854775808 ≤ n.sort ∧ n.sort ≤ 9223372036854775807
  fn : -9223372036854775808 ≤ n.fn ∧ n.fn ≤ 9223372036854775807
  num : -9223372036854775808 ≤ n.num ∧ n.num ≤ 9223372036854775807
structure NdAt (w : World) (b o : Nat) (n : Nd) : Prop where
  lt : b < w.heap.size
  cells : ∀ j, j < 8 → w.cell? ⟨b, o + j, none⟩ = (nodeCells n)[j]?
  wf : NdWf n
theorem NdAt.below {w w' : World} {b o : Nat} {n : Nd} (h : NdAt w b o n) (hb : Below w.heap.size w w') : NdAt w' b o n :=
  ⟨Nat.lt_of_lt_of_le h.lt hb.size, fun j hj => (hb.cell (p := ⟨b, o + j, none⟩) h.lt).trans (h.cells j hj), h.wf⟩
theorem NdAt.drewN {w : World} {b o : Nat} {n : Nd} (h : NdAt w b o n) (k : Nat) : NdAt (w.drewN k) b o n := ⟨h.lt, h.cells, h.wf⟩
structure Tab (w : World) (A : Option Addr) (T : List Nd) : Prop where
  len : T.length ≤ 100000
  at_ : T.length = 0 ∨ ∃ b off, A = some ⟨b, off, none⟩ ∧ b < w.heap.size ∧ ∀ i (h : i < T.length), NdAt w b (off + i * 8) T[i]
theorem Tab.below {w w' : World} {A : Option Addr} {T : List Nd} (h : Tab w A T) (hb : Below w.heap.size w w') : Tab w' A T :=
  ⟨h.len, h.at_.imp id fun ⟨b, off, h1, h2, h3⟩ => ⟨b, off, h1, Nat.lt_of_lt_of_le h2 hb.size, fun i hi => (h3 i hi).below hb⟩⟩
theorem Tab.drewN {w : World} {A : Option Addr} {T : List Nd} (h : Tab w A T) (k : Nat) : Tab (w.drewN k) A T :=
  ⟨h.len, h.at_.imp id fun ⟨b, off, h1, h2, h3⟩ => ⟨b, off, h1, h2, fun i hi => (h3 i hi).drewN k⟩⟩
def TestIs (p : Prop) (w : World) (e : Ending) (w' : World) : Prop := ∃ b : Bool, e = .returned (.bool b) ∧ (b = true ↔ p) ∧ Below w.heap.size w w'
theorem TestIs.no {p : Prop} {w w' : World} (h : ¬ p) (hb : Below w.heap.size w w') : TestIs p w (.returned (.bool false)) w' := ⟨false, rfl, ⟨fun e => (by cases e), fun e => absurd e h⟩, hb⟩
theorem TestIs.yes {p : Prop} {w w' : World} (h : p) (hb : Below w.heap.size w w') : TestIs p w (.returned (.bool true)) w' := ⟨true, rfl, ⟨fun _ => h, fun _ => rfl⟩, hb⟩
def ArgIs (n : Nd) (a : Int) (j : Nat) : Prop := ((j : Int) < n.len → 0 ≤ n.arg j ∧ n.arg j < a) ∧ (n.len ≤ j → n.arg j = 0)
theorem Stands.ofArgs {n : Nd} {a lo hi : Int} (h1 : arityM n.op = some (lo, hi)) (h2 : lo ≤ n.len) (h3 : n.len ≤ hi) (h4 : 0 ≤ n.sort) (h5 : n.sort < 6) (h6 : ∀ j, j < 3 → ArgIs n a j) (h7 : 0 ≤ n.fn) (h8 : n.fn < 12) (h9 : 0 < n.fn → n.op = 13)
    (h10 : if n.op = 10 ∨ n.op = 11 ∨ n.op = 12 then numB n.num = true else n.num = 0) : Stands n a := by
  refine ⟨⟨lo, hi, h1, h2, h3⟩, ⟨h4, h5⟩, h6, ⟨h7, h8, h9⟩, fun hc => ?_, fun hc => ?_⟩
  · rw [if_pos hc] at h10
    unfold numB at h10
    simpa using h10
  · rwa [if_neg hc] at h10
theorem Stands.numOk {n : Nd} {a : Int} (h : Stands n a) : if n.op = 10 ∨ n.op = 11 ∨ n.op = 12 then numB n.num = true else n.num = 0 := by
  split
  · rename_i hc
    have := h.numb.1 hc
    unfold numB
    simpa using this
  · rename_i hc
    exact h.numb.2 hc
set_option maxRecDepth 100000 in
set_option maxHeartbeats 4000000 in
theorem stands_ok (n : Nd) (a : Int) (_ha : 0 ≤ a ∧ a ≤ 1000000) (b o : Nat) (w : World) (h : NdAt w b o n) :
    Calls Tryz.prog 68 #[.pointer (some ⟨b, o, none⟩), .int .i64 a] w (TestIs (Stands n a) w) := by
  have c0 := h.cells 0 (by omega)
  have H := Lib.hid h
  have HW := Lib.hid h.wf
  have r0 := h.wf.op
  have r1 := h.wf.len
  have hlt := h.lt
  have KA := Lib.hid (fun w => arity_ok n.op h.wf.op w)
  simp only [nodeCells, Nat.add_zero, List.getElem?_cons_zero] at c0
  clear h
  have i0 : ∀ w, (Instr.index 46 (.agg #[.int .i64 n.a0, .int .i64 n.a1, .int .i64 n.a2]) (.int .i64 0)).run Tryz.prog w = .ok (.int .i64 n.a0) w := fun _ => by kernel_rfl
  have i1 : ∀ w, (Instr.index 46 (.agg #[.int .i64 n.a0, .int .i64 n.a1, .int .i64 n.a2]) (.int .i64 1)).run Tryz.prog w = .ok (.int .i64 n.a1) w := fun _ => by kernel_rfl
  have i2 : ∀ w, (Instr.index 46 (.agg #[.int .i64 n.a0, .int .i64 n.a1, .int .i64 n.a2]) (.int .i64 2)).run Tryz.prog w = .ok (.int .i64 n.a2) w := fun _ => by kernel_rfl
  go_enter Tryz.func68, Tryz.ntmps68
  go_wp2_with fail
  refine (KA.out w).mono ?_
  rintro e w1 ⟨hb1, he⟩
  have hn1 := H.out.below hb1
  have d0 := hn1.cells 0 (by omega)
  have d1 := hn1.cells 1 (by omega)
  have d2 := hn1.cells 2 (by omega)
  have d3 := hn1.cells 3 (by omega)
  have d4 := hn1.cells 4 (by omega)
  have d5 := hn1.cells 5 (by omega)
  have d6 := hn1.cells 6 (by omega)
  have d7 := hn1.cells 7 (by omega)
  simp only [nodeCells, Nat.add_zero, List.getElem?_cons_zero, List.getElem?_cons_succ] at d0 d1 d2 d3 d4 d5 d6 d7
  have HB := Lib.hid hb1
  clear hb1 hn1 c0
  cases har : arityM n.op with
  | none =>
    rw [har] at he
    subst he
    have HAr := Lib.hid har
    clear har
    go_wp2
    go_ret
    refine TestIs.no (fun hs => ?_) HB.out
    obtain ⟨lo, hi, e, _⟩ := hs.ar
    rw [HAr.out] at e
    cases e
  | some p =>
    obtain ⟨lo, hi⟩ := p
    rw [har] at he
    subst he
    have HAr := Lib.hid har
    clear har
    by_cases q1 : n.len < lo
    · have t1 := decide_eq_true q1
      go_wp2
      go_ret
      exact TestIs.no (fun hs => (by obtain ⟨lo2, hi2, e, e1, e2⟩ := hs.ar; rw [HAr.out] at e; injection e with e; injection e with e3 e4; omega)) HB.out
    have t1 := decide_eq_false q1
    by_cases q2 : hi < n.len
    · have t2 := decide_eq_true q2
      go_wp2
      go_ret
      exact TestIs.no (fun hs => (by obtain ⟨lo2, hi2, e, e1, e2⟩ := hs.ar; rw [HAr.out] at e; injection e with e; injection e with e3 e4; omega)) HB.out
    have t2 := decide_eq_false q2
    by_cases q3 : n.sort < 0
    · have t3 := decide_eq_true q3
      go_wp2
      go_ret
      exact TestIs.no (fun hs => (by have := hs.srt; omega)) HB.out
    have t3 := decide_eq_false q3
    by_cases q4 : 6 ≤ n.sort
    · have t4 := decide_eq_true q4
      go_wp2
      go_ret
      exact TestIs.no (fun hs => (by have := hs.srt; omega)) HB.out
    have t4 := decide_eq_false q4
    have Q := Lib.hid (And.intro q1 (And.intro q2 (And.intro q3 q4)))
    clear q1 q2 q3 q4
    have h3 : (3 : Nat) = 3 := rfl
    clear h3
    go_wp2
    go_loopg [55] 3 (fun g v wr => wr = w1 ∧ ∃ j : Nat, j + g = 3 ∧ v = .int .i64 j ∧ ∀ k, k < j → ArgIs n a k)
    case atStart => exact ⟨rfl, 0, rfl, rfl, fun k hk => absurd hk (Nat.not_lt_zero _)⟩
    case round =>
      obtain ⟨rfl, j, hj, rfl, hinv⟩ := hrel
      have HI := Lib.hid hinv
      clear hinv
      cases gk with
      | succ k =>
        have hc : j = 0 ∨ j = 1 ∨ j = 2 := by omega
        rcases hc with rfl | rfl | rfl
        · by_cases x : (0 : Int) < n.len
          · have t5 := decide_eq_true x
            have t6 : decide (n.len ≤ 0) = false := decide_eq_false (by omega)
            by_cases y : n.a0 < 0
            · have t7 := decide_eq_true y
              go_wp2
              go_ret
              exact TestIs.no (fun hs => (by have := (hs.args 0 (by omega)).1 x; simp [Nd.arg] at this; omega)) HB.out
            have t7 := decide_eq_false y
            by_cases z : a ≤ n.a0
            · have t8 := decide_eq_true z
              go_wp2
              go_ret
              exact TestIs.no (fun hs => (by have := (hs.args 0 (by omega)).1 x; simp [Nd.arg] at this; omega)) HB.out
            have t8 := decide_eq_false z
            have AN : Hid (ArgIs n a 0) := Lib.hid ⟨fun _ => by simp [Nd.arg]; omega, fun h => absurd x (by omega)⟩
            clear x y z
            go_wp2
            go_roundg k
            case measure => omega
            case rel => exact ⟨rfl, 1, by omega, by go_num, fun i hi => by rcases Nat.lt_succ_iff_lt_or_eq.1 hi with hi | rfl; exact HI.out i hi; exact AN.out⟩
          · have t5 := decide_eq_false x
            have t6 : decide (n.len ≤ 0) = true := decide_eq_true (by omega)
            by_cases y : n.a0 = 0
            · have t7 : (n.a0 != 0) = false := by simp [y]
              have AN : Hid (ArgIs n a 0) := Lib.hid ⟨fun h => absurd h x, fun _ => by simp [Nd.arg]; exact y⟩
              clear x y
              go_wp2
              go_roundg k
              case measure => omega
              case rel => exact ⟨rfl, 1, by omega, by go_num, fun i hi => by rcases Nat.lt_succ_iff_lt_or_eq.1 hi with hi | rfl; exact HI.out i hi; exact AN.out⟩
            · have t7 : (n.a0 != 0) = true := by simp [y]
              go_wp2
              go_ret
              exact TestIs.no (fun hs => y (by have := (hs.args 0 (by omega)).2 (by omega); simpa [Nd.arg] using this)) HB.out
        · by_cases x : (1 : Int) < n.len
          · have t5 := decide_eq_true x
            have t6 : decide (n.len ≤ 1) = false := decide_eq_false (by omega)
            by_cases y : n.a1 < 0
            · have t7 := decide_eq_true y
              go_wp2
              go_ret
              exact TestIs.no (fun hs => (by have := (hs.args 1 (by omega)).1 x; simp [Nd.arg] at this; omega)) HB.out
            have t7 := decide_eq_false y
            by_cases z : a ≤ n.a1
            · have t8 := decide_eq_true z
              go_wp2
              go_ret
              exact TestIs.no (fun hs => (by have := (hs.args 1 (by omega)).1 x; simp [Nd.arg] at this; omega)) HB.out
            have t8 := decide_eq_false z
            have AN : Hid (ArgIs n a 1) := Lib.hid ⟨fun _ => by simp [Nd.arg]; omega, fun h => absurd x (by omega)⟩
            clear x y z
            go_wp2
            go_roundg k
            case measure => omega
            case rel => exact ⟨rfl, 2, by omega, by go_num, fun i hi => by rcases Nat.lt_succ_iff_lt_or_eq.1 hi with hi | rfl; exact HI.out i hi; exact AN.out⟩
          · have t5 := decide_eq_false x
            have t6 : decide (n.len ≤ 1) = true := decide_eq_true (by omega)
            by_cases y : n.a1 = 0
            · have t7 : (n.a1 != 0) = false := by simp [y]
              have AN : Hid (ArgIs n a 1) := Lib.hid ⟨fun h => absurd h x, fun _ => by simp [Nd.arg]; exact y⟩
              clear x y
              go_wp2
              go_roundg k
              case measure => omega
              case rel => exact ⟨rfl, 2, by omega, by go_num, fun i hi => by rcases Nat.lt_succ_iff_lt_or_eq.1 hi with hi | rfl; exact HI.out i hi; exact AN.out⟩
            · have t7 : (n.a1 != 0) = true := by simp [y]
              go_wp2
              go_ret
              exact TestIs.no (fun hs => y (by have := (hs.args 1 (by omega)).2 (by omega); simpa [Nd.arg] using this)) HB.out
        · by_cases x : (2 : Int) < n.len
          · have t5 := decide_eq_true x
            have t6 : decide (n.len ≤ 2) = false := decide_eq_false (by omega)
            by_cases y : n.a2 < 0
            · have t7 := decide_eq_true y
              go_wp2
              go_ret
              exact TestIs.no (fun hs => (by have := (hs.args 2 (by omega)).1 x; simp [Nd.arg] at this; omega)) HB.out
            have t7 := decide_eq_false y
            by_cases z : a ≤ n.a2
            · have t8 := decide_eq_true z
              go_wp2
              go_ret
              exact TestIs.no (fun hs => (by have := (hs.args 2 (by omega)).1 x; simp [Nd.arg] at this; omega)) HB.out
            have t8 := decide_eq_false z
            have AN : Hid (ArgIs n a 2) := Lib.hid ⟨fun _ => by simp [Nd.arg]; omega, fun h => absurd x (by omega)⟩
            clear x y z
            go_wp2
            go_roundg k
            case measure => omega
            case rel => exact ⟨rfl, 3, by omega, by go_num, fun i hi => by rcases Nat.lt_succ_iff_lt_or_eq.1 hi with hi | rfl; exact HI.out i hi; exact AN.out⟩
          · have t5 := decide_eq_false x
            have t6 : decide (n.len ≤ 2) = true := decide_eq_true (by omega)
            by_cases y : n.a2 = 0
            · have t7 : (n.a2 != 0) = false := by simp [y]
              have AN : Hid (ArgIs n a 2) := Lib.hid ⟨fun h => absurd h x, fun _ => by simp [Nd.arg]; exact y⟩
              clear x y
              go_wp2
              go_roundg k
              case measure => omega
              case rel => exact ⟨rfl, 3, by omega, by go_num, fun i hi => by rcases Nat.lt_succ_iff_lt_or_eq.1 hi with hi | rfl; exact HI.out i hi; exact AN.out⟩
            · have t7 : (n.a2 != 0) = true := by simp [y]
              go_wp2
              go_ret
              exact TestIs.no (fun hs => y (by have := (hs.args 2 (by omega)).2 (by omega); simpa [Nd.arg] using this)) HB.out
      | zero =>
        obtain rfl : j = 3 := by omega
        by_cases q5 : n.fn < 0
        · have t5 := decide_eq_true q5
          go_wp2
          go_ret
          exact TestIs.no (fun hs => (by have := hs.fun_; omega)) HB.out
        have t5 := decide_eq_false q5
        by_cases q6 : 12 ≤ n.fn
        · have t6 := decide_eq_true q6
          go_wp2
          go_ret
          exact TestIs.no (fun hs => (by have := hs.fun_; omega)) HB.out
        have t6 := decide_eq_false q6
        have q7 : (0 < n.fn → n.op = 13) ∨ (0 < n.fn ∧ n.op ≠ 13) := by by_cases u : 0 < n.fn; by_cases v : n.op = 13; exact .inl fun _ => v; exact .inr ⟨u, v⟩; exact .inl fun h => absurd h u
        rcases q7 with q7 | ⟨q7, q8⟩
        rotate_left
        · have t7 := decide_eq_true q7
          have t8 : (n.op != 13) = true := by simp [q8]
          go_wp2
          go_ret
          exact TestIs.no (fun hs => q8 (hs.fun_.2.2 q7)) HB.out
        have t78 : (decide (0 < n.fn) = false) ∨ (decide (0 < n.fn) = true ∧ (n.op != 13) = false) := by by_cases u : 0 < n.fn; exact .inr ⟨decide_eq_true u, by simp [q7 u]⟩; exact .inl (decide_eq_false u)
        have Q7 := Lib.hid (And.intro q5 (And.intro q6 q7))
        clear q5 q6 q7
        have HS : Hid ((if n.op = 10 ∨ n.op = 11 ∨ n.op = 12 then numB n.num = true else n.num = 0) → Stands n a) := Lib.hid fun h => Stands.ofArgs HAr.out (by have := Q.out; omega) (by have := Q.out; omega) (by have := Q.out; omega) (by have := Q.out; omega) (fun i hi => HI.out i hi) (by have := Q7.out; omega) (by have := Q7.out; omega) Q7.out.2.2 h
        have KN := Lib.hid (num_ok n.num)
        rcases t78 with t7 | ⟨t7, t8⟩
        · by_cases o1 : n.op = 10 ∨ n.op = 11 ∨ n.op = 12
          · obtain ⟨nb, hnb⟩ : ∃ nb, numB n.num = nb := ⟨_, rfl⟩
            rw [hnb] at KN
            have HNB := Lib.hid hnb
            have HO := Lib.hid o1
            clear hnb
            have fin : ∀ w2, w2 = wr → TestIs (Stands n a) w (.returned (.bool nb)) w2 := fun w2 e2 => by
              subst e2
              cases nb with
              | true => exact TestIs.yes (HS.out (by rw [if_pos HO.out]; exact HNB.out)) HB.out
              | false => exact TestIs.no (fun hs => by have := hs.numOk; rw [if_pos HO.out, HNB.out] at this; cases this) HB.out
            have FIN := Lib.hid fin
            clear fin
            by_cases p0 : n.op = 10
            · have u0 : (n.op == 10) = true := by simp [p0]
              clear p0 o1
              go_wp2_with (go_at_call 86; refine (KN.out _).mono ?_; rintro e w2 ⟨rfl, rfl⟩)
              go_ret
              exact FIN.out _ rfl
            have u0 : (n.op == 10) = false := by simp [p0]
            by_cases p1 : n.op = 11
            · have u1 : (n.op == 11) = true := by simp [p1]
              clear p1 o1
              go_wp2_with (go_at_call 86; refine (KN.out _).mono ?_; rintro e w2 ⟨rfl, rfl⟩)
              go_ret
              exact FIN.out _ rfl
            have u1 : (n.op == 11) = false := by simp [p1]
            by_cases p2 : n.op = 12
            · have u2 : (n.op == 12) = true := by simp [p2]
              clear p2 o1
              go_wp2_with (go_at_call 86; refine (KN.out _).mono ?_; rintro e w2 ⟨rfl, rfl⟩)
              go_ret
              exact FIN.out _ rfl
            have u2 : (n.op == 12) = false := by simp [p2]
            exact absurd o1 (by omega)
          · have u0 : (n.op == 10) = false := by simp; omega
            have u1 : (n.op == 11) = false := by simp; omega
            have u2 : (n.op == 12) = false := by simp; omega
            have HO := Lib.hid o1
            clear o1
            by_cases v : n.num = 0
            · have u3 : (n.num == 0) = true := by simp [v]
              have HV := Lib.hid v
              clear v
              go_wp2
              go_ret
              exact TestIs.yes (HS.out (by rw [if_neg HO.out]; exact HV.out)) HB.out
            · have u3 : (n.num == 0) = false := by simp [v]
              have HV := Lib.hid v
              clear v
              go_wp2
              go_ret
              exact TestIs.no (fun hs => by have := hs.numOk; rw [if_neg HO.out] at this; exact HV.out this) HB.out
        · by_cases o1 : n.op = 10 ∨ n.op = 11 ∨ n.op = 12
          · obtain ⟨nb, hnb⟩ : ∃ nb, numB n.num = nb := ⟨_, rfl⟩
            rw [hnb] at KN
            have HNB := Lib.hid hnb
            have HO := Lib.hid o1
            clear hnb
            have fin : ∀ w2, w2 = wr → TestIs (Stands n a) w (.returned (.bool nb)) w2 := fun w2 e2 => by
              subst e2
              cases nb with
              | true => exact TestIs.yes (HS.out (by rw [if_pos HO.out]; exact HNB.out)) HB.out
              | false => exact TestIs.no (fun hs => by have := hs.numOk; rw [if_pos HO.out, HNB.out] at this; cases this) HB.out
            have FIN := Lib.hid fin
            clear fin
            by_cases p0 : n.op = 10
            · have u0 : (n.op == 10) = true := by simp [p0]
              clear p0 o1
              go_wp2_with (go_at_call 86; refine (KN.out _).mono ?_; rintro e w2 ⟨rfl, rfl⟩)
              go_ret
              exact FIN.out _ rfl
            have u0 : (n.op == 10) = false := by simp [p0]
            by_cases p1 : n.op = 11
            · have u1 : (n.op == 11) = true := by simp [p1]
              clear p1 o1
              go_wp2_with (go_at_call 86; refine (KN.out _).mono ?_; rintro e w2 ⟨rfl, rfl⟩)
              go_ret
              exact FIN.out _ rfl
            have u1 : (n.op == 11) = false := by simp [p1]
            by_cases p2 : n.op = 12
            · have u2 : (n.op == 12) = true := by simp [p2]
              clear p2 o1
              go_wp2_with (go_at_call 86; refine (KN.out _).mono ?_; rintro e w2 ⟨rfl, rfl⟩)
              go_ret
              exact FIN.out _ rfl
            have u2 : (n.op == 12) = false := by simp [p2]
            exact absurd o1 (by omega)
          · have u0 : (n.op == 10) = false := by simp; omega
            have u1 : (n.op == 11) = false := by simp; omega
            have u2 : (n.op == 12) = false := by simp; omega
            have HO := Lib.hid o1
            clear o1
            by_cases v : n.num = 0
            · have u3 : (n.num == 0) = true := by simp [v]
              have HV := Lib.hid v
              clear v
              go_wp2
              go_ret
              exact TestIs.yes (HS.out (by rw [if_neg HO.out]; exact HV.out)) HB.out
            · have u3 : (n.num == 0) = false := by simp [v]
              have HV := Lib.hid v
              clear v
              go_wp2
              go_ret
              exact TestIs.no (fun hs => by have := hs.numOk; rw [if_neg HO.out] at this; exact HV.out this) HB.out
end Go.Proofs.YtkapbdjobfbhhaaGreat

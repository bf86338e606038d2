/- Rows of ints as they lie; append to a row that has no room. -/
import Derived.Test.YtlipnnibagidiaaGreatEuA
import Derived.Laws.AppendOwn
namespace Go.Proofs.YtlipnnibagidiaaGreat
open Go.RowKit Go.Lib
def nodeCells (n : Nd) : List Value := [.int .i8 n.op, .int .i8 n.len, .int .i64 n.a0, .int .i64 n.a1, .int .i64 n.a2, .int .i64 n.sort, .int .i64 n.fn, .int .i64 n.num]
def nodeVal (n : Nd) : Value := .agg (nodeCells n).toArray
structure NdWf (n : Nd) : Prop where
  op : -128 ≤ n.op ∧ n.op ≤ 127
  len : -128 ≤ n.len ∧ n.len ≤ 127
  arg : ∀ j, -9223372036854775808 ≤ n.arg j ∧ n.arg j ≤ 9223372036854775807
  sort : -9223372036854775808 ≤ n.sort ∧ n.sort ≤ 9223372036854775807
  fn : -9223372036854775808 ≤ n.fn ∧ n.fn ≤ 9223372036854775807
  num : -9223372036854775808 ≤ n.num ∧ n.num ≤ 9223372036854775807
structure NdAt (w : World) (b o : Nat) (n : Nd) : Prop where
  lt : b < w.heap.size
  cells : ∀ j, j < 8 → w.cell? ⟨b, o + j, none⟩ = (nodeCells n)[j]?
  wf : NdWf n
theorem NdAt.below {w w' : World} {b o : Nat} {n : Nd} (h : NdAt w b o n) (hb : Below w.heap.size w w') : NdAt w' b o n :=
  ⟨Nat.lt_of_lt_of_le h.lt hb.size, fun j hj => (hb.cell (p := ⟨b, o + j, none⟩) h.lt).trans (h.cells j hj), h.wf⟩
theorem NdAt.drewN {w : World} {b o : Nat} {n : Nd} (h : NdAt w b o n) (k : Nat) : NdAt (w.drewN k) b o n := ⟨h.lt, h.cells, h.wf⟩
structure Tab (w : World) (A : Option Addr) (T : List Nd) : Prop where
  len : T.length ≤ 100000
  at_ : T.length = 0 ∨ ∃ b off, A = some ⟨b, off, none⟩ ∧ b < w.heap.size ∧ ∀ i (h : i < T.length), NdAt w b (off + i * 8) T[i]
theorem Tab.below {w w' : World} {A : Option Addr} {T : List Nd} (h : Tab w A T) (hb : Below w.heap.size w w') : Tab w' A T :=
  ⟨h.len, h.at_.imp id fun ⟨b, off, h1, h2, h3⟩ => ⟨b, off, h1, Nat.lt_of_lt_of_le h2 hb.size, fun i hi => (h3 i hi).below hb⟩⟩
theorem Tab.drewN {w : World} {A : Option Addr} {T : List Nd} (h : Tab w A T) (k : Nat) : Tab (w.drewN k) A T :=
  ⟨h.len, h.at_.imp id fun ⟨b, off, h1, h2, h3⟩ => ⟨b, off, h1, h2, fun i hi => (h3 i hi).drewN k⟩⟩
def TestIs (p : Prop) (w : World) (e : Ending) (w' : World) : Prop := ∃ b : Bool, e = .returned (.bool b) ∧ (b = true ↔ p) ∧ Below w.heap.size w w'
theorem TestIs.no {p : Prop} {w w' : World} (h : ¬ p) (hb : Below w.heap.size w w') : TestIs p w (.returned (.bool false)) w' := ⟨false, rfl, ⟨fun e => (by cases e), fun e => absurd e h⟩, hb⟩
theorem TestIs.yes {p : Prop} {w w' : World} (h : p) (hb : Below w.heap.size w w') : TestIs p w (.returned (.bool true)) w' := ⟨true, rfl, ⟨fun _ => h, fun _ => rfl⟩, hb⟩
def ArgIs (n : Nd) (a : Int) (j : Nat) : Prop := ((j : Int) < n.len → 0 ≤ n.arg j ∧ n.arg j < a) ∧ (n.len ≤ j → n.arg j = 0)
theorem Stands.ofArgs {n : Nd} {a lo hi : Int} (h1 : arityM n.op = some (lo, hi)) (h2 : lo ≤ n.len) (h3 : n.len ≤ hi) (h4 : 0 ≤ n.sort) (h5 : n.sort < 6) (h6 : ∀ j, j < 3 → ArgIs n a j) (h7 : 0 ≤ n.fn) (h8 : n.fn < 12) (h9 : 0 < n.fn → n.op = 13)
    (h10 : if n.op = 10 ∨ n.op = 11 ∨ n.op = 12 then numB n.num = true else n.num = 0) : Stands n a := by
  refine ⟨⟨lo, hi, h1, h2, h3⟩, ⟨h4, h5⟩, h6, ⟨h7, h8, h9⟩, fun hc => ?_, fun hc => ?_⟩
  · rw [if_pos hc] at h10
    unfold numB at h10
    simpa using h10
  · rwa [if_neg hc] at h10
theorem Stands.numOk {n : Nd} {a : Int} (h : Stands n a) : if n.op = 10 ∨ n.op = 11 ∨ n.op = 12 then numB n.num = true else n.num = 0 := by
  split
  · rename_i hc
    have := h.numb.1 hc
    unfold numB
    simpa using this
  · rename_i hc
    exact h.numb.2 hc
set_option maxRecDepth 100000 in
set_option maxHeartbeats 4000000 in
theorem stands_ok (n : Nd) (a : Int) (_ha : 0 ≤ a ∧ a ≤ 1000000) (b o : Nat) (w : World) (h : NdAt w b o n) :
    Calls Tryz.prog 77 #[.pointer (some ⟨b, o, none⟩), .int .i64 a] w (TestIs (Stands n a) w) := by
  have c0 := h.cells 0 (by omega)
  have H := zzh h
  have HW := zzh h.wf
  have r0 := h.wf.op
  have r1 := h.wf.len
  have hlt := h.lt
  have KA := zzh (fun w => arity_ok n.op h.wf.op w)
  simp only [nodeCells, Nat.add_zero, zzi] at c0
  clear h
  have i0 : ∀ w, (Instr.index 49 (.agg #[.int .i64 n.a0, .int .i64 n.a1, .int .i64 n.a2]) (.int .i64 0)).run Tryz.prog w = .ok (.int .i64 n.a0) w := fun _ => by kernel_rfl
  have i1 : ∀ w, (Instr.index 49 (.agg #[.int .i64 n.a0, .int .i64 n.a1, .int .i64 n.a2]) (.int .i64 1)).run Tryz.prog w = .ok (.int .i64 n.a1) w := fun _ => by kernel_rfl
  have i2 : ∀ w, (Instr.index 49 (.agg #[.int .i64 n.a0, .int .i64 n.a1, .int .i64 n.a2]) (.int .i64 2)).run Tryz.prog w = .ok (.int .i64 n.a2) w := fun _ => by kernel_rfl
  go_enter Tryz.func77, Tryz.ntmps77
  go_wp2_with fail
  refine (KA.out w).mono ?_
  rintro e w1 ⟨hb1, he⟩
  have hn1 := H.out.below hb1
  have d0 := hn1.cells 0 (by omega)
  have d1 := hn1.cells 1 (by omega)
  have d2 := hn1.cells 2 (by omega)
  have d3 := hn1.cells 3 (by omega)
  have d4 := hn1.cells 4 (by omega)
  have d5 := hn1.cells 5 (by omega)
  have d6 := hn1.cells 6 (by omega)
  have d7 := hn1.cells 7 (by omega)
  simp only [nodeCells, Nat.add_zero, zzi, zzj] at d0 d1 d2 d3 d4 d5 d6 d7
  have HB := zzh hb1
  clear hb1 hn1 c0
  cases har : arityM n.op with
  | none =>
    rw [har] at he
    subst he
    have HAr := zzh har
    clear har
    go_wp2
    go_ret
    refine TestIs.no (fun hs => ?_) HB.out
    obtain ⟨lo, hi, e, _⟩ := hs.ar
    rw [HAr.out] at e
    cases e
  | some p =>
    obtain ⟨lo, hi⟩ := p
    rw [har] at he
    subst he
    have HAr := zzh har
    clear har
    by_cases q1 : n.len < lo
    · have t1 := decide_eq_true q1
      go_wp2
      go_ret
      exact TestIs.no (fun hs => (by obtain ⟨lo2, hi2, e, e1, e2⟩ := hs.ar; rw [HAr.out] at e; injection e with e; injection e with e3 e4; omega)) HB.out
    have t1 := decide_eq_false q1
    by_cases q2 : hi < n.len
    · have t2 := decide_eq_true q2
      go_wp2
      go_ret
      exact TestIs.no (fun hs => (by obtain ⟨lo2, hi2, e, e1, e2⟩ := hs.ar; rw [HAr.out] at e; injection e with e; injection e with e3 e4; omega)) HB.out
    have t2 := decide_eq_false q2
    by_cases q3 : n.sort < 0
    · have t3 := decide_eq_true q3
      go_wp2
      go_ret
      exact TestIs.no (fun hs => (by have := hs.srt; omega)) HB.out
    have t3 := decide_eq_false q3
    by_cases q4 : 6 ≤ n.sort
    · have t4 := decide_eq_true q4
      go_wp2
      go_ret
      exact TestIs.no (fun hs => (by have := hs.srt; omega)) HB.out
    have t4 := decide_eq_false q4
    have Q := zzh (And.intro q1 (And.intro q2 (And.intro q3 q4)))
    clear q1 q2 q3 q4
    have h3 : (3 : Nat) = 3 := rfl
    clear h3
    go_wp2
    go_loopg [55] 3 (fun g v wr => wr = w1 ∧ ∃ j : Nat, j + g = 3 ∧ v = .int .i64 j ∧ ∀ k, k < j → ArgIs n a k)
    case atStart => exact ⟨rfl, 0, rfl, rfl, fun k hk => absurd hk (Nat.not_lt_zero _)⟩
    case round =>
      obtain ⟨rfl, j, hj, rfl, hinv⟩ := hrel
      have HI := zzh hinv
      clear hinv
      cases gk with
      | succ k =>
        have hc : j = 0 ∨ j = 1 ∨ j = 2 := by omega
        rcases hc with rfl | rfl | rfl
        · by_cases x : (0 : Int) < n.len
          · have t5 := decide_eq_true x
            have t6 : decide (n.len ≤ 0) = false := decide_eq_false (by omega)
            by_cases y : n.a0 < 0
            · have t7 := decide_eq_true y
              go_wp2
              go_ret
              exact TestIs.no (fun hs => (by have := (hs.args 0 (by omega)).1 x; simp [Nd.arg] at this; omega)) HB.out
            have t7 := decide_eq_false y
            by_cases z : a ≤ n.a0
            · have t8 := decide_eq_true z
              go_wp2
              go_ret
              exact TestIs.no (fun hs => (by have := (hs.args 0 (by omega)).1 x; simp [Nd.arg] at this; omega)) HB.out
            have t8 := decide_eq_false z
            have AN : Hid (ArgIs n a 0) := zzh ⟨fun _ => by simp [Nd.arg]; omega, fun h => absurd x (by omega)⟩
            clear x y z
            go_wp2
            go_roundg k
            case measure => omega
            case rel => exact ⟨rfl, 1, by omega, by go_num, fun i hi => by rcases Nat.lt_succ_iff_lt_or_eq.1 hi with hi | rfl; exact HI.out i hi; exact AN.out⟩
          · have t5 := decide_eq_false x
            have t6 : decide (n.len ≤ 0) = true := decide_eq_true (by omega)
            by_cases y : n.a0 = 0
            · have t7 : (n.a0 != 0) = false := by simp [y]
              have AN : Hid (ArgIs n a 0) := zzh ⟨fun h => absurd h x, fun _ => by simp [Nd.arg]; exact y⟩
              clear x y
              go_wp2
              go_roundg k
              case measure => omega
              case rel => exact ⟨rfl, 1, by omega, by go_num, fun i hi => by rcases Nat.lt_succ_iff_lt_or_eq.1 hi with hi | rfl; exact HI.out i hi; exact AN.out⟩
            · have t7 : (n.a0 != 0) = true := by simp [y]
              go_wp2
              go_ret
              exact TestIs.no (fun hs => y (by have := (hs.args 0 (by omega)).2 (by omega); simpa [Nd.arg] using this)) HB.out
        · by_cases x : (1 : Int) < n.len
          · have t5 := decide_eq_true x
            have t6 : decide (n.len ≤ 1) = false := decide_eq_false (by omega)
            by_cases y : n.a1 < 0
            · have t7 := decide_eq_true y
              go_wp2
              go_ret
              exact TestIs.no (fun hs => (by have := (hs.args 1 (by omega)).1 x; simp [Nd.arg] at this; omega)) HB.out
            have t7 := decide_eq_false y
            by_cases z : a ≤ n.a1
            · have t8 := decide_eq_true z
              go_wp2
              go_ret
              exact TestIs.no (fun hs => (by have := (hs.args 1 (by omega)).1 x; simp [Nd.arg] at this; omega)) HB.out
            have t8 := decide_eq_false z
            have AN : Hid (ArgIs n a 1) := zzh ⟨fun _ => by simp [Nd.arg]; omega, fun h => absurd x (by omega)⟩
            clear x y z
            go_wp2
            go_roundg k
            case measure => omega
            case rel => exact ⟨rfl, 2, by omega, by go_num, fun i hi => by rcases Nat.lt_succ_iff_lt_or_eq.1 hi with hi | rfl; exact HI.out i hi; exact AN.out⟩
          · have t5 := decide_eq_false x
            have t6 : decide (n.len ≤ 1) = true := decide_eq_true (by omega)
            by_cases y : n.a1 = 0
            · have t7 : (n.a1 != 0) = false := by simp [y]
              have AN : Hid (ArgIs n a 1) := zzh ⟨fun h => absurd h x, fun _ => by simp [Nd.arg]; exact y⟩
              clear x y
              go_wp2
              go_roundg k
              case measure => omega
              case rel => exact ⟨rfl, 2, by omega, by go_num, fun i hi => by rcases Nat.lt_succ_iff_lt_or_eq.1 hi with hi | rfl; exact HI.out i hi; exact AN.out⟩
            · have t7 : (n.a1 != 0) = true := by simp [y]
              go_wp2
              go_ret
              exact TestIs.no (fun hs => y (by have := (hs.args 1 (by omega)).2 (by omega); simpa [Nd.arg] using this)) HB.out
        · by_cases x : (2 : Int) < n.len
          · have t5 := decide_eq_true x
            have t6 : decide (n.len ≤ 2) = false := decide_eq_false (by omega)
            by_cases y : n.a2 < 0
            · have t7 := decide_eq_true y
              go_wp2
              go_ret
              exact TestIs.no (fun hs => (by have := (hs.args 2 (by omega)).1 x; simp [Nd.arg] at this; omega)) HB.out
            have t7 := decide_eq_false y
            by_cases z : a ≤ n.a2
            · have t8 := decide_eq_true z
              go_wp2
              go_ret
              exact TestIs.no (fun hs => (by have := (hs.args 2 (by omega)).1 x; simp [Nd.arg] at this; omega)) HB.out
            have t8 := decide_eq_false z
            have AN : Hid (ArgIs n a 2) := zzh ⟨fun _ => by simp [Nd.arg]; omega, fun h => absurd x (by omega)⟩
            clear x y z
            go_wp2
            go_roundg k
            case measure => omega
            case rel => exact ⟨rfl, 3, by omega, by go_num, fun i hi => by rcases Nat.lt_succ_iff_lt_or_eq.1 hi with hi | rfl; exact HI.out i hi; exact AN.out⟩
          · have t5 := decide_eq_false x
            have t6 : decide (n.len ≤ 2) = true := decide_eq_true (by omega)
            by_cases y : n.a2 = 0
            · have t7 : (n.a2 != 0) = false := by simp [y]
              have AN : Hid (ArgIs n a 2) := zzh ⟨fun h => absurd h x, fun _ => by simp [Nd.arg]; exact y⟩
              clear x y
              go_wp2
              go_roundg k
              case measure => omega
              case rel => exact ⟨rfl, 3, by omega, by go_num, fun i hi => by rcases Nat.lt_succ_iff_lt_or_eq.1 hi with hi | rfl; exact HI.out i hi; exact AN.out⟩
            · have t7 : (n.a2 != 0) = true := by simp [y]
              go_wp2
              go_ret
              exact TestIs.no (fun hs => y (by have := (hs.args 2 (by omega)).2 (by omega); simpa [Nd.arg] using this)) HB.out
      | zero =>
        obtain rfl : j = 3 := by omega
        by_cases q5 : n.fn < 0
        · have t5 := decide_eq_true q5
          go_wp2
          go_ret
          exact TestIs.no (fun hs => (by have := hs.fun_; omega)) HB.out
        have t5 := decide_eq_false q5
        by_cases q6 : 12 ≤ n.fn
        · have t6 := decide_eq_true q6
          go_wp2
          go_ret
          exact TestIs.no (fun hs => (by have := hs.fun_; omega)) HB.out
        have t6 := decide_eq_false q6
        have q7 : (0 < n.fn → n.op = 13) ∨ (0 < n.fn ∧ n.op ≠ 13) := by by_cases u : 0 < n.fn; by_cases v : n.op = 13; exact .inl fun _ => v; exact .inr ⟨u, v⟩; exact .inl fun h => absurd h u
        rcases q7 with q7 | ⟨q7, q8⟩
        rotate_left
        · have t7 := decide_eq_true q7
          have t8 : (n.op != 13) = true := by simp [q8]
          go_wp2
          go_ret
          exact TestIs.no (fun hs => q8 (hs.fun_.2.2 q7)) HB.out
        have t78 : (decide (0 < n.fn) = false) ∨ (decide (0 < n.fn) = true ∧ (n.op != 13) = false) := by by_cases u : 0 < n.fn; exact .inr ⟨decide_eq_true u, by simp [q7 u]⟩; exact .inl (decide_eq_false u)
        have Q7 := zzh (And.intro q5 (And.intro q6 q7))
        clear q5 q6 q7
        have HS : Hid ((if n.op = 10 ∨ n.op = 11 ∨ n.op = 12 then numB n.num = true else n.num = 0) → Stands n a) := zzh fun h => Stands.ofArgs HAr.out (by have := Q.out; omega) (by have := Q.out; omega) (by have := Q.out; omega) (by have := Q.out; omega) (fun i hi => HI.out i hi) (by have := Q7.out; omega) (by have := Q7.out; omega) Q7.out.2.2 h
        have KN := zzh (num_ok n.num)
        rcases t78 with t7 | ⟨t7, t8⟩
        · by_cases o1 : n.op = 10 ∨ n.op = 11 ∨ n.op = 12
          · obtain ⟨nb, hnb⟩ : ∃ nb, numB n.num = nb := ⟨_, rfl⟩
            rw [hnb] at KN
            have HNB := zzh hnb
            have HO := zzh o1
            clear hnb
            have fin : ∀ w2, w2 = wr → TestIs (Stands n a) w (.returned (.bool nb)) w2 := fun w2 e2 => by
              subst e2
              cases nb with
              | true => exact TestIs.yes (HS.out (by rw [if_pos HO.out]; exact HNB.out)) HB.out
              | false => exact TestIs.no (fun hs => by have := hs.numOk; rw [if_pos HO.out, HNB.out] at this; cases this) HB.out
            have FIN := zzh fin
            clear fin
            by_cases p0 : n.op = 10
            · have u0 : (n.op == 10) = true := by simp [p0]
              clear p0 o1
              go_wp2_with (go_at_call 125; refine (KN.out _).mono ?_; rintro e w2 ⟨rfl, rfl⟩)
              go_ret
              exact FIN.out _ rfl
            have u0 : (n.op == 10) = false := by simp [p0]
            by_cases p1 : n.op = 11
            · have u1 : (n.op == 11) = true := by simp [p1]
              clear p1 o1
              go_wp2_with (go_at_call 125; refine (KN.out _).mono ?_; rintro e w2 ⟨rfl, rfl⟩)
              go_ret
              exact FIN.out _ rfl
            have u1 : (n.op == 11) = false := by simp [p1]
            by_cases p2 : n.op = 12
            · have u2 : (n.op == 12) = true := by simp [p2]
              clear p2 o1
              go_wp2_with (go_at_call 125; refine (KN.out _).mono ?_; rintro e w2 ⟨rfl, rfl⟩)
              go_ret
              exact FIN.out _ rfl
            have u2 : (n.op == 12) = false := by simp [p2]
            exact absurd o1 (by omega)
          · have u0 : (n.op == 10) = false := by simp; omega
            have u1 : (n.op == 11) = false := by simp; omega
            have u2 : (n.op == 12) = false := by simp; omega
            have HO := zzh o1
            clear o1
            by_cases v : n.num = 0
            · have u3 : (n.num == 0) = true := by simp [v]
              have HV := zzh v
              clear v
              go_wp2
              go_ret
              exact TestIs.yes (HS.out (by rw [if_neg HO.out]; exact HV.out)) HB.out
            · have u3 : (n.num == 0) = false := by simp [v]
              have HV := zzh v
              clear v
              go_wp2
              go_ret
              exact TestIs.no (fun hs => by have := hs.numOk; rw [if_neg HO.out] at this; exact HV.out this) HB.out
        · by_cases o1 : n.op = 10 ∨ n.op = 11 ∨ n.op = 12
          · obtain ⟨nb, hnb⟩ : ∃ nb, numB n.num = nb := ⟨_, rfl⟩
            rw [hnb] at KN
            have HNB := zzh hnb
            have HO := zzh o1
            clear hnb
            have fin : ∀ w2, w2 = wr → TestIs (Stands n a) w (.returned (.bool nb)) w2 := fun w2 e2 => by
              subst e2
              cases nb with
              | true => exact TestIs.yes (HS.out (by rw [if_pos HO.out]; exact HNB.out)) HB.out
              | false => exact TestIs.no (fun hs => by have := hs.numOk; rw [if_pos HO.out, HNB.out] at this; cases this) HB.out
            have FIN := zzh fin
            clear fin
            by_cases p0 : n.op = 10
            · have u0 : (n.op == 10) = true := by simp [p0]
              clear p0 o1
              go_wp2_with (go_at_call 125; refine (KN.out _).mono ?_; rintro e w2 ⟨rfl, rfl⟩)
              go_ret
              exact FIN.out _ rfl
            have u0 : (n.op == 10) = false := by simp [p0]
            by_cases p1 : n.op = 11
            · have u1 : (n.op == 11) = true := by simp [p1]
              clear p1 o1
              go_wp2_with (go_at_call 125; refine (KN.out _).mono ?_; rintro e w2 ⟨rfl, rfl⟩)
              go_ret
              exact FIN.out _ rfl
            have u1 : (n.op == 11) = false := by simp [p1]
            by_cases p2 : n.op = 12
            · have u2 : (n.op == 12) = true := by simp [p2]
              clear p2 o1
              go_wp2_with (go_at_call 125; refine (KN.out _).mono ?_; rintro e w2 ⟨rfl, rfl⟩)
              go_ret
              exact FIN.out _ rfl
            have u2 : (n.op == 12) = false := by simp [p2]
            exact absurd o1 (by omega)
          · have u0 : (n.op == 10) = false := by simp; omega
            have u1 : (n.op == 11) = false := by simp; omega
            have u2 : (n.op == 12) = false := by simp; omega
            have HO := zzh o1
            clear o1
            by_cases v : n.num = 0
            · have u3 : (n.num == 0) = true := by simp [v]
              have HV := zzh v
              clear v
              go_wp2
              go_ret
              exact TestIs.yes (HS.out (by rw [if_neg HO.out]; exact HV.out)) HB.out
            · have u3 : (n.num == 0) = false := by simp [v]
              have HV := zzh v
              clear v
              go_wp2
              go_ret
              exact TestIs.no (fun hs => by have := hs.numOk; rw [if_neg HO.out] at this; exact HV.out this) HB.out
structure Row (w : World) (A : Option Addr) (zs : List Int) : Prop where
  len : zs.length ≤ 100000
  at_ : zs.length = 0 ∨ ∃ b off, A = some ⟨b, off, none⟩ ∧ b < w.heap.size ∧ ∀ i (h : i < zs.length), w.cell? ⟨b, off + i, none⟩ = some (.int .i64 zs[i])
theorem Row.below {w w' : World} {A : Option Addr} {zs : List Int} (h : Row w A zs) (hb : Below w.heap.size w w') : Row w' A zs := by
  refine ⟨h.len, h.at_.imp id fun ⟨b, off, h1, h2, h3⟩ => ⟨b, off, h1, Nat.lt_of_lt_of_le h2 hb.size, fun i hi => ?_⟩⟩
  rw [hb.cell (p := ⟨b, off + i, none⟩) h2]
  exact h3 i hi
theorem int_info : (Tryz.prog.info? 3).map (fun i => (i.zero, i.size, i.bytes)) = some (some (.int .i64 0), 1, 8) := by kernel_rfl
theorem wp_grow_int {o : Oper} {a : Act} {K : Act → World → Prop} {Q : Exit → Act → World → Prop} (w : World) (s x : Operand)
    (ho : o.op = .call { callee := .builtin .append, args := #[s, x], argTypes := #[27, 27] })
    (b : Nat) (zs : List Int) (hs : a.eval s = .slice (some ⟨b, 0, none⟩) zs.length zs.length) (hz : Blk w b 3 (zs.map (Value.int .i64)).toArray) (hp : 0 < zs.length) (hl : zs.length ≤ 1000)
    (g : Nat) (n : Int) (hx : a.eval x = .slice (some ⟨g, 0, none⟩) 1 1) (hg : Blk w g 3 #[.int .i64 n])
    (h : ∀ A' c' w', Row w' A' (zs ++ [n]) → (zs ++ [n]).length ≤ c' → Below w.heap.size w w' → K (a.put o.dst (.slice A' (zs ++ [n]).length c')) w') : o.wp Tryz.prog a w K Q := by
  obtain ⟨i0, hi, hz0, hz1, hz2⟩ := info_parts int_info
  have addp : ∀ c j, (⟨c, 0, none⟩ : Addr).add j = ⟨c, j, none⟩ := fun c j => by unfold Addr.add; split <;> simp_all
  have hr := run_append_grow (P := Tryz.prog) w 27 o.type 3 i0 (.int .i64 0) Tryz.underlying27 hi hz0 ⟨b, 0, none⟩ zs.length zs.length (zs.map (Value.int .i64)) (by rw [List.length_map, hz1]; omega) (fun j v hj => by rw [addp, hz.cell, zzg]; exact hj) ⟨g, 0, none⟩ 1 1 [.int .i64 n] (by rw [hz1]; rfl) (fun j v hj => by rw [addp, hg.cell, zzg]; exact hj) (by omega) (by omega) (by
    have := nextslicecap_le (need := zs.length + 1) (old := zs.length) (by omega)
    rw [hz2]
    omega)
  have hge := grownCap_ge w (zs.length + 1) zs.length 3
  generalize grownCap w (zs.length + 1) zs.length 3 = gc at *
  have hlen : (zs ++ [n]).length = zs.length + 1 := by simp
  have hblk : Blk (w.drew.alloc (.cells ((zs.map (Value.int .i64)).toArray ++ [Value.int .i64 n].toArray ++ Builtin.zeroCells (Value.int .i64 0).cells (gc - (zs.length + 1))) 3)) w.heap.size 3 ((zs.map (Value.int .i64)).toArray ++ [Value.int .i64 n].toArray ++ Builtin.zeroCells (Value.int .i64 0).cells (gc - (zs.length + 1))) := Blk.new w.drew _ _
  have h1 := h (some ⟨w.heap.size, 0, none⟩) gc _ ⟨by rw [hlen]; omega, .inr ⟨w.heap.size, 0, rfl, hblk.lt, fun i hi' => ?_⟩⟩ (by rw [hlen]; exact hge) ((below_drewN (Below.refl _ w) 1).alloc (Nat.le_refl _) _)
  · unfold Oper.wp execOp
    simp only [ho, resolve, invoke, builtin, Sem.run_bind, Sem.run_pure, Result.andThen_ok, List.map_toArray, List.map_cons, List.map_nil, hs, hx]
    rw [hr]
    rw [hlen] at h1
    exact h1
  · rw [Nat.zero_add, hblk.cell, ← Array.getElem?_toList]
    simp only [Array.toList_append]
    rw [List.getElem?_append_left (by simp; omega)]
    have e : zs.map (Value.int .i64) ++ [Value.int .i64 n] = (zs ++ [n]).map (Value.int .i64) := by simp
    rw [e, List.getElem?_map, List.getElem?_eq_getElem hi']
    rfl
theorem list_grow_int {ops : Array Oper} {rest : List Oper} {o : Oper} {a : Act} {Q : Exit → Act → World → Prop} (w : World) (hw : Region.wanted o (yielded ops a.tmps) = true) (s x : Operand)
    (ho : o.op = .call { callee := .builtin .append, args := #[s, x], argTypes := #[27, 27] })
    (b : Nat) (zs : List Int) (hs : a.eval s = .slice (some ⟨b, 0, none⟩) zs.length zs.length) (hz : Blk w b 3 (zs.map (Value.int .i64)).toArray) (hp : 0 < zs.length) (hl : zs.length ≤ 1000)
    (g : Nat) (n : Int) (hx : a.eval x = .slice (some ⟨g, 0, none⟩) 1 1) (hg : Blk w g 3 #[.int .i64 n])
    (h : ∀ A' c' w', Row w' A' (zs ++ [n]) → (zs ++ [n]).length ≤ c' → Below w.heap.size w w' → wpList Tryz.prog ops Q rest (a.put o.dst (.slice A' (zs ++ [n]).length c')) w') : wpList Tryz.prog ops Q (o :: rest) a w :=
  wpList_step fun K hK => by
    rw [if_pos hw]
    exact wp_grow_int w s x ho b zs hs hz hp hl g n hx hg fun A' c' w' h1 h2 h3 => hK _ _ (h A' c' w' h1 h2 h3)
end Go.Proofs.YtlipnnibagidiaaGreat

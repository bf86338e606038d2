/- The reference: whether a node may stand at a place. -/
import Derived.Test.YtkapbdjobfbhhaaGreatEuE
namespace Go.Proofs.YtkapbdjobfbhhaaGreat
open Go.RowKit Go.Lib
theorem arity_rel (op : Int) : (arityM op = none ∧ arity05 op = -2) ∨ (arityM op = some (0, 3) ∧ arity05 op = -1) ∨ ∃ k, 0 ≤ k ∧ k ≤ 3 ∧ arityM op = some (k, k) ∧ arity05 op = k := by
  unfold arityM arity05
  by_cases h0 : op = 0 ∨ op = 10
  · rw [if_pos h0, if_pos h0]; exact .inr (.inr ⟨0, by decide, by decide, rfl, rfl⟩)
  rw [if_neg h0, if_neg h0]
  by_cases h1 : op = 1 ∨ op = 11
  · rw [if_pos h1, if_pos h1]; exact .inr (.inr ⟨1, by decide, by decide, rfl, rfl⟩)
  rw [if_neg h1, if_neg h1]
  by_cases h2 : op = 7
  · rw [if_pos h2, if_pos h2]; exact .inr (.inr ⟨3, by decide, by decide, rfl, rfl⟩)
  rw [if_neg h2, if_neg h2]
  by_cases h3 : op = 13
  · rw [if_pos h3, if_pos h3]; exact .inr (.inl ⟨rfl, rfl⟩)
  rw [if_neg h3, if_neg h3]
  by_cases h4 : 2 ≤ op ∧ op ≤ 12
  · rw [if_pos h4, if_pos h4]; exact .inr (.inr ⟨2, by decide, by decide, rfl, rfl⟩)
  · rw [if_neg h4, if_neg h4]; exact .inl ⟨rfl, rfl⟩
set_option maxRecDepth 100000 in
set_option maxHeartbeats 4000000 in
theorem rstands_ok (n : Nd) (hw : NdWf n) (a : Int) (w : World) :
    Calls Tryz.prog 30 #[.agg #[.int .i8 n.op, .int .i8 n.len, .int .i64 n.a0, .int .i64 n.a1, .int .i64 n.a2, .int .i64 n.sort, .int .i64 n.fn, .int .i64 n.num], .int .i64 a] w (TestIs (Stands n a) w) := by
  have HB := Lib.hid (show Below w.heap.size w (w.alloc (.cells #[.int .i8 n.op, .int .i8 n.len, .int .i64 n.a0, .int .i64 n.a1, .int .i64 n.a2, .int .i64 n.sort, .int .i64 n.fn, .int .i64 n.num] 48)) from (Below.refl _ w).alloc (Nat.le_refl _) _)
  have r0 := hw.op
  have r1 := hw.len
  clear hw
  have KA := Lib.hid (arity5_ok n.op)
  rcases arity_rel n.op with ⟨har, h5⟩ | har
  · rw [h5] at KA
    have HAr := Lib.hid har
    clear har h5
    go_enter Tryz.func30, Tryz.ntmps30
    go_wp2_with (go_at_call 58; refine (KA.out _).mono ?_; rintro e w1 ⟨rfl, rfl⟩)
    go_ret
    exact TestIs.no (fun hs => by obtain ⟨lo, hi, e, _⟩ := hs.ar; rw [HAr.out] at e; cases e) HB.out
  obtain ⟨k, lo, hi, har, h5, hk⟩ : ∃ k lo hi, arityM n.op = some (lo, hi) ∧ arity05 n.op = k ∧ ((k = -1 ∧ lo = 0 ∧ hi = 3) ∨ (0 ≤ k ∧ k ≤ 3 ∧ lo = k ∧ hi = k)) := by
    rcases har with ⟨h1, h2⟩ | ⟨k, h1, h2, h3, h4⟩
    · exact ⟨_, _, _, h1, h2, .inl ⟨rfl, rfl, rfl⟩⟩
    · exact ⟨_, _, _, h3, h4, .inr ⟨h1, h2, rfl, rfl⟩⟩
  have HAr := Lib.hid har
  rw [h5] at KA
  have k0 : (k == -2) = false := by simp; omega
  by_cases hfit : lo ≤ n.len ∧ n.len ≤ hi
  rotate_left
  · have HN : Hid (¬ Stands n a) := Lib.hid fun hs => by
      obtain ⟨lo2, hi2, e, e1, e2⟩ := hs.ar
      rw [har] at e
      injection e with e
      injection e with e3 e4
      omega
    clear har h5
    by_cases hk0 : 0 ≤ k
    · have k1 : decide (0 ≤ k) = true := decide_eq_true hk0
      have k2 : (n.len != k) = true := by simp; omega
      clear hfit hk
      go_enter Tryz.func30, Tryz.ntmps30
      go_wp2_with (go_at_call 58; refine (KA.out _).mono ?_; rintro e w1 ⟨rfl, rfl⟩)
      go_ret
      exact TestIs.no HN.out HB.out
    · have k1 : decide (0 ≤ k) = false := decide_eq_false hk0
      by_cases hl : n.len < 0
      · have k2 := decide_eq_true hl
        clear hfit hk hl
        go_enter Tryz.func30, Tryz.ntmps30
        go_wp2_with (go_at_call 58; refine (KA.out _).mono ?_; rintro e w1 ⟨rfl, rfl⟩)
        go_ret
        exact TestIs.no HN.out HB.out
      · have k2 := decide_eq_false hl
        have k3 : decide (3 < n.len) = true := decide_eq_true (by omega)
        clear hfit hk hl
        go_enter Tryz.func30, Tryz.ntmps30
        go_wp2_with (go_at_call 58; refine (KA.out _).mono ?_; rintro e w1 ⟨rfl, rfl⟩)
        go_ret
        exact TestIs.no HN.out HB.out
  have k2 := decide_eq_false (show ¬ n.len < 0 by omega)
  have k3 : decide (3 < n.len) = false := decide_eq_false (by omega)
  have k1 : (decide (0 ≤ k) = false) ∨ (decide (0 ≤ k) = true ∧ (n.len != k) = false) := by
    by_cases hk0 : 0 ≤ k
    · exact .inr ⟨decide_eq_true hk0, by simp; omega⟩
    · exact .inl (decide_eq_false hk0)
  have HF := Lib.hid hfit
  have HBX : Hid (Blk (w.alloc (.cells #[.int .i8 n.op, .int .i8 n.len, .int .i64 n.a0, .int .i64 n.a1, .int .i64 n.a2, .int .i64 n.sort, .int .i64 n.fn, .int .i64 n.num] 48)) w.heap.size 48 (nodeCells n).toArray) := Lib.hid (Blk.new w _ _)
  clear hfit har h5 hk
  rcases k1 with k1 | ⟨k1, k4⟩
  · go_enter Tryz.func30, Tryz.ntmps30
    go_wp2_with fail
    refine (KA.out _).mono ?_
    rintro e w1 ⟨rfl, rfl⟩
    have c0 := HBX.out.cell 0
    have c1 := HBX.out.cell 1
    have c2 := HBX.out.cell 2
    have c3 := HBX.out.cell 3
    have c4 := HBX.out.cell 4
    have c5 := HBX.out.cell 5
    have c6 := HBX.out.cell 6
    have c7 := HBX.out.cell 7
    simp only [nodeCells, List.getElem?_toArray, List.getElem?_cons_zero, List.getElem?_cons_succ] at c0 c1 c2 c3 c4 c5 c6 c7
    have hlt := HBX.out.lt
    go_upto_region 4 with (fail)
    go_wp2
    go_loopg [6] 3 (fun g v wr => wr = w.alloc (.cells #[.int .i8 n.op, .int .i8 n.len, .int .i64 n.a0, .int .i64 n.a1, .int .i64 n.a2, .int .i64 n.sort, .int .i64 n.fn, .int .i64 n.num] 48) ∧ ∃ j : Nat, j + g = 3 ∧ v = .int .i64 j ∧ ∀ k, k < j → ArgIs n a k)
    case atStart => exact ⟨rfl, 0, rfl, rfl, fun k hk => absurd hk (Nat.not_lt_zero _)⟩
    case round =>
      obtain ⟨rfl, j, hj, rfl, hinv⟩ := hrel
      have HI := Lib.hid hinv
      clear hinv
      cases gk with
      | succ gk =>
        have hc : j = 0 ∨ j = 1 ∨ j = 2 := by omega
        rcases hc with rfl | rfl | rfl
        · by_cases x : (0 : Int) < n.len
          · have t5 := decide_eq_true x
            have t6 : decide (n.len ≤ 0) = false := decide_eq_false (by omega)
            by_cases y : n.a0 < 0
            · have t7 := decide_eq_true y
              go_wp2
              go_ret
              exact TestIs.no (fun hs => (by have := (hs.args 0 (by omega)).1 x; simp [Nd.arg] at this; omega)) HB.out
            have t7 := decide_eq_false y
            by_cases z : a ≤ n.a0
            · have t8 := decide_eq_true z
              go_wp2
              go_ret
              exact TestIs.no (fun hs => (by have := (hs.args 0 (by omega)).1 x; simp [Nd.arg] at this; omega)) HB.out
            have t8 := decide_eq_false z
            have AN : Hid (ArgIs n a 0) := Lib.hid ⟨fun _ => by simp [Nd.arg]; omega, fun h => absurd x (by omega)⟩
            clear x y z
            go_wp2
            go_roundg gk
            case measure => omega
            case rel => exact ⟨rfl, 1, by omega, by go_num, fun i hi => by rcases Nat.lt_succ_iff_lt_or_eq.1 hi with hi | rfl; exact HI.out i hi; exact AN.out⟩
          · have t5 := decide_eq_false x
            have t6 : decide (n.len ≤ 0) = true := decide_eq_true (by omega)
            by_cases y : n.a0 = 0
            · have t7 : (n.a0 != 0) = false := by simp [y]
              have AN : Hid (ArgIs n a 0) := Lib.hid ⟨fun h => absurd h x, fun _ => by simp [Nd.arg]; exact y⟩
              clear x y
              go_wp2
              go_roundg gk
              case measure => omega
              case rel => exact ⟨rfl, 1, by omega, by go_num, fun i hi => by rcases Nat.lt_succ_iff_lt_or_eq.1 hi with hi | rfl; exact HI.out i hi; exact AN.out⟩
            · have t7 : (n.a0 != 0) = true := by simp [y]
              go_wp2
              go_ret
              exact TestIs.no (fun hs => y (by have := (hs.args 0 (by omega)).2 (by omega); simpa [Nd.arg] using this)) HB.out
        · by_cases x : (1 : Int) < n.len
          · have t5 := decide_eq_true x
            have t6 : decide (n.len ≤ 1) = false := decide_eq_false (by omega)
            by_cases y : n.a1 < 0
            · have t7 := decide_eq_true y
              go_wp2
              go_ret
              exact TestIs.no (fun hs => (by have := (hs.args 1 (by omega)).1 x; simp [Nd.arg] at this; omega)) HB.out
            have t7 := decide_eq_false y
            by_cases z : a ≤ n.a1
            · have t8 := decide_eq_true z
              go_wp2
              go_ret
              exact TestIs.no (fun hs => (by have := (hs.args 1 (by omega)).1 x; simp [Nd.arg] at this; omega)) HB.out
            have t8 := decide_eq_false z
            have AN : Hid (ArgIs n a 1) := Lib.hid ⟨fun _ => by simp [Nd.arg]; omega, fun h => absurd x (by omega)⟩
            clear x y z
            go_wp2
            go_roundg gk
            case measure => omega
            case rel => exact ⟨rfl, 2, by omega, by go_num, fun i hi => by rcases Nat.lt_succ_iff_lt_or_eq.1 hi with hi | rfl; exact HI.out i hi; exact AN.out⟩
          · have t5 := decide_eq_false x
            have t6 : decide (n.len ≤ 1) = true := decide_eq_true (by omega)
            by_cases y : n.a1 = 0
            · have t7 : (n.a1 != 0) = false := by simp [y]
              have AN : Hid (ArgIs n a 1) := Lib.hid ⟨fun h => absurd h x, fun _ => by simp [Nd.arg]; exact y⟩
              clear x y
              go_wp2
              go_roundg gk
              case measure => omega
              case rel => exact ⟨rfl, 2, by omega, by go_num, fun i hi => by rcases Nat.lt_succ_iff_lt_or_eq.1 hi with hi | rfl; exact HI.out i hi; exact AN.out⟩
            · have t7 : (n.a1 != 0) = true := by simp [y]
              go_wp2
              go_ret
              exact TestIs.no (fun hs => y (by have := (hs.args 1 (by omega)).2 (by omega); simpa [Nd.arg] using this)) HB.out
        · by_cases x : (2 : Int) < n.len
          · have t5 := decide_eq_true x
            have t6 : decide (n.len ≤ 2) = false := decide_eq_false (by omega)
            by_cases y : n.a2 < 0
            · have t7 := decide_eq_true y
              go_wp2
              go_ret
              exact TestIs.no (fun hs => (by have := (hs.args 2 (by omega)).1 x; simp [Nd.arg] at this; omega)) HB.out
            have t7 := decide_eq_false y
            by_cases z : a ≤ n.a2
            · have t8 := decide_eq_true z
              go_wp2
              go_ret
              exact TestIs.no (fun hs => (by have := (hs.args 2 (by omega)).1 x; simp [Nd.arg] at this; omega)) HB.out
            have t8 := decide_eq_false z
            have AN : Hid (ArgIs n a 2) := Lib.hid ⟨fun _ => by simp [Nd.arg]; omega, fun h => absurd x (by omega)⟩
            clear x y z
            go_wp2
            go_roundg gk
            case measure => omega
            case rel => exact ⟨rfl, 3, by omega, by go_num, fun i hi => by rcases Nat.lt_succ_iff_lt_or_eq.1 hi with hi | rfl; exact HI.out i hi; exact AN.out⟩
          · have t5 := decide_eq_false x
            have t6 : decide (n.len ≤ 2) = true := decide_eq_true (by omega)
            by_cases y : n.a2 = 0
            · have t7 : (n.a2 != 0) = false := by simp [y]
              have AN : Hid (ArgIs n a 2) := Lib.hid ⟨fun h => absurd h x, fun _ => by simp [Nd.arg]; exact y⟩
              clear x y
              go_wp2
              go_roundg gk
              case measure => omega
              case rel => exact ⟨rfl, 3, by omega, by go_num, fun i hi => by rcases Nat.lt_succ_iff_lt_or_eq.1 hi with hi | rfl; exact HI.out i hi; exact AN.out⟩
            · have t7 : (n.a2 != 0) = true := by simp [y]
              go_wp2
              go_ret
              exact TestIs.no (fun hs => y (by have := (hs.args 2 (by omega)).2 (by omega); simpa [Nd.arg] using this)) HB.out
      | zero =>
        obtain rfl : j = 3 := by omega
        by_cases q3 : n.sort < 0
        · have t3 := decide_eq_true q3
          go_wp2
          go_ret
          exact TestIs.no (fun hs => (by have := hs.srt; omega)) HB.out
        have t3 := decide_eq_false q3
        by_cases q4 : 6 ≤ n.sort
        · have t4 := decide_eq_true q4
          go_wp2
          go_ret
          exact TestIs.no (fun hs => (by have := hs.srt; omega)) HB.out
        have t4 := decide_eq_false q4
        by_cases q5 : n.fn < 0
        · have t5 := decide_eq_true q5
          go_wp2
          go_ret
          exact TestIs.no (fun hs => (by have := hs.fun_; omega)) HB.out
        have t5 := decide_eq_false q5
        by_cases q6 : 12 ≤ n.fn
        · have t6 := decide_eq_true q6
          go_wp2
          go_ret
          exact TestIs.no (fun hs => (by have := hs.fun_; omega)) HB.out
        have t6 := decide_eq_false q6
        have q7 : n.op = 13 ∨ (n.op ≠ 13 ∧ n.fn = 0) ∨ (n.op ≠ 13 ∧ ¬ n.fn = 0) := by omega
        have t78 : ((n.op != 13) = false) ∨ ((n.op != 13) = true ∧ (n.fn != 0) = false) ∨ ((n.op != 13) = true ∧ (n.fn != 0) = true) := by rcases q7 with u | ⟨u, v⟩ | ⟨u, v⟩; exact .inl (by simp [u]); exact .inr (.inl ⟨by simp [u], by simp [v]⟩); exact .inr (.inr ⟨by simp [u], by simp [v]⟩)
        have q8 : (n.op != 13) = true → (n.fn != 0) = true → ¬ Stands n a := fun u v hs => by have := hs.fun_; simp at u v; omega
        have q9 : ((n.op != 13) = false ∨ (n.fn != 0) = false) → 0 < n.fn → n.op = 13 := fun u v => by rcases u with u | u <;> simp at u <;> omega
        have Q := Lib.hid (And.intro q3 (And.intro q4 (And.intro q5 q6)))
        have Q8 := Lib.hid q8
        have Q9 := Lib.hid q9
        clear q3 q4 q5 q6 q7 q8 q9
        have KN := Lib.hid (num5_ok n.num)
        rcases t78 with t7 | ⟨t7, t8⟩ | ⟨t7, t8⟩
        · have HS : Hid ((if n.op = 10 ∨ n.op = 11 ∨ n.op = 12 then numB n.num = true else n.num = 0) → Stands n a) := Lib.hid fun h => Stands.ofArgs HAr.out HF.out.1 HF.out.2 (by have := Q.out; omega) (by have := Q.out; omega) (fun i hi => HI.out i hi) (by have := Q.out; omega) (by have := Q.out; omega) (Q9.out (.inl t7)) h
          by_cases o1 : n.op = 10 ∨ n.op = 11 ∨ n.op = 12
          · obtain ⟨nb, hnb⟩ : ∃ nb, numB n.num = nb := ⟨_, rfl⟩
            rw [hnb] at KN
            have HNB := Lib.hid hnb
            have HO := Lib.hid o1
            clear hnb
            have fin : TestIs (Stands n a) w (.returned (.bool nb)) (w.alloc (.cells #[.int .i8 n.op, .int .i8 n.len, .int .i64 n.a0, .int .i64 n.a1, .int .i64 n.a2, .int .i64 n.sort, .int .i64 n.fn, .int .i64 n.num] 48)) := by
              cases nb with
              | true => exact TestIs.yes (HS.out (by rw [if_pos HO.out]; exact HNB.out)) HB.out
              | false => exact TestIs.no (fun hs => by have := hs.numOk; rw [if_pos HO.out, HNB.out] at this; cases this) HB.out
            have FIN := Lib.hid fin
            clear fin
            by_cases p0 : n.op = 10
            · have u0 : (n.op == 10) = true := by simp [p0]
              clear p0 o1
              go_wp2_with (go_at_call 59; refine (KN.out _).mono ?_; rintro e w2 ⟨rfl, rfl⟩)
              go_ret
              exact FIN.out
            have u0 : (n.op == 10) = false := by simp [p0]
            by_cases p1 : n.op = 11
            · have u1 : (n.op == 11) = true := by simp [p1]
              clear p1 o1
              go_wp2_with (go_at_call 59; refine (KN.out _).mono ?_; rintro e w2 ⟨rfl, rfl⟩)
              go_ret
              exact FIN.out
            have u1 : (n.op == 11) = false := by simp [p1]
            by_cases p2 : n.op = 12
            · have u2 : (n.op == 12) = true := by simp [p2]
              clear p2 o1
              go_wp2_with (go_at_call 59; refine (KN.out _).mono ?_; rintro e w2 ⟨rfl, rfl⟩)
              go_ret
              exact FIN.out
            have u2 : (n.op == 12) = false := by simp [p2]
            exact absurd o1 (by omega)
          · have u0 : (n.op == 10) = false := by simp; omega
            have u1 : (n.op == 11) = false := by simp; omega
            have u2 : (n.op == 12) = false := by simp; omega
            have HO := Lib.hid o1
            clear o1
            by_cases v : n.num = 0
            · have u3 : (n.num == 0) = true := by simp [v]
              have HV := Lib.hid v
              clear v
              go_wp2
              go_ret
              exact TestIs.yes (HS.out (by rw [if_neg HO.out]; exact HV.out)) HB.out
            · have u3 : (n.num == 0) = false := by simp [v]
              have HV := Lib.hid v
              clear v
              go_wp2
              go_ret
              exact TestIs.no (fun hs => by have := hs.numOk; rw [if_neg HO.out] at this; exact HV.out this) HB.out
        · have HS : Hid ((if n.op = 10 ∨ n.op = 11 ∨ n.op = 12 then numB n.num = true else n.num = 0) → Stands n a) := Lib.hid fun h => Stands.ofArgs HAr.out HF.out.1 HF.out.2 (by have := Q.out; omega) (by have := Q.out; omega) (fun i hi => HI.out i hi) (by have := Q.out; omega) (by have := Q.out; omega) (Q9.out (.inr t8)) h
          by_cases o1 : n.op = 10 ∨ n.op = 11 ∨ n.op = 12
          · obtain ⟨nb, hnb⟩ : ∃ nb, numB n.num = nb := ⟨_, rfl⟩
            rw [hnb] at KN
            have HNB := Lib.hid hnb
            have HO := Lib.hid o1
            clear hnb
            have fin : TestIs (Stands n a) w (.returned (.bool nb)) (w.alloc (.cells #[.int .i8 n.op, .int .i8 n.len, .int .i64 n.a0, .int .i64 n.a1, .int .i64 n.a2, .int .i64 n.sort, .int .i64 n.fn, .int .i64 n.num] 48)) := by
              cases nb with
              | true => exact TestIs.yes (HS.out (by rw [if_pos HO.out]; exact HNB.out)) HB.out
              | false => exact TestIs.no (fun hs => by have := hs.numOk; rw [if_pos HO.out, HNB.out] at this; cases this) HB.out
            have FIN := Lib.hid fin
            clear fin
            by_cases p0 : n.op = 10
            · have u0 : (n.op == 10) = true := by simp [p0]
              clear p0 o1
              go_wp2_with (go_at_call 59; refine (KN.out _).mono ?_; rintro e w2 ⟨rfl, rfl⟩)
              go_ret
              exact FIN.out
            have u0 : (n.op == 10) = false := by simp [p0]
            by_cases p1 : n.op = 11
            · have u1 : (n.op == 11) = true := by simp [p1]
              clear p1 o1
              go_wp2_with (go_at_call 59; refine (KN.out _).mono ?_; rintro e w2 ⟨rfl, rfl⟩)
              go_ret
              exact FIN.out
            have u1 : (n.op == 11) = false := by simp [p1]
            by_cases p2 : n.op = 12
            · have u2 : (n.op == 12) = true := by simp [p2]
              clear p2 o1
              go_wp2_with (go_at_call 59; refine (KN.out _).mono ?_; rintro e w2 ⟨rfl, rfl⟩)
              go_ret
              exact FIN.out
            have u2 : (n.op == 12) = false := by simp [p2]
            exact absurd o1 (by omega)
          · have u0 : (n.op == 10) = false := by simp; omega
            have u1 : (n.op == 11) = false := by simp; omega
            have u2 : (n.op == 12) = false := by simp; omega
            have HO := Lib.hid o1
            clear o1
            by_cases v : n.num = 0
            · have u3 : (n.num == 0) = true := by simp [v]
              have HV := Lib.hid v
              clear v
              go_wp2
              go_ret
              exact TestIs.yes (HS.out (by rw [if_neg HO.out]; exact HV.out)) HB.out
            · have u3 : (n.num == 0) = false := by simp [v]
              have HV := Lib.hid v
              clear v
              go_wp2
              go_ret
              exact TestIs.no (fun hs => by have := hs.numOk; rw [if_neg HO.out] at this; exact HV.out this) HB.out
        · have HN := Lib.hid (Q8.out t7 t8)
          go_wp2
          go_ret
          exact TestIs.no HN.out HB.out
  · go_enter Tryz.func30, Tryz.ntmps30
    go_wp2_with fail
    refine (KA.out _).mono ?_
    rintro e w1 ⟨rfl, rfl⟩
    have c0 := HBX.out.cell 0
    have c1 := HBX.out.cell 1
    have c2 := HBX.out.cell 2
    have c3 := HBX.out.cell 3
    have c4 := HBX.out.cell 4
    have c5 := HBX.out.cell 5
    have c6 := HBX.out.cell 6
    have c7 := HBX.out.cell 7
    simp only [nodeCells, List.getElem?_toArray, List.getElem?_cons_zero, List.getElem?_cons_succ] at c0 c1 c2 c3 c4 c5 c6 c7
    have hlt := HBX.out.lt
    go_upto_region 4 with (fail)
    go_wp2
    go_loopg [6] 3 (fun g v wr => wr = w.alloc (.cells #[.int .i8 n.op, .int .i8 n.len, .int .i64 n.a0, .int .i64 n.a1, .int .i64 n.a2, .int .i64 n.sort, .int .i64 n.fn, .int .i64 n.num] 48) ∧ ∃ j : Nat, j + g = 3 ∧ v = .int .i64 j ∧ ∀ k, k < j → ArgIs n a k)
    case atStart => exact ⟨rfl, 0, rfl, rfl, fun k hk => absurd hk (Nat.not_lt_zero _)⟩
    case round =>
      obtain ⟨rfl, j, hj, rfl, hinv⟩ := hrel
      have HI := Lib.hid hinv
      clear hinv
      cases gk with
      | succ gk =>
        have hc : j = 0 ∨ j = 1 ∨ j = 2 := by omega
        rcases hc with rfl | rfl | rfl
        · by_cases x : (0 : Int) < n.len
          · have t5 := decide_eq_true x
            have t6 : decide (n.len ≤ 0) = false := decide_eq_false (by omega)
            by_cases y : n.a0 < 0
            · have t7 := decide_eq_true y
              go_wp2
              go_ret
              exact TestIs.no (fun hs => (by have := (hs.args 0 (by omega)).1 x; simp [Nd.arg] at this; omega)) HB.out
            have t7 := decide_eq_false y
            by_cases z : a ≤ n.a0
            · have t8 := decide_eq_true z
              go_wp2
              go_ret
              exact TestIs.no (fun hs => (by have := (hs.args 0 (by omega)).1 x; simp [Nd.arg] at this; omega)) HB.out
            have t8 := decide_eq_false z
            have AN : Hid (ArgIs n a 0) := Lib.hid ⟨fun _ => by simp [Nd.arg]; omega, fun h => absurd x (by omega)⟩
            clear x y z
            go_wp2
            go_roundg gk
            case measure => omega
            case rel => exact ⟨rfl, 1, by omega, by go_num, fun i hi => by rcases Nat.lt_succ_iff_lt_or_eq.1 hi with hi | rfl; exact HI.out i hi; exact AN.out⟩
          · have t5 := decide_eq_false x
            have t6 : decide (n.len ≤ 0) = true := decide_eq_true (by omega)
            by_cases y : n.a0 = 0
            · have t7 : (n.a0 != 0) = false := by simp [y]
              have AN : Hid (ArgIs n a 0) := Lib.hid ⟨fun h => absurd h x, fun _ => by simp [Nd.arg]; exact y⟩
              clear x y
              go_wp2
              go_roundg gk
              case measure => omega
              case rel => exact ⟨rfl, 1, by omega, by go_num, fun i hi => by rcases Nat.lt_succ_iff_lt_or_eq.1 hi with hi | rfl; exact HI.out i hi; exact AN.out⟩
            · have t7 : (n.a0 != 0) = true := by simp [y]
              go_wp2
              go_ret
              exact TestIs.no (fun hs => y (by have := (hs.args 0 (by omega)).2 (by omega); simpa [Nd.arg] using this)) HB.out
        · by_cases x : (1 : Int) < n.len
          · have t5 := decide_eq_true x
            have t6 : decide (n.len ≤ 1) = false := decide_eq_false (by omega)
            by_cases y : n.a1 < 0
            · have t7 := decide_eq_true y
              go_wp2
              go_ret
              exact TestIs.no (fun hs => (by have := (hs.args 1 (by omega)).1 x; simp [Nd.arg] at this; omega)) HB.out
            have t7 := decide_eq_false y
            by_cases z : a ≤ n.a1
            · have t8 := decide_eq_true z
              go_wp2
              go_ret
              exact TestIs.no (fun hs => (by have := (hs.args 1 (by omega)).1 x; simp [Nd.arg] at this; omega)) HB.out
            have t8 := decide_eq_false z
            have AN : Hid (ArgIs n a 1) := Lib.hid ⟨fun _ => by simp [Nd.arg]; omega, fun h => absurd x (by omega)⟩
            clear x y z
            go_wp2
            go_roundg gk
            case measure => omega
            case rel => exact ⟨rfl, 2, by omega, by go_num, fun i hi => by rcases Nat.lt_succ_iff_lt_or_eq.1 hi with hi | rfl; exact HI.out i hi; exact AN.out⟩
          · have t5 := decide_eq_false x
            have t6 : decide (n.len ≤ 1) = true := decide_eq_true (by omega)
            by_cases y : n.a1 = 0
            · have t7 : (n.a1 != 0) = false := by simp [y]
              have AN : Hid (ArgIs n a 1) := Lib.hid ⟨fun h => absurd h x, fun _ => by simp [Nd.arg]; exact y⟩
              clear x y
              go_wp2
              go_roundg gk
              case measure => omega
              case rel => exact ⟨rfl, 2, by omega, by go_num, fun i hi => by rcases Nat.lt_succ_iff_lt_or_eq.1 hi with hi | rfl; exact HI.out i hi; exact AN.out⟩
            · have t7 : (n.a1 != 0) = true := by simp [y]
              go_wp2
              go_ret
              exact TestIs.no (fun hs => y (by have := (hs.args 1 (by omega)).2 (by omega); simpa [Nd.arg] using this)) HB.out
        · by_cases x : (2 : Int) < n.len
          · have t5 := decide_eq_true x
            have t6 : decide (n.len ≤ 2) = false := decide_eq_false (by omega)
            by_cases y : n.a2 < 0
            · have t7 := decide_eq_true y
              go_wp2
              go_ret
              exact TestIs.no (fun hs => (by have := (hs.args 2 (by omega)).1 x; simp [Nd.arg] at this; omega)) HB.out
            have t7 := decide_eq_false y
            by_cases z : a ≤ n.a2
            · have t8 := decide_eq_true z
              go_wp2
              go_ret
              exact TestIs.no (fun hs => (by have := (hs.args 2 (by omega)).1 x; simp [Nd.arg] at this; omega)) HB.out
            have t8 := decide_eq_false z
            have AN : Hid (ArgIs n a 2) := Lib.hid ⟨fun _ => by simp [Nd.arg]; omega, fun h => absurd x (by omega)⟩
            clear x y z
            go_wp2
            go_roundg gk
            case measure => omega
            case rel => exact ⟨rfl, 3, by omega, by go_num, fun i hi => by rcases Nat.lt_succ_iff_lt_or_eq.1 hi with hi | rfl; exact HI.out i hi; exact AN.out⟩
          · have t5 := decide_eq_false x
            have t6 : decide (n.len ≤ 2) = true := decide_eq_true (by omega)
            by_cases y : n.a2 = 0
            · have t7 : (n.a2 != 0) = false := by simp [y]
              have AN : Hid (ArgIs n a 2) := Lib.hid ⟨fun h => absurd h x, fun _ => by simp [Nd.arg]; exact y⟩
              clear x y
              go_wp2
              go_roundg gk
              case measure => omega
              case rel => exact ⟨rfl, 3, by omega, by go_num, fun i hi => by rcases Nat.lt_succ_iff_lt_or_eq.1 hi with hi | rfl; exact HI.out i hi; exact AN.out⟩
            · have t7 : (n.a2 != 0) = true := by simp [y]
              go_wp2
              go_ret
              exact TestIs.no (fun hs => y (by have := (hs.args 2 (by omega)).2 (by omega); simpa [Nd.arg] using this)) HB.out
      | zero =>
        obtain rfl : j = 3 := by omega
        by_cases q3 : n.sort < 0
        · have t3 := decide_eq_true q3
          go_wp2
          go_ret
          exact TestIs.no (fun hs => (by have := hs.srt; omega)) HB.out
        have t3 := decide_eq_false q3
        by_cases q4 : 6 ≤ n.sort
        · have t4 := decide_eq_true q4
          go_wp2
          go_ret
          exact TestIs.no (fun hs => (by have := hs.srt; omega)) HB.out
        have t4 := decide_eq_false q4
        by_cases q5 : n.fn < 0
        · have t5 := decide_eq_true q5
          go_wp2
          go_ret
          exact TestIs.no (fun hs => (by have := hs.fun_; omega)) HB.out
        have t5 := decide_eq_false q5
        by_cases q6 : 12 ≤ n.fn
        · have t6 := decide_eq_true q6
          go_wp2
          go_ret
          exact TestIs.no (fun hs => (by have := hs.fun_; omega)) HB.out
        have t6 := decide_eq_false q6
        have q7 : n.op = 13 ∨ (n.op ≠ 13 ∧ n.fn = 0) ∨ (n.op ≠ 13 ∧ ¬ n.fn = 0) := by omega
        have t78 : ((n.op != 13) = false) ∨ ((n.op != 13) = true ∧ (n.fn != 0) = false) ∨ ((n.op != 13) = true ∧ (n.fn != 0) = true) := by rcases q7 with u | ⟨u, v⟩ | ⟨u, v⟩; exact .inl (by simp [u]); exact .inr (.inl ⟨by simp [u], by simp [v]⟩); exact .inr (.inr ⟨by simp [u], by simp [v]⟩)
        have q8 : (n.op != 13) = true → (n.fn != 0) = true → ¬ Stands n a := fun u v hs => by have := hs.fun_; simp at u v; omega
        have q9 : ((n.op != 13) = false ∨ (n.fn != 0) = false) → 0 < n.fn → n.op = 13 := fun u v => by rcases u with u | u <;> simp at u <;> omega
        have Q := Lib.hid (And.intro q3 (And.intro q4 (And.intro q5 q6)))
        have Q8 := Lib.hid q8
        have Q9 := Lib.hid q9
        clear q3 q4 q5 q6 q7 q8 q9
        have KN := Lib.hid (num5_ok n.num)
        rcases t78 with t7 | ⟨t7, t8⟩ | ⟨t7, t8⟩
        · have HS : Hid ((if n.op = 10 ∨ n.op = 11 ∨ n.op = 12 then numB n.num = true else n.num = 0) → Stands n a) := Lib.hid fun h => Stands.ofArgs HAr.out HF.out.1 HF.out.2 (by have := Q.out; omega) (by have := Q.out; omega) (fun i hi => HI.out i hi) (by have := Q.out; omega) (by have := Q.out; omega) (Q9.out (.inl t7)) h
          by_cases o1 : n.op = 10 ∨ n.op = 11 ∨ n.op = 12
          · obtain ⟨nb, hnb⟩ : ∃ nb, numB n.num = nb := ⟨_, rfl⟩
            rw [hnb] at KN
            have HNB := Lib.hid hnb
            have HO := Lib.hid o1
            clear hnb
            have fin : TestIs (Stands n a) w (.returned (.bool nb)) (w.alloc (.cells #[.int .i8 n.op, .int .i8 n.len, .int .i64 n.a0, .int .i64 n.a1, .int .i64 n.a2, .int .i64 n.sort, .int .i64 n.fn, .int .i64 n.num] 48)) := by
              cases nb with
              | true => exact TestIs.yes (HS.out (by rw [if_pos HO.out]; exact HNB.out)) HB.out
              | false => exact TestIs.no (fun hs => by have := hs.numOk; rw [if_pos HO.out, HNB.out] at this; cases this) HB.out
            have FIN := Lib.hid fin
            clear fin
            by_cases p0 : n.op = 10
            · have u0 : (n.op == 10) = true := by simp [p0]
              clear p0 o1
              go_wp2_with (go_at_call 59; refine (KN.out _).mono ?_; rintro e w2 ⟨rfl, rfl⟩)
              go_ret
              exact FIN.out
            have u0 : (n.op == 10) = false := by simp [p0]
            by_cases p1 : n.op = 11
            · have u1 : (n.op == 11) = true := by simp [p1]
              clear p1 o1
              go_wp2_with (go_at_call 59; refine (KN.out _).mono ?_; rintro e w2 ⟨rfl, rfl⟩)
              go_ret
              exact FIN.out
            have u1 : (n.op == 11) = false := by simp [p1]
            by_cases p2 : n.op = 12
            · have u2 : (n.op == 12) = true := by simp [p2]
              clear p2 o1
              go_wp2_with (go_at_call 59; refine (KN.out _).mono ?_; rintro e w2 ⟨rfl, rfl⟩)
              go_ret
              exact FIN.out
            have u2 : (n.op == 12) = false := by simp [p2]
            exact absurd o1 (by omega)
          · have u0 : (n.op == 10) = false := by simp; omega
            have u1 : (n.op == 11) = false := by simp; omega
            have u2 : (n.op == 12) = false := by simp; omega
            have HO := Lib.hid o1
            clear o1
            by_cases v : n.num = 0
            · have u3 : (n.num == 0) = true := by simp [v]
              have HV := Lib.hid v
              clear v
              go_wp2
              go_ret
              exact TestIs.yes (HS.out (by rw [if_neg HO.out]; exact HV.out)) HB.out
            · have u3 : (n.num == 0) = false := by simp [v]
              have HV := Lib.hid v
              clear v
              go_wp2
              go_ret
              exact TestIs.no (fun hs => by have := hs.numOk; rw [if_neg HO.out] at this; exact HV.out this) HB.out
        · have HS : Hid ((if n.op = 10 ∨ n.op = 11 ∨ n.op = 12 then numB n.num = true else n.num = 0) → Stands n a) := Lib.hid fun h => Stands.ofArgs HAr.out HF.out.1 HF.out.2 (by have := Q.out; omega) (by have := Q.out; omega) (fun i hi => HI.out i hi) (by have := Q.out; omega) (by have := Q.out; omega) (Q9.out (.inr t8)) h
          by_cases o1 : n.op = 10 ∨ n.op = 11 ∨ n.op = 12
          · obtain ⟨nb, hnb⟩ : ∃ nb, numB n.num = nb := ⟨_, rfl⟩
            rw [hnb] at KN
            have HNB := Lib.hid hnb
            have HO := Lib.hid o1
            clear hnb
            have fin : TestIs (Stands n a) w (.returned (.bool nb)) (w.alloc (.cells #[.int .i8 n.op, .int .i8 n.len, .int .i64 n.a0, .int .i64 n.a1, .int .i64 n.a2, .int .i64 n.sort, .int .i64 n.fn, .int .i64 n.num] 48)) := by
              cases nb with
              | true => exact TestIs.yes (HS.out (by rw [if_pos HO.out]; exact HNB.out)) HB.out
              | false => exact TestIs.no (fun hs => by have := hs.numOk; rw [if_pos HO.out, HNB.out] at this; cases this) HB.out
            have FIN := Lib.hid fin
            clear fin
            by_cases p0 : n.op = 10
            · have u0 : (n.op == 10) = true := by simp [p0]
              clear p0 o1
              go_wp2_with (go_at_call 59; refine (KN.out _).mono ?_; rintro e w2 ⟨rfl, rfl⟩)
              go_ret
              exact FIN.out
            have u0 : (n.op == 10) = false := by simp [p0]
            by_cases p1 : n.op = 11
            · have u1 : (n.op == 11) = true := by simp [p1]
              clear p1 o1
              go_wp2_with (go_at_call 59; refine (KN.out _).mono ?_; rintro e w2 ⟨rfl, rfl⟩)
              go_ret
              exact FIN.out
            have u1 : (n.op == 11) = false := by simp [p1]
            by_cases p2 : n.op = 12
            · have u2 : (n.op == 12) = true := by simp [p2]
              clear p2 o1
              go_wp2_with (go_at_call 59; refine (KN.out _).mono ?_; rintro e w2 ⟨rfl, rfl⟩)
              go_ret
              exact FIN.out
            have u2 : (n.op == 12) = false := by simp [p2]
            exact absurd o1 (by omega)
          · have u0 : (n.op == 10) = false := by simp; omega
            have u1 : (n.op == 11) = false := by simp; omega
            have u2 : (n.op == 12) = false := by simp; omega
            have HO := Lib.hid o1
            clear o1
            by_cases v : n.num = 0
            · have u3 : (n.num == 0) = true := by simp [v]
              have HV := Lib.hid v
              clear v
              go_wp2
              go_ret
              exact TestIs.yes (HS.out (by rw [if_neg HO.out]; exact HV.out)) HB.out
            · have u3 : (n.num == 0) = false := by simp [v]
              have HV := Lib.hid v
              clear v
              go_wp2
              go_ret
              exact TestIs.no (fun hs => by have := hs.numOk; rw [if_neg HO.out] at this; exact HV.out this) HB.out
        · have HN := Lib.hid (Q8.out t7 t8)
          go_wp2
          go_ret
          exact TestIs.no HN.out HB.out
end Go.Proofs.YtkapbdjobfbhhaaGreat

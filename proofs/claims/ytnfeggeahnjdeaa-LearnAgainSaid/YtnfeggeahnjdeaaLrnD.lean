/- Asserts. -/
import Derived.Test.YtnfeggeahnjdeaaLrnC
namespace Go.Proofs.Ytnfeggeahnjdeaa
open Go.RowKit Go.Lib
open Go.Maps (Keyed)

theorem cnt_look {w : World} {g n : Nat} {M : Tr} {c : List Int} (h : MapAt Try.prog 3 w g n (cntF M c)) (l : Int) (h0 : -9223372036854775808 ≤ l) (h1 : l ≤ 9223372036854775807) :
    (Instr.lookup 53 (.map (some g)) (.int .i64 l) false).run Try.prog w = .ok (.int .i64 (cntM M c l : Nat)) w := by
  refine (h.look int_key Try.underlying53 (zero_int w) (int_key_of h0 h1) false).trans ?_
  rw [← cntF_some]
  cases cntF M c (.int .i64 l) <;> rfl

theorem levelGo_range {M : Tr} (h : M.Ok) : ∀ (c : List Int) (n : Int), 0 ≤ n → n ≤ 65536 → ∀ m, levelGo M c n = some m → n ≤ m ∧ m ≤ 65536
  | [], n, h0, h1, m, hm => by
    injection hm with hm
    omega
  | x :: r, n, h0, h1, m, hm => by
    unfold levelGo at hm
    have hr := levelOf_range h (x / 2)
    split at hm
    · have := levelGo_range h r _ (by omega) (by unfold levOf; omega) m hm
      omega
    · cases hm
theorem levelM_range {M : Tr} (h : M.Ok) {c : List Int} {m : Int} (hm : levelM M c = some m) : 0 ≤ m ∧ m ≤ 65536 := by
  unfold levelM at hm
  split at hm
  · exact levelGo_range h c 0 (Int.le_refl _) (by omega) m hm
  · cases hm

/-- The literal that is alone at its level. -/
def topGo (M : Tr) (lv : Int) : List Int → Option Int
  | [] => none
  | x :: r => if levOf M x = lv then some x else topGo M lv r
def topV (o : Option Int) (b : Int) : Value := match o with
  | some x => .tuple #[.int .i64 x, .int .i64 b, .bool true]
  | none => .tuple #[.int .i64 0, .int .i64 0, .bool false]
def assertsM (M : Tr) (c : List Int) : Value := match levelM M c with
  | none => .tuple #[.int .i64 0, .int .i64 0, .bool false]
  | some lv => if lv = 0 then .tuple #[.int .i64 0, .int .i64 0, .bool false] else if cntM M c lv = 1 then topV (topGo M lv c) (backN M c lv) else .tuple #[.int .i64 0, .int .i64 0, .bool false]

theorem asserts_nil (A : Option Addr) (n cap : Nat) (w : World) : Calls Try.prog 10 #[.pointer none, .slice A n cap] w fun e w' => e = .returned (.tuple #[.int .i64 0, .int .i64 0, .bool false]) ∧ w = w' := by
  go_enter Try.func10, Try.ntmps10
  go_wp2_with (go_at_call 7; (with_reducible refine (level_nil_ok A n cap w).mono ?_); rintro e w1 ⟨rfl, rfl⟩)
  go_ret3
  exact ⟨rfl, rfl⟩

set_option maxRecDepth 100000 in
set_option maxHeartbeats 2000000 in
theorem asserts_fn {w : World} {B bt ba : Nat} {M : Tr} {A : Option Addr} {c : List Int} (cap : Nat) (h : TT w B bt ba M) (hc : Row .i64 w A c) (hn : A = none → cap = 0) :
    Calls Try.prog 10 #[.pointer (some ⟨bt, 0, none⟩), .slice A c.length cap] w fun e w' => e = .returned (assertsM M c) ∧ Below w.heap.size w w' := by
  have hlen := hc.len
  have K1 := level_fn cap h hc hn
  have K2 := fun W (hb : Below w.heap.size w W) => count_fn cap (h.below hb) (hc.below hb)
  have K3 := fun W (hb : Below w.heap.size w W) lv => back_fn cap lv (h.below hb) (hc.below hb)
  have K4 := fun W (hb : Below w.heap.size w W) nd => level_T (h.below hb) nd
  have hrg := fun m hm => levelM_range h.ok (c := c) (m := m) hm
  have Hc := Lib.hid hc
  have Hrg := Lib.hid hrg
  clear h hc hrg
  unfold assertsM
  cases hl : levelM M c with
  | none =>
    rw [hl] at K1
    clear hl K2 K3 K4 Hrg
    unfold lvlV at K1
    have d1 : ((2 : Int) != 0) = true := by decide
    go_enter Try.func10, Try.ntmps10
    go_wp2_with (go_at_call 7; (with_reducible refine K1.mono ?_); rintro e w1 ⟨rfl, hb⟩; have HB := Lib.hid hb; clear hb)
    go_ret3
    exact ⟨rfl, HB.out⟩
  | some lv =>
    have hr := Hrg.out lv hl
    rw [hl] at K1
    unfold lvlV at K1
    clear hl
    have d0 : ((0 : Int) != 0) = false := by decide
    by_cases hz : lv = 0
    · subst hz
      have d1 : ((0 : Int) == 0) = true := by decide
      go_enter Try.func10, Try.ntmps10
      go_wp2_with (go_at_call 7; (with_reducible refine K1.mono ?_); rintro e w1 ⟨rfl, hb⟩; have HB := Lib.hid hb; clear hb)
      go_ret3
      exact ⟨rfl, HB.out⟩
    · simp only [if_neg hz]
      have d1 : (lv == 0) = false := by rw [beq_eq_false_iff_ne]; exact hz
      by_cases h1 : cntM M c lv = 1
      · simp only [if_pos h1]
        have d2 : (((cntM M c lv : Nat) : Int) != 1) = false := by rw [h1]; rfl
        have H1 := Lib.hid h1
        clear hz h1
        go_enter Try.func10, Try.ntmps10
        go_wp2_with (first
          | (go_at_call 7; (with_reducible refine K1.mono ?_); rintro e w1 ⟨rfl, hb⟩; have HB := Lib.hid hb; clear hb)
          | (go_at_call 22; (with_reducible refine (K2 _ HB.out).mono ?_); rintro e w2 ⟨rfl, hm, hb⟩; have q1 := cnt_look hm lv (by omega) (by omega); have HB2 := Lib.hid (below_then HB.out (Nat.le_refl _) hb); clear hb hm))
        go_loopw [33] (fun vi wr => ∃ i : Nat, i ≤ c.length ∧ vi = .int .i64 i ∧ topGo M lv c = topGo M lv (c.drop i) ∧ Below w.heap.size w wr) (fun vi _ => (c.length - intOf vi).toNat)
        case atStart => exact ⟨0, Nat.zero_le _, rfl, rfl, HB2.out⟩
        case round =>
          obtain ⟨i, hi, rfl, htop, hbel⟩ := hrel
          have Hbel := Lib.hid hbel
          by_cases hlt : i < c.length
          · have d3 : decide ((i : Int) < c.length) = true := by simp; omega
            obtain ⟨b, off, hA, hb, hcell⟩ := (Hc.out.below hbel).at_.resolve_left (by omega)
            subst hA
            have y0 := hcell i hlt
            have K5 := K4 wr hbel (c[i] / 2)
            have htop2 : topGo M lv c = if levelOf M.L (c[i] / 2) = lv then some c[i] else topGo M lv (c.drop (i + 1)) := by
              rw [htop, List.drop_eq_getElem_cons hlt]
              rfl
            clear htop hcell hbel
            generalize c[i] = x at *
            generalize levelOf M.L (x / 2) = l at *
            by_cases hll : l = lv
            · subst hll
              rw [if_pos rfl] at htop2
              have Ht := Lib.hid htop2
              have d4 : (l == l) = true := by simp
              clear htop2
              go_wp2_with (first
                | (go_at_call 20; (with_reducible refine (node_ok x _).mono ?_); rintro e w3 ⟨rfl, rfl⟩)
                | (go_at_call 19; (with_reducible refine K5.mono ?_); rintro e w4 ⟨rfl, hb4⟩; have HB4 := Lib.hid (below_then Hbel.out (Nat.le_refl _) hb4); clear hb4)
                | (go_at_call 23; (with_reducible refine (K3 _ HB4.out l).mono ?_); rintro e w5 ⟨rfl, hb5⟩; have HB5 := Lib.hid (below_then HB4.out (Nat.le_refl _) hb5); clear hb5))
              go_ret3
              exact ⟨by rw [Ht.out]; rfl, HB5.out⟩
            · rw [if_neg hll] at htop2
              have Ht := Lib.hid htop2
              have d4 : (l == lv) = false := by rw [beq_eq_false_iff_ne]; exact hll
              clear htop2 hll
              go_wp2_with (first
                | (go_at_call 20; (with_reducible refine (node_ok x _).mono ?_); rintro e w3 ⟨rfl, rfl⟩)
                | (go_at_call 19; (with_reducible refine K5.mono ?_); rintro e w4 ⟨rfl, hb4⟩; have HB4 := Lib.hid (below_then Hbel.out (Nat.le_refl _) hb4); clear hb4))
              exact ⟨⟨i + 1, by omega, by go_num, Ht.out, HB4.out⟩, by simp only [intOf]; omega⟩
          · obtain rfl : i = c.length := by omega
            have d3 : decide ((c.length : Int) < c.length) = false := by simp
            rw [List.drop_length] at htop
            have Ht := Lib.hid htop
            clear htop hbel
            go_wp2
            go_ret3
            exact ⟨by rw [Ht.out]; rfl, Hbel.out⟩
      · simp only [if_neg h1]
        have d2 : (((cntM M c lv : Nat) : Int) != 1) = true := by simp; omega
        clear hz h1
        go_enter Try.func10, Try.ntmps10
        go_wp2_with (first
          | (go_at_call 7; (with_reducible refine K1.mono ?_); rintro e w1 ⟨rfl, hb⟩; have HB := Lib.hid hb; clear hb)
          | (go_at_call 22; (with_reducible refine (K2 _ HB.out).mono ?_); rintro e w2 ⟨rfl, hm, hb⟩; have q1 := cnt_look hm lv (by omega) (by omega); have HB2 := Lib.hid (below_then HB.out (Nat.le_refl _) hb); clear hb hm))
        go_ret3
        exact ⟨rfl, HB2.out⟩
end Go.Proofs.Ytnfeggeahnjdeaa

/- Level. -/
import Derived.Test.YtnfeggeahnjdeaaLrnP
namespace Go.Proofs.Ytnfeggeahnjdeaa
open Go.RowKit Go.Lib

theorem node_ok (x : Int) (w : World) : Calls Try.prog 20 #[.int .i64 x] w fun e w' => e = .returned (.int .i64 (x / 2)) ∧ w = w' := by
  go_enter Try.func20, Try.ntmps20
  go_wp2
  go_ret
  exact ⟨rfl, rfl⟩
theorem neg_ok (x : Int) (h0 : 0 ≤ x) (h1 : x ≤ 9223372036854775807) (w : World) : Calls Try.prog 33 #[.int .i64 x] w fun e w' => e = .returned (.int .i64 (negM x)) ∧ w = w' := by
  have hn : bits .xor .i64 x 1 = negM x := i64_xor_one x h0 (by omega)
  go_enter Try.func33, Try.ntmps33
  go_wp2
  go_ret
  exact ⟨rfl, rfl⟩

theorem level_nil_ok (A : Option Addr) (n cap : Nat) (w : World) : Calls Try.prog 7 #[.pointer none, .slice A n cap] w fun e w' => e = .returned (.tuple #[.int .i64 0, .int .i64 3]) ∧ w = w' := by
  go_enter Try.func7, Try.ntmps7
  go_wp2
  go_ret2
  exact ⟨rfl, rfl⟩

theorem levelOf_range {M : Tr} (h : M.Ok) (nd : Int) : -1 ≤ levelOf M.L nd ∧ levelOf M.L nd ≤ 65536 := by
  unfold levelOf
  split
  · rename_i p hp
    have := h.level p (List.mem_of_find?_eq_some hp)
    omega
  · omega

/-- What Level returns. -/
def lvlV : Option Int → Value
  | none => .tuple #[.int .i64 0, .int .i64 2]
  | some n => .tuple #[.int .i64 n, .int .i64 0]
set_option maxHeartbeats 1000000 in
theorem level_fn {w : World} {B bt ba : Nat} {M : Tr} {A : Option Addr} {c : List Int} (cap : Nat) (h : TT w B bt ba M) (hc : Row .i64 w A c) (hn : A = none → cap = 0) :
    Calls Try.prog 7 #[.pointer (some ⟨bt, 0, none⟩), .slice A c.length cap] w fun e w' => e = .returned (lvlV (levelM M c)) ∧ Below w.heap.size w w' := by
  have hlen := hc.len
  have K1 := is_ok cap hc hn
  rw [show (c == makeM c) = isC c from rfl] at K1
  have Hc := Lib.hid hc
  have H := Lib.hid h
  have hok := h.ok
  have Hok := Lib.hid hok
  clear h hc hok
  cases hi : isC c with
  | false =>
    have hl : levelM M c = none := by unfold levelM; rw [if_neg (by rw [hi]; simp)]
    rw [hi] at K1
    rw [hl]
    clear hl hi
    go_enter Try.func7, Try.ntmps7
    go_wp2_with (go_at_call 17; (with_reducible refine K1.mono ?_); rintro e w1 ⟨rfl, hb⟩; have HB := Lib.hid hb; clear hb)
    go_ret2
    exact ⟨rfl, HB.out⟩
  | true =>
    have hl : levelM M c = levelGo M c 0 := by unfold levelM; rw [if_pos hi]
    rw [hi] at K1
    rw [hl]
    clear hl hi
    go_enter Try.func7, Try.ntmps7
    go_wp2_with (go_at_call 17; (with_reducible refine K1.mono ?_); rintro e w1 ⟨rfl, hb⟩; have HB := Lib.hid hb; clear hb)
    go_loopw [15, 4] (fun vi vn wr => ∃ (i : Nat) (n : Int), i ≤ c.length ∧ vi = .int .i64 i ∧ vn = .int .i64 n ∧ levelGo M c 0 = levelGo M (c.drop i) n ∧ Below w.heap.size w wr) (fun vi _ _ => (c.length - intOf vi).toNat)
    case atStart => exact ⟨0, 0, Nat.zero_le _, rfl, rfl, rfl, HB.out⟩
    case round =>
      obtain ⟨i, n, hi, rfl, rfl, hg, hbel⟩ := hrel
      have Hbel := Lib.hid hbel
      by_cases hlt : i < c.length
      · have d1 : decide ((i : Int) < c.length) = true := by simp; omega
        obtain ⟨b, off, hA, hb, hcell⟩ := (Hc.out.below hbel).at_.resolve_left (by omega)
        subst hA
        have y0 := hcell i hlt
        rw [List.drop_eq_getElem_cons hlt] at hg
        have hlv := levelOf_range Hok.out (c[i] / 2)
        have hT := H.out.below hbel
        have K2 := val_T hT c[i]
        have K3 := fun W (hb : Below wr.heap.size wr W) => level_T (hT.below hb) (c[i] / 2)
        have hgo : levelGo M (c[i] :: c.drop (i + 1)) n = if valOf M.L c[i] = 2 then levelGo M (c.drop (i + 1)) (max n (levOf M c[i])) else none := by conv => lhs; unfold levelGo
        rw [hgo] at hg
        unfold levOf at hg
        clear hcell hgo hT hbel
        generalize c[i] = x at *
        generalize levelOf M.L (x / 2) = l at *
        by_cases hv : valOf M.L x = 2
        · rw [if_pos hv] at hg
          have Hg := Lib.hid hg
          rw [hv] at K2
          have d2 : ((2 : Int) != 2) = false := by decide
          clear hg hv
          go_wp2_with (first
            | (go_at_call 18; (with_reducible refine K2.mono ?_); rintro e w2 ⟨rfl, hb2⟩; have HB2 := Lib.hid hb2; clear hb2)
            | (go_at_call 20; (with_reducible refine (node_ok x _).mono ?_); rintro e w3 ⟨rfl, rfl⟩)
            | (go_at_call 19; (with_reducible refine (K3 _ HB2.out).mono ?_); rintro e w4 ⟨rfl, hb4⟩; have HB4 := Lib.hid (below_then Hbel.out (Nat.le_refl _) (below_then HB2.out (Nat.le_refl _) hb4)); clear hb4))
          exact ⟨⟨i + 1, max n l, by omega, by go_num, rfl, Hg.out, HB4.out⟩, by simp only [intOf]; omega⟩
        · rw [if_neg hv] at hg
          have Hg := Lib.hid hg
          have d2 : (valOf M.L x != 2) = true := by simp [hv]
          clear hg hv
          generalize valOf M.L x = v at *
          go_wp2_with (go_at_call 18; (with_reducible refine K2.mono ?_); rintro e w2 ⟨rfl, hb2⟩; have HB2 := Lib.hid (below_then Hbel.out (Nat.le_refl _) hb2); clear hb2)
          go_ret2
          exact ⟨by rw [Hg.out]; rfl, HB2.out⟩
      · obtain rfl : i = c.length := by omega
        have d1 : decide ((c.length : Int) < c.length) = false := by simp
        rw [List.drop_length] at hg
        have Hg := Lib.hid hg
        clear hg
        go_wp2
        go_ret2
        exact ⟨by rw [Hg.out]; rfl, Hbel.out⟩

theorem countP_take (p : Int → Bool) (c : List Int) {k : Nat} (h : k < c.length) : (c.take (k + 1)).countP p = (c.take k).countP p + (if p c[k] = true then 1 else 0) := by
  rw [List.take_succ_eq_append_getElem h, List.countP_append]
  congr 1
  simp [List.countP_cons]

/-- How many literals there are of each level. -/
def cntF (M : Tr) (c : List Int) (key : Value) : Option Value := match key with
  | .int .i64 k => if cntM M c k = 0 then none else some (.int .i64 (cntM M c k : Nat))
  | _ => none
theorem cntF_some (M : Tr) (c : List Int) (k : Int) : (match cntF M c (.int .i64 k) with | some v => v | none => Value.int .i64 0) = .int .i64 (cntM M c k : Nat) := by
  unfold cntF
  by_cases h : cntM M c k = 0
  · simp [h]
  · simp [h]
end Go.Proofs.Ytnfeggeahnjdeaa

/- back. -/
import Derived.Test.YtnfeggeahnjdeaaLrnB
import Derived.Maps.RangeWalk
namespace Go.Proofs.Ytnfeggeahnjdeaa
open Go.RowKit Go.Lib
open Go.Maps (Keyed)

/-- The greatest level below one, or nothing. -/
theorem backGo_is (M : Tr) (lv : Int) : ∀ (c : List Int) (n m : Int), n ≤ m → (∀ x ∈ c, levOf M x < lv → levOf M x ≤ m) → (m = n ∨ ∃ x ∈ c, levOf M x < lv ∧ levOf M x = m) → backGo M lv c n = m
  | [], n, m, _, _, h => by
    rcases h with h | ⟨x, hx, _⟩
    · exact h.symm
    · cases hx
  | x :: r, n, m, hn, h1, h2 => by
    unfold backGo
    have hx := h1 x List.mem_cons_self
    refine backGo_is M lv r _ m ?_ (fun y hy => h1 y (List.mem_cons_of_mem _ hy)) ?_
    · split
      · rename_i h; have := hx h; omega
      · exact hn
    · rcases h2 with h | ⟨y, hy, hl, he⟩
      · left
        split
        · rename_i h'; have := hx h'; omega
        · exact h
      · rcases List.mem_cons.1 hy with rfl | hy
        · left
          rw [if_pos hl]
          omega
        · exact .inr ⟨y, hy, hl, he⟩
theorem cnt_pos {M : Tr} {c : List Int} {k : Int} : cntM M c k ≠ 0 ↔ ∃ x ∈ c, levOf M x = k := by
  unfold cntM
  rw [← Nat.pos_iff_ne_zero, List.countP_pos_iff]
  simp
theorem cntF_int (M : Tr) (c : List Int) (k : Int) : cntF M c (.int .i64 k) = none ↔ cntM M c k = 0 := by
  unfold cntF
  simp

set_option maxHeartbeats 1000000 in
theorem back_fn {w : World} {B bt ba : Nat} {M : Tr} {A : Option Addr} {c : List Int} (cap : Nat) (lv : Int) (h : TT w B bt ba M) (hc : Row .i64 w A c) :
    Calls Try.prog 23 #[.pointer (some ⟨bt, 0, none⟩), .slice A c.length cap, .int .i64 lv] w fun e w' => e = .returned (.int .i64 (backN M c lv)) ∧ Below w.heap.size w w' := by
  have K1 := count_fn cap h hc
  have hok := h.ok
  have hrange := fun x => levelOf_range hok (x / 2)
  have Hrange := Lib.hid hrange
  clear h hc hok hrange
  go_enter Try.func23, Try.ntmps23
  go_wp2_with (first
    | (go_at_call 22; (with_reducible refine K1.mono ?_); rintro e w1 ⟨rfl, hm1, hb1⟩; obtain ⟨D, hown, hD⟩ := hm1; have HD := Lib.hid hD; have HB1 := Lib.hid hb1; clear hb1 hD)
    | (at_range; refine wpList_range_own _ rfl _ 53 rfl 3 3 int_key Try.underlying53 _ w.heap.size c.length D rfl hown ?_; intro w0 hrg0 hg0 hs0)
    | go_in)
  go_frame
  have hr1 : w.heap.size < w1.heap.size := hown.lt
  have hlt1 : w.heap.size ≤ w0.heap.size := by omega
  go_loopw [6] (fun v6 wr => ∃ (n : Int) (left : Lit → Bool) (cnt : Nat), v6 = .int .i64 n ∧ wr.ranges Try.prog 3 heldV w.heap.size w1.heap.size c.length D left cnt ∧ 0 ≤ n ∧ (∀ x ∈ c, left (.int .i64 (levOf M x)) = false → levOf M x < lv → levOf M x ≤ n) ∧ (n = 0 ∨ ∃ x ∈ c, levOf M x < lv ∧ levOf M x = n) ∧ Below w.heap.size w wr) (fun _ wr => wr.rangeLeft w.heap.size w1.heap.size)
  case atStart =>
    refine ⟨0, _, _, rfl, hrg0, Int.le_refl _, fun x hx hl _ => ?_, .inl rfl, HB1.out.grown hg0 (by omega) (fun j hj => by cases hj)⟩
    exfalso
    have hrx := Hrange.out x
    unfold levOf at hl
    have hk := int_key_of (x := levelOf M.L (x / 2)) (by omega) (by omega)
    have hat := HD.out _ _ hk
    have hne : cntF M c (.int .i64 (levelOf M.L (x / 2))) ≠ none := fun e => (cnt_pos.2 ⟨x, hx, rfl⟩) ((cntF_int M c _).1 e)
    cases hv : cntF M c (.int .i64 (levelOf M.L (x / 2))) with
    | none => exact hne hv
    | some v =>
      rw [hv] at hat
      rw [Maps.has_true_of_atKey hat] at hl
      cases hl
  case round =>
    obtain ⟨n, left, cnt, rfl, hrg, hn0, hmx, hach, hbel⟩ := hrel
    have Hmx := Lib.hid hmx
    have Hach := Lib.hid hach
    have Hbel := Lib.hid hbel
    clear hmx hach hbel
    go_wp2_with (first
      | (at_next; refine wpList_next_ranges _ rfl _ rfl 3 int_key heldV (Value.int .i64) id (fun key kl hk => by obtain ⟨x, rfl, _⟩ := Maps.keyOf_int_inv Try.underlying3 hk; exact ⟨x, rfl⟩) (fun v y _ => ⟨v, rfl⟩) w.heap.size w1.heap.size c.length D _ _ rfl hrg ?_ ?_)
      | go_in)
    · intro hc0 hl0
      go_wp2
      go_ret
      have hb : backN M c lv = n := backGo_is M lv c 0 n hn0 (fun x hx hl => Hmx.out x hx (hl0 _) hl) Hach.out
      exact ⟨by rw [hb]; rfl, Hbel.out⟩
    · intro x v kl y yp w2 cnt2 hkey hlk hv hat hrg2 hlt hg2 hs2 hen
      obtain ⟨x', ex, rfl, _⟩ := Maps.keyOf_int_inv Try.underlying3 hkey
      cases ex
      have hex : ∃ z ∈ c, levOf M z = x := by
        have h1 := HD.out _ _ hkey .nil
        rw [hat .nil] at h1
        have hy : y = .held v := (congrArg Prod.fst (Option.some.inj hv)).symm
        rw [hy] at h1
        refine cnt_pos.1 fun e => ?_
        rw [(cntF_int M c x).2 e] at h1
        cases h1
      obtain ⟨z, hz, hzx⟩ := hex
      have Hb2 := Lib.hid (Hbel.out.grown hg2 Hbel.out.size (fun j hj => by injection hj with hj; omega))
      have hmx2 : ∀ m, n ≤ m → (x < lv → x ≤ m) → ∀ y ∈ c, (fun z : Lit => left z && !z.sameKey (.int .i64 x)) (.int .i64 (levOf M y)) = false → levOf M y < lv → levOf M y ≤ m := by
        intro m hm hxm y hy hl hyl
        simp only [Bool.and_eq_false_iff, Bool.not_eq_false'] at hl
        rcases hl with hl | hl
        · have := Hmx.out y hy hl hyl; omega
        · have : levOf M y = x := by simpa [Lit.sameKey] using hl
          have := hxm (by omega); omega
      have Hmx2 := Lib.hid hmx2
      have Hzx := Lib.hid hzx
      have Hz := Lib.hid hz
      clear hmx2 hzx hz hv hat
      by_cases hxl : x < lv
      · have d1 : decide (x < lv) = true := decide_eq_true hxl
        go_wp2
        refine ⟨⟨max n x, _, cnt2, rfl, hrg2, by omega, Hmx2.out _ (by omega) (fun _ => by omega), ?_, Hb2.out⟩, by rw [hrg2.left_eq, hrg.left_eq]; exact hlt⟩
        rcases Int.le_total n x with h | h
        · exact .inr ⟨z, Hz.out, by rw [Hzx.out]; exact hxl, by rw [Hzx.out]; omega⟩
        · rw [show max n x = n by omega]; exact Hach.out
      · have d1 : decide (x < lv) = false := decide_eq_false hxl
        go_wp2
        exact ⟨⟨n, _, cnt2, rfl, hrg2, hn0, Hmx2.out _ (Int.le_refl _) (fun h => absurd h hxl), Hach.out, Hb2.out⟩, by rw [hrg2.left_eq, hrg.left_eq]; exact hlt⟩
end Go.Proofs.Ytnfeggeahnjdeaa

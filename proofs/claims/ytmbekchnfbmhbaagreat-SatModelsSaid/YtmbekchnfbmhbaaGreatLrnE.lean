/- Level. -/
import Derived.Test.YtmbekchnfbmhbaaGreatLrnP
import Derived.Deep.LoopGhost
import Derived.Maps.RangeWalk
import Derived.Test.YtmbekchnfbmhbaaGreatTrailE
namespace Go.Proofs.YtmbekchnfbmhbaaGreat
open Go.RowKit Go.Lib

theorem node_ok (x : Int) (w : World) : Calls Tryz.prog 67 #[.int .i64 x] w fun e w' => e = .returned (.int .i64 (x / 2)) ∧ w = w' := by
  go_enter Tryz.func67, Tryz.ntmps67
  go_wp2
  go_ret
  exact ⟨rfl, rfl⟩
theorem neg_ok (x : Int) (h0 : 0 ≤ x) (h1 : x ≤ 9223372036854775807) (w : World) : Calls Tryz.prog 80 #[.int .i64 x] w fun e w' => e = .returned (.int .i64 (negM x)) ∧ w = w' := by
  have hn : bits .xor .i64 x 1 = negM x := i64_xor_one x h0 (by omega)
  go_enter Tryz.func80, Tryz.ntmps80
  go_wp2
  go_ret
  exact ⟨rfl, rfl⟩

theorem level_nil_ok (A : Option Addr) (n cap : Nat) (w : World) : Calls Tryz.prog 56 #[.pointer none, .slice A n cap] w fun e w' => e = .returned (.tuple #[.int .i64 0, .int .i64 3]) ∧ w = w' := by
  go_enter Tryz.func56, Tryz.ntmps56
  go_wp2
  go_ret2
  exact ⟨rfl, rfl⟩

theorem levelOf_range {M : Tr} (h : M.Ok) (nd : Int) : -1 ≤ levelOf M.L nd ∧ levelOf M.L nd ≤ 65536 := by
  unfold levelOf
  split
  · rename_i p hp
    have := h.level p (List.mem_of_find?_eq_some hp)
    omega
  · omega

/-- What Level returns. -/
def lvlV : Option Int → Value
  | none => .tuple #[.int .i64 0, .int .i64 2]
  | some n => .tuple #[.int .i64 n, .int .i64 0]
set_option maxHeartbeats 1000000 in
theorem level_fn {w : World} {B bt ba : Nat} {M : Tr} {A : Option Addr} {c : List Int} (cap : Nat) (h : TT w B bt ba M) (hc : Row .i64 w A c) (hn : A = none → cap = 0) :
    Calls Tryz.prog 56 #[.pointer (some ⟨bt, 0, none⟩), .slice A c.length cap] w fun e w' => e = .returned (lvlV (levelM M c)) ∧ Below w.heap.size w w' := by
  have hlen := hc.len
  have K1 := is_ok cap hc hn
  rw [show (c == makeM c) = isC c from rfl] at K1
  have Hc := Lib.hid hc
  have H := Lib.hid h
  have hok := h.ok
  have Hok := Lib.hid hok
  clear h hc hok
  cases hi : isC c with
  | false =>
    have hl : levelM M c = none := by unfold levelM; rw [if_neg (by rw [hi]; simp)]
    rw [hi] at K1
    rw [hl]
    clear hl hi
    go_enter Tryz.func56, Tryz.ntmps56
    go_wp2_with (go_at_call 28; (with_reducible refine K1.mono ?_); rintro e w1 ⟨rfl, hb⟩; have HB := Lib.hid hb; clear hb)
    go_ret2
    exact ⟨rfl, HB.out⟩
  | true =>
    have hl : levelM M c = levelGo M c 0 := by unfold levelM; rw [if_pos hi]
    rw [hi] at K1
    rw [hl]
    clear hl hi
    go_enter Tryz.func56, Tryz.ntmps56
    go_wp2_with (go_at_call 28; (with_reducible refine K1.mono ?_); rintro e w1 ⟨rfl, hb⟩; have HB := Lib.hid hb; clear hb)
    go_loopw [15, 4] (fun vi vn wr => ∃ (i : Nat) (n : Int), i ≤ c.length ∧ vi = .int .i64 i ∧ vn = .int .i64 n ∧ levelGo M c 0 = levelGo M (c.drop i) n ∧ Below w.heap.size w wr) (fun vi _ _ => (c.length - intOf vi).toNat)
    case atStart => exact ⟨0, 0, Nat.zero_le _, rfl, rfl, rfl, HB.out⟩
    case round =>
      obtain ⟨i, n, hi, rfl, rfl, hg, hbel⟩ := hrel
      have Hbel := Lib.hid hbel
      by_cases hlt : i < c.length
      · have d1 : decide ((i : Int) < c.length) = true := by simp; omega
        obtain ⟨b, off, hA, hb, hcell⟩ := (Hc.out.below hbel).at_.resolve_left (by omega)
        subst hA
        have y0 := hcell i hlt
        rw [List.drop_eq_getElem_cons hlt] at hg
        have hlv := levelOf_range Hok.out (c[i] / 2)
        have hT := H.out.below hbel
        have K2 := val_T hT c[i]
        have K3 := fun W (hb : Below wr.heap.size wr W) => level_T (hT.below hb) (c[i] / 2)
        have hgo : levelGo M (c[i] :: c.drop (i + 1)) n = if valOf M.L c[i] = 2 then levelGo M (c.drop (i + 1)) (max n (levOf M c[i])) else none := by conv => lhs; unfold levelGo
        rw [hgo] at hg
        unfold levOf at hg
        clear hcell hgo hT hbel
        generalize c[i] = x at *
        generalize levelOf M.L (x / 2) = l at *
        by_cases hv : valOf M.L x = 2
        · rw [if_pos hv] at hg
          have Hg := Lib.hid hg
          rw [hv] at K2
          have d2 : ((2 : Int) != 2) = false := by decide
          clear hg hv
          go_wp2_with (first
            | (go_at_call 54; (with_reducible refine K2.mono ?_); rintro e w2 ⟨rfl, hb2⟩; have HB2 := Lib.hid hb2; clear hb2)
            | (go_at_call 67; (with_reducible refine (node_ok x _).mono ?_); rintro e w3 ⟨rfl, rfl⟩)
            | (go_at_call 66; (with_reducible refine (K3 _ HB2.out).mono ?_); rintro e w4 ⟨rfl, hb4⟩; have HB4 := Lib.hid (below_then Hbel.out (Nat.le_refl _) (below_then HB2.out (Nat.le_refl _) hb4)); clear hb4))
          exact ⟨⟨i + 1, max n l, by omega, by go_num, rfl, Hg.out, HB4.out⟩, by simp only [intOf]; omega⟩
        · rw [if_neg hv] at hg
          have Hg := Lib.hid hg
          have d2 : (valOf M.L x != 2) = true := by simp [hv]
          clear hg hv
          generalize valOf M.L x = v at *
          go_wp2_with (go_at_call 54; (with_reducible refine K2.mono ?_); rintro e w2 ⟨rfl, hb2⟩; have HB2 := Lib.hid (below_then Hbel.out (Nat.le_refl _) hb2); clear hb2)
          go_ret2
          exact ⟨by rw [Hg.out]; rfl, HB2.out⟩
      · obtain rfl : i = c.length := by omega
        have d1 : decide ((c.length : Int) < c.length) = false := by simp
        rw [List.drop_length] at hg
        have Hg := Lib.hid hg
        clear hg
        go_wp2
        go_ret2
        exact ⟨by rw [Hg.out]; rfl, Hbel.out⟩

theorem countP_take (p : Int → Bool) (c : List Int) {k : Nat} (h : k < c.length) : (c.take (k + 1)).countP p = (c.take k).countP p + (if p c[k] = true then 1 else 0) := by
  rw [List.take_succ_eq_append_getElem h, List.countP_append]
  congr 1
  simp [List.countP_cons]

/-- How many literals there are of each level. -/
def cntF (M : Tr) (c : List Int) (key : Value) : Option Value := match key with
  | .int .i64 k => if cntM M c k = 0 then none else some (.int .i64 (cntM M c k : Nat))
  | _ => none
theorem cntF_some (M : Tr) (c : List Int) (k : Int) : (match cntF M c (.int .i64 k) with | some v => v | none => Value.int .i64 0) = .int .i64 (cntM M c k : Nat) := by
  unfold cntF
  by_cases h : cntM M c k = 0
  · simp [h]
  · simp [h]
end Go.Proofs.YtmbekchnfbmhbaaGreat

/- count. -/
namespace Go.Proofs.YtmbekchnfbmhbaaGreat
open Go.RowKit Go.Lib
open Go.Maps (Keyed)

theorem int_key : Keyed Tryz.prog 3 := Go.Maps.int_keyed Tryz.underlying3
theorem int_key_of {x : Int} (h0 : -9223372036854775808 ≤ x) (h1 : x ≤ 9223372036854775807) : keyOf Tryz.prog 3 (.int .i64 x) = some (.int .i64 x) :=
  Go.Maps.keyOf_int_mk Tryz.underlying3 (by simp [Lit.wf, IntKind.min, IntKind.max, IntKind.bits, IntKind.signed]; omega)
theorem zero_int (w : World) : (zeroValue 3).run Tryz.prog w = .ok (.int .i64 0) w := by kernel_rfl

theorem cnt_take (M : Tr) (c : List Int) (lv : Int) {k : Nat} (h : k < c.length) : cntM M (c.take (k + 1)) lv = cntM M (c.take k) lv + (if levOf M c[k] = lv then 1 else 0) := by
  unfold cntM
  rw [countP_take _ _ h]
  simp
theorem cntF_at (M : Tr) (c : List Int) {k : Nat} (h : k < c.length) : cntF M (c.take (k + 1)) (.int .i64 (levOf M c[k])) = some (.int .i64 ((cntM M (c.take k) (levOf M c[k]) : Nat) + 1)) := by
  unfold cntF
  simp only [cnt_take M c _ h, if_pos]
  rw [if_neg (by omega)]
  simp
theorem cntF_far (M : Tr) (c : List Int) {k : Nat} (h : k < c.length) (x : Value) (hx : x ≠ .int .i64 (levOf M c[k])) : cntF M (c.take (k + 1)) x = cntF M (c.take k) x := by
  unfold cntF
  split
  · rename_i y
    have hne : ¬ levOf M c[k] = y := fun e => hx (by rw [e])
    rw [cnt_take M c _ h, if_neg hne, Nat.add_zero]
  · rfl
theorem cnt_le (M : Tr) (c : List Int) (lv : Int) : cntM M c lv ≤ c.length := List.countP_le_length

set_option maxHeartbeats 1000000 in
theorem count_fn {w : World} {B bt ba : Nat} {M : Tr} {A : Option Addr} {c : List Int} (cap : Nat) (h : TT w B bt ba M) (hc : Row .i64 w A c) :
    Calls Tryz.prog 78 #[.pointer (some ⟨bt, 0, none⟩), .slice A c.length cap] w fun e w' => e = .returned (.map (some w.heap.size)) ∧ MapAt Tryz.prog 3 w' w.heap.size c.length (cntF M c) ∧ Below w.heap.size w w' := by
  have hlen := hc.len
  have hmm := @run_makeMap Tryz.prog
  have Hc := Lib.hid hc
  have H := Lib.hid h
  have Hok := Lib.hid h.ok
  have hmade := (MapAt.made Tryz.prog 3 w).congr (g := cntF M (c.take 0)) (fun key kl _ => by unfold cntF cntM; split <;> rfl)
  have Hmade := Lib.hid hmade
  clear h hc hmade
  go_enter Tryz.func78, Tryz.ntmps78
  go_wp2
  go_loopw [11] (fun vi wr => ∃ i : Nat, i ≤ c.length ∧ vi = .int .i64 i ∧ MapAt Tryz.prog 3 wr w.heap.size i (cntF M (c.take i)) ∧ Below w.heap.size w wr) (fun vi _ => (c.length - intOf vi).toNat)
  case atStart => exact ⟨0, Nat.zero_le _, rfl, Hmade.out, (Below.refl _ w).alloc (Nat.le_refl _) _⟩
  case round =>
    obtain ⟨i, hi, rfl, hm, hbel⟩ := hrel
    have Hbel := Lib.hid hbel
    have Hm := Lib.hid hm
    by_cases hlt : i < c.length
    · have d1 : decide ((i : Int) < c.length) = true := by simp; omega
      obtain ⟨b, off, hA, hb, hcell⟩ := (Hc.out.below hbel).at_.resolve_left (by omega)
      subst hA
      have y0 := hcell i hlt
      have hlv := levelOf_range Hok.out (c[i] / 2)
      have hT := H.out.below hbel
      have K3 := level_T hT (c[i] / 2)
      have Hat := Lib.hid (cntF_at M c hlt)
      have Hfar := Lib.hid (cntF_far M c hlt)
      have hcl := cnt_le M (c.take i) (levOf M c[i])
      have hsome := cntF_some M (c.take i) (levOf M c[i])
      have hml := hm.lt
      rw [List.length_take] at hcl
      unfold levOf at Hat Hfar hcl hsome
      clear hcell hT hbel hm
      generalize c[i] = x at *
      generalize levelOf M.L (x / 2) = l at *
      generalize hq : cntM M (c.take i) l = q at *
      have hk := int_key_of (x := l) (by omega) (by omega)
      have hstep : ∀ W, Below wr.heap.size wr W → ∃ W5, (Instr.lookup 100 (.map (some w.heap.size)) (.int .i64 l) false).run Tryz.prog W = .ok (.int .i64 (q : Nat)) W ∧ (Instr.mapUpdate 100 (.map (some w.heap.size)) (.int .i64 l) (.int .i64 ((q : Nat) + 1))).run Tryz.prog W = .ok () W5 ∧ MapAt Tryz.prog 3 W5 w.heap.size (i + 1) (cntF M (c.take (i + 1))) ∧ W.grownBy W5 (some w.heap.size) := by
        intro W hb4
        have hm4 := Hm.out.below hb4 hml
        have q1 := hm4.look int_key Tryz.underlying100 (zero_int W) hk false
        obtain ⟨w5, q2, hm5, hg5⟩ := hm4.store int_key Tryz.underlying100 (by unfold maxLen; omega) hk (.int .i64 ((q : Nat) + 1)) Hat.out Hfar.out
        refine ⟨w5, q1.trans ?_, q2, hm5, hg5⟩
        rw [← hsome]
        cases cntF M (c.take i) (.int .i64 l) <;> rfl
      have Hstep := Lib.hid hstep
      clear hq hstep hsome
      go_wp2_with (first
        | (go_at_call 67; (with_reducible refine (node_ok x _).mono ?_); rintro e w3 ⟨rfl, rfl⟩)
        | (go_at_call 66; (with_reducible refine K3.mono ?_); rintro e w4 ⟨rfl, hb4⟩; obtain ⟨w5, q1, q2, hm5, hg5⟩ := Hstep.out w4 hb4; have HM5 := Lib.hid hm5; have HB5 := Lib.hid (below_then Hbel.out (Nat.le_refl _) hb4); have HG5 := Lib.hid hg5; clear hb4 hm5 hg5))
      exact ⟨⟨i + 1, by omega, by go_num, HM5.out, Below.grown HB5.out HG5.out HB5.out.size (fun j hj => by injection hj with hj; omega)⟩, by simp only [intOf]; omega⟩
    · obtain rfl : i = c.length := by omega
      have d1 : decide ((c.length : Int) < c.length) = false := by simp
      rw [List.take_length] at hm
      have Hm2 := Lib.hid hm
      clear hm hbel
      go_wp2
      go_ret
      exact ⟨rfl, Hm2.out, Hbel.out⟩
end Go.Proofs.YtmbekchnfbmhbaaGreat

/- back. -/
namespace Go.Proofs.YtmbekchnfbmhbaaGreat
open Go.RowKit Go.Lib
open Go.Maps (Keyed)

/-- The greatest level below one, or nothing. -/
theorem backGo_is (M : Tr) (lv : Int) : ∀ (c : List Int) (n m : Int), n ≤ m → (∀ x ∈ c, levOf M x < lv → levOf M x ≤ m) → (m = n ∨ ∃ x ∈ c, levOf M x < lv ∧ levOf M x = m) → backGo M lv c n = m
  | [], n, m, _, _, h => by
    rcases h with h | ⟨x, hx, _⟩
    · exact h.symm
    · cases hx
  | x :: r, n, m, hn, h1, h2 => by
    unfold backGo
    have hx := h1 x List.mem_cons_self
    refine backGo_is M lv r _ m ?_ (fun y hy => h1 y (List.mem_cons_of_mem _ hy)) ?_
    · split
      · rename_i h; have := hx h; omega
      · exact hn
    · rcases h2 with h | ⟨y, hy, hl, he⟩
      · left
        split
        · rename_i h'; have := hx h'; omega
        · exact h
      · rcases List.mem_cons.1 hy with rfl | hy
        · left
          rw [if_pos hl]
          omega
        · exact .inr ⟨y, hy, hl, he⟩
theorem cnt_pos {M : Tr} {c : List Int} {k : Int} : cntM M c k ≠ 0 ↔ ∃ x ∈ c, levOf M x = k := by
  unfold cntM
  rw [← Nat.pos_iff_ne_zero, List.countP_pos_iff]
  simp
theorem cntF_int (M : Tr) (c : List Int) (k : Int) : cntF M c (.int .i64 k) = none ↔ cntM M c k = 0 := by
  unfold cntF
  simp

set_option maxHeartbeats 1000000 in
theorem back_fn {w : World} {B bt ba : Nat} {M : Tr} {A : Option Addr} {c : List Int} (cap : Nat) (lv : Int) (h : TT w B bt ba M) (hc : Row .i64 w A c) :
    Calls Tryz.prog 82 #[.pointer (some ⟨bt, 0, none⟩), .slice A c.length cap, .int .i64 lv] w fun e w' => e = .returned (.int .i64 (backN M c lv)) ∧ Below w.heap.size w w' := by
  have K1 := count_fn cap h hc
  have hok := h.ok
  have hrange := fun x => levelOf_range hok (x / 2)
  have Hrange := Lib.hid hrange
  clear h hc hok hrange
  go_enter Tryz.func82, Tryz.ntmps82
  go_wp2_with (first
    | (go_at_call 78; (with_reducible refine K1.mono ?_); rintro e w1 ⟨rfl, hm1, hb1⟩; obtain ⟨D, hown, hD⟩ := hm1; have HD := Lib.hid hD; have HB1 := Lib.hid hb1; clear hb1 hD)
    | (at_range; refine wpList_range_own _ rfl _ 100 rfl 3 3 int_key Tryz.underlying100 _ w.heap.size c.length D rfl hown ?_; intro w0 hrg0 hg0 hs0)
    | go_in)
  go_frame
  have hr1 : w.heap.size < w1.heap.size := hown.lt
  have hlt1 : w.heap.size ≤ w0.heap.size := by omega
  go_loopw [6] (fun v6 wr => ∃ (n : Int) (left : Lit → Bool) (cnt : Nat), v6 = .int .i64 n ∧ wr.ranges Tryz.prog 3 heldV w.heap.size w1.heap.size c.length D left cnt ∧ 0 ≤ n ∧ (∀ x ∈ c, left (.int .i64 (levOf M x)) = false → levOf M x < lv → levOf M x ≤ n) ∧ (n = 0 ∨ ∃ x ∈ c, levOf M x < lv ∧ levOf M x = n) ∧ Below w.heap.size w wr) (fun _ wr => wr.rangeLeft w.heap.size w1.heap.size)
  case atStart =>
    refine ⟨0, _, _, rfl, hrg0, Int.le_refl _, fun x hx hl _ => ?_, .inl rfl, HB1.out.grown hg0 (by omega) (fun j hj => by cases hj)⟩
    exfalso
    have hrx := Hrange.out x
    unfold levOf at hl
    have hk := int_key_of (x := levelOf M.L (x / 2)) (by omega) (by omega)
    have hat := HD.out _ _ hk
    have hne : cntF M c (.int .i64 (levelOf M.L (x / 2))) ≠ none := fun e => (cnt_pos.2 ⟨x, hx, rfl⟩) ((cntF_int M c _).1 e)
    cases hv : cntF M c (.int .i64 (levelOf M.L (x / 2))) with
    | none => exact hne hv
    | some v =>
      rw [hv] at hat
      rw [Maps.has_true_of_atKey hat] at hl
      cases hl
  case round =>
    obtain ⟨n, left, cnt, rfl, hrg, hn0, hmx, hach, hbel⟩ := hrel
    have Hmx := Lib.hid hmx
    have Hach := Lib.hid hach
    have Hbel := Lib.hid hbel
    clear hmx hach hbel
    go_wp2_with (first
      | (at_next; refine wpList_next_ranges _ rfl _ rfl 3 int_key heldV (Value.int .i64) id (fun key kl hk => by obtain ⟨x, rfl, _⟩ := Maps.keyOf_int_inv Tryz.underlying3 hk; exact ⟨x, rfl⟩) (fun v y _ => ⟨v, rfl⟩) w.heap.size w1.heap.size c.length D _ _ rfl hrg ?_ ?_)
      | go_in)
    · intro hc0 hl0
      go_wp2
      go_ret
      have hb : backN M c lv = n := backGo_is M lv c 0 n hn0 (fun x hx hl => Hmx.out x hx (hl0 _) hl) Hach.out
      exact ⟨by rw [hb]; rfl, Hbel.out⟩
    · intro x v kl y yp w2 cnt2 hkey hlk hv hat hrg2 hlt hg2 hs2 hen
      obtain ⟨x', ex, rfl, _⟩ := Maps.keyOf_int_inv Tryz.underlying3 hkey
      cases ex
      have hex : ∃ z ∈ c, levOf M z = x := by
        have h1 := HD.out _ _ hkey .nil
        rw [hat .nil] at h1
        have hy : y = .held v := (congrArg Prod.fst (Option.some.inj hv)).symm
        rw [hy] at h1
        refine cnt_pos.1 fun e => ?_
        rw [(cntF_int M c x).2 e] at h1
        cases h1
      obtain ⟨z, hz, hzx⟩ := hex
      have Hb2 := Lib.hid (Hbel.out.grown hg2 Hbel.out.size (fun j hj => by injection hj with hj; omega))
      have hmx2 : ∀ m, n ≤ m → (x < lv → x ≤ m) → ∀ y ∈ c, (fun z : Lit => left z && !z.sameKey (.int .i64 x)) (.int .i64 (levOf M y)) = false → levOf M y < lv → levOf M y ≤ m := by
        intro m hm hxm y hy hl hyl
        simp only [Bool.and_eq_false_iff, Bool.not_eq_false'] at hl
        rcases hl with hl | hl
        · have := Hmx.out y hy hl hyl; omega
        · have : levOf M y = x := by simpa [Lit.sameKey] using hl
          have := hxm (by omega); omega
      have Hmx2 := Lib.hid hmx2
      have Hzx := Lib.hid hzx
      have Hz := Lib.hid hz
      clear hmx2 hzx hz hv hat
      by_cases hxl : x < lv
      · have d1 : decide (x < lv) = true := decide_eq_true hxl
        go_wp2
        refine ⟨⟨max n x, _, cnt2, rfl, hrg2, by omega, Hmx2.out _ (by omega) (fun _ => by omega), ?_, Hb2.out⟩, by rw [hrg2.left_eq, hrg.left_eq]; exact hlt⟩
        rcases Int.le_total n x with h | h
        · exact .inr ⟨z, Hz.out, by rw [Hzx.out]; exact hxl, by rw [Hzx.out]; omega⟩
        · rw [show max n x = n by omega]; exact Hach.out
      · have d1 : decide (x < lv) = false := decide_eq_false hxl
        go_wp2
        exact ⟨⟨n, _, cnt2, rfl, hrg2, hn0, Hmx2.out _ (Int.le_refl _) (fun h => absurd h hxl), Hach.out, Hb2.out⟩, by rw [hrg2.left_eq, hrg.left_eq]; exact hlt⟩
end Go.Proofs.YtmbekchnfbmhbaaGreat

/- Asserts. -/
namespace Go.Proofs.YtmbekchnfbmhbaaGreat
open Go.RowKit Go.Lib
open Go.Maps (Keyed)

theorem cnt_look {w : World} {g n : Nat} {M : Tr} {c : List Int} (h : MapAt Tryz.prog 3 w g n (cntF M c)) (l : Int) (h0 : -9223372036854775808 ≤ l) (h1 : l ≤ 9223372036854775807) :
    (Instr.lookup 100 (.map (some g)) (.int .i64 l) false).run Tryz.prog w = .ok (.int .i64 (cntM M c l : Nat)) w := by
  refine (h.look int_key Tryz.underlying100 (zero_int w) (int_key_of h0 h1) false).trans ?_
  rw [← cntF_some]
  cases cntF M c (.int .i64 l) <;> rfl

theorem levelGo_range {M : Tr} (h : M.Ok) : ∀ (c : List Int) (n : Int), 0 ≤ n → n ≤ 65536 → ∀ m, levelGo M c n = some m → n ≤ m ∧ m ≤ 65536
  | [], n, h0, h1, m, hm => by
    injection hm with hm
    omega
  | x :: r, n, h0, h1, m, hm => by
    unfold levelGo at hm
    have hr := levelOf_range h (x / 2)
    split at hm
    · have := levelGo_range h r _ (by omega) (by unfold levOf; omega) m hm
      omega
    · cases hm
theorem levelM_range {M : Tr} (h : M.Ok) {c : List Int} {m : Int} (hm : levelM M c = some m) : 0 ≤ m ∧ m ≤ 65536 := by
  unfold levelM at hm
  split at hm
  · exact levelGo_range h c 0 (Int.le_refl _) (by omega) m hm
  · cases hm

/-- The literal that is alone at its level. -/
def topGo (M : Tr) (lv : Int) : List Int → Option Int
  | [] => none
  | x :: r => if levOf M x = lv then some x else topGo M lv r
def topV (o : Option Int) (b : Int) : Value := match o with
  | some x => .tuple #[.int .i64 x, .int .i64 b, .bool true]
  | none => .tuple #[.int .i64 0, .int .i64 0, .bool false]
def assertsM (M : Tr) (c : List Int) : Value := match levelM M c with
  | none => .tuple #[.int .i64 0, .int .i64 0, .bool false]
  | some lv => if lv = 0 then .tuple #[.int .i64 0, .int .i64 0, .bool false] else if cntM M c lv = 1 then topV (topGo M lv c) (backN M c lv) else .tuple #[.int .i64 0, .int .i64 0, .bool false]
end Go.Proofs.YtmbekchnfbmhbaaGreat

/- latest and its iterator. -/
namespace Go.Proofs.YtmbekchnfbmhbaaGreat
open Go.RowKit Go.Lib

theorem latest_fn {w : World} (A : Option Addr) (n c : Nat) :
    Calls Tryz.prog 77 #[.slice A n c] w fun e w' => e = .returned (.func (.func 92) #[] #[.pointer (some ⟨w.heap.size, 0, none⟩)]) ∧ w' = w.alloc (.cells #[.slice A n c] 23) := by
  go_enter Tryz.func77, Tryz.ntmps77
  go_wp2
  go_ret
  exact ⟨rfl, rfl⟩

set_option maxHeartbeats 2000000 in
theorem latest_iter (l b1 : Nat) (lits : List Int) (LA : Option Addr) (cl : Nat) (X : Nat → World → Prop) (Z : World → Prop) (hl : lits.length ≤ 1000000)
    (hXg : ∀ j W, X j W → Row .i64 W LA lits ∧ Blk W b1 23 #[.slice LA lits.length cl])
    (hY : ∀ (i : Nat) (W : World) (hi : i < lits.length), X (i + 1) W →
      ∃ fn tmps assign body, (Instr.yield l #[.int .i64 i, .int .i64 lits[i]]).run Tryz.prog W = .ok (.round l fn tmps assign body) W ∧
        RoundIn Fence.wide 0 Tryz.prog l fn tmps assign body W fun e W' => (e = .returned (.bool true) ∧ X i W') ∨ (e = .returned (.bool false) ∧ Z W'))
    (w : World) (hx0 : X lits.length w) :
    Calls Tryz.prog 92 #[.func (.yield l) #[] #[], .pointer (some ⟨b1, 0, none⟩)] w fun e W' => e = .returned (.tuple #[]) ∧ (X 0 W' ∨ Z W') := by
  have hg0 := hXg _ _ hx0
  have c0 := hg0.2.cell 0
  simp only [List.getElem?_toArray, List.getElem?_cons_zero] at c0
  have HXg := Lib.hid hXg
  have HY := Lib.hid hY
  have Hx0 := Lib.hid hx0
  clear hXg hY hx0 hg0
  go_enter Tryz.func92, Tryz.ntmps92
  go_wp2
  go_loopw [3] (fun vi wr => ∃ j : Nat, j ≤ lits.length ∧ vi = .int .i64 ((j : Int) - 1) ∧ X j wr) (fun vi _ => (intOf vi + 1).toNat)
  case atStart => exact ⟨lits.length, Nat.le_refl _, by go_num, Hx0.out⟩
  case round =>
    obtain ⟨j, hj, rfl, hx⟩ := hrel
    cases j with
    | zero =>
      have d1 : decide ((0 : Int) ≤ ((0 : Nat) : Int) - 1) = false := by decide
      have Hx := Lib.hid hx
      clear hx
      go_wp2
      go_end0
      exact ⟨rfl, .inl Hx.out⟩
    | succ i =>
      rw [show (((i + 1 : Nat) : Int) - 1) = i by omega]
      have d1 : decide ((0 : Int) ≤ (i : Int)) = true := by simp
      obtain ⟨hrow, hbk⟩ := HXg.out _ _ hx
      obtain ⟨b, off, hA, hb, hcell⟩ := hrow.at_.resolve_left (by omega)
      subst hA
      have y0 := hcell i (by omega)
      have c1 := hbk.cell 0
      simp only [List.getElem?_toArray, List.getElem?_cons_zero] at c1
      have t1 : (0 : Int) ≤ (i : Int) := by omega
      have t2 : (i : Int) < (lits.length : Int) := by omega
      obtain ⟨fn, tmps, assign, body, hyield, hround⟩ := HY.out i _ (by omega) hx
      clear hx hrow hbk hcell
      generalize lits[i]'(by omega) = x at *
      go_upto_region 3 with (fail)
      refine (wpIn_wide (n := 1)).1 ?_
      gi_wp2
      refine hround.mono ?_
      rintro e W5 (⟨rfl, hx5⟩ | ⟨rfl, hz5⟩)
      · have Hx5 := Lib.hid hx5
        clear hx5
        gi_wp2
        go_wp2
        exact ⟨⟨i, by omega, by go_num, Hx5.out⟩, by simp only [intOf]; omega⟩
      · have Hz5 := Lib.hid hz5
        clear hz5
        gi_wp2
        go_wp2
        refine bodyPost_ret (v := .tuple #[]) (by simp [results, Tryz.results92, go_sem]) rfl ?_
        exact ⟨rfl, .inr Hz5.out⟩
end Go.Proofs.YtmbekchnfbmhbaaGreat

/- count. -/
import Derived.Test.YtnfeggeahnjdeaaLrnA
import Derived.Test.YtnfeggeahnjdeaaMaps
import Derived.Deep.LoopGhost
namespace Go.Proofs.Ytnfeggeahnjdeaa
open Go.RowKit Go.Lib
open Go.Maps (Keyed)

theorem int_key : Keyed Try.prog 3 := Go.Maps.int_keyed Try.underlying3
theorem int_key_of {x : Int} (h0 : -9223372036854775808 ≤ x) (h1 : x ≤ 9223372036854775807) : keyOf Try.prog 3 (.int .i64 x) = some (.int .i64 x) :=
  Go.Maps.keyOf_int_mk Try.underlying3 (by simp [Lit.wf, IntKind.min, IntKind.max, IntKind.bits, IntKind.signed]; omega)
theorem zero_int (w : World) : (zeroValue 3).run Try.prog w = .ok (.int .i64 0) w := by kernel_rfl

theorem cnt_take (M : Tr) (c : List Int) (lv : Int) {k : Nat} (h : k < c.length) : cntM M (c.take (k + 1)) lv = cntM M (c.take k) lv + (if levOf M c[k] = lv then 1 else 0) := by
  unfold cntM
  rw [countP_take _ _ h]
  simp
theorem cntF_at (M : Tr) (c : List Int) {k : Nat} (h : k < c.length) : cntF M (c.take (k + 1)) (.int .i64 (levOf M c[k])) = some (.int .i64 ((cntM M (c.take k) (levOf M c[k]) : Nat) + 1)) := by
  unfold cntF
  simp only [cnt_take M c _ h, if_pos]
  rw [if_neg (by omega)]
  simp
theorem cntF_far (M : Tr) (c : List Int) {k : Nat} (h : k < c.length) (x : Value) (hx : x ≠ .int .i64 (levOf M c[k])) : cntF M (c.take (k + 1)) x = cntF M (c.take k) x := by
  unfold cntF
  split
  · rename_i y
    have hne : ¬ levOf M c[k] = y := fun e => hx (by rw [e])
    rw [cnt_take M c _ h, if_neg hne, Nat.add_zero]
  · rfl
theorem cnt_le (M : Tr) (c : List Int) (lv : Int) : cntM M c lv ≤ c.length := List.countP_le_length

set_option maxHeartbeats 1000000 in
theorem count_fn {w : World} {B bt ba : Nat} {M : Tr} {A : Option Addr} {c : List Int} (cap : Nat) (h : TT w B bt ba M) (hc : Row .i64 w A c) :
    Calls Try.prog 22 #[.pointer (some ⟨bt, 0, none⟩), .slice A c.length cap] w fun e w' => e = .returned (.map (some w.heap.size)) ∧ MapAt Try.prog 3 w' w.heap.size c.length (cntF M c) ∧ Below w.heap.size w w' := by
  have hlen := hc.len
  have hmm := @run_makeMap Try.prog
  have Hc := Lib.hid hc
  have H := Lib.hid h
  have Hok := Lib.hid h.ok
  have hmade := (MapAt.made Try.prog 3 w).congr (g := cntF M (c.take 0)) (fun key kl _ => by unfold cntF cntM; split <;> rfl)
  have Hmade := Lib.hid hmade
  clear h hc hmade
  go_enter Try.func22, Try.ntmps22
  go_wp2
  go_loopw [11] (fun vi wr => ∃ i : Nat, i ≤ c.length ∧ vi = .int .i64 i ∧ MapAt Try.prog 3 wr w.heap.size i (cntF M (c.take i)) ∧ Below w.heap.size w wr) (fun vi _ => (c.length - intOf vi).toNat)
  case atStart => exact ⟨0, Nat.zero_le _, rfl, Hmade.out, (Below.refl _ w).alloc (Nat.le_refl _) _⟩
  case round =>
    obtain ⟨i, hi, rfl, hm, hbel⟩ := hrel
    have Hbel := Lib.hid hbel
    have Hm := Lib.hid hm
    by_cases hlt : i < c.length
    · have d1 : decide ((i : Int) < c.length) = true := by simp; omega
      obtain ⟨b, off, hA, hb, hcell⟩ := (Hc.out.below hbel).at_.resolve_left (by omega)
      subst hA
      have y0 := hcell i hlt
      have hlv := levelOf_range Hok.out (c[i] / 2)
      have hT := H.out.below hbel
      have K3 := level_T hT (c[i] / 2)
      have Hat := Lib.hid (cntF_at M c hlt)
      have Hfar := Lib.hid (cntF_far M c hlt)
      have hcl := cnt_le M (c.take i) (levOf M c[i])
      have hsome := cntF_some M (c.take i) (levOf M c[i])
      have hml := hm.lt
      rw [List.length_take] at hcl
      unfold levOf at Hat Hfar hcl hsome
      clear hcell hT hbel hm
      generalize c[i] = x at *
      generalize levelOf M.L (x / 2) = l at *
      generalize hq : cntM M (c.take i) l = q at *
      have hk := int_key_of (x := l) (by omega) (by omega)
      have hstep : ∀ W, Below wr.heap.size wr W → ∃ W5, (Instr.lookup 53 (.map (some w.heap.size)) (.int .i64 l) false).run Try.prog W = .ok (.int .i64 (q : Nat)) W ∧ (Instr.mapUpdate 53 (.map (some w.heap.size)) (.int .i64 l) (.int .i64 ((q : Nat) + 1))).run Try.prog W = .ok () W5 ∧ MapAt Try.prog 3 W5 w.heap.size (i + 1) (cntF M (c.take (i + 1))) ∧ W.grownBy W5 (some w.heap.size) := by
        intro W hb4
        have hm4 := Hm.out.below hb4 hml
        have q1 := hm4.look int_key Try.underlying53 (zero_int W) hk false
        obtain ⟨w5, q2, hm5, hg5⟩ := hm4.store int_key Try.underlying53 (by unfold maxLen; omega) hk (.int .i64 ((q : Nat) + 1)) Hat.out Hfar.out
        refine ⟨w5, q1.trans ?_, q2, hm5, hg5⟩
        rw [← hsome]
        cases cntF M (c.take i) (.int .i64 l) <;> rfl
      have Hstep := Lib.hid hstep
      clear hq hstep hsome
      go_wp2_with (first
        | (go_at_call 20; (with_reducible refine (node_ok x _).mono ?_); rintro e w3 ⟨rfl, rfl⟩)
        | (go_at_call 19; (with_reducible refine K3.mono ?_); rintro e w4 ⟨rfl, hb4⟩; obtain ⟨w5, q1, q2, hm5, hg5⟩ := Hstep.out w4 hb4; have HM5 := Lib.hid hm5; have HB5 := Lib.hid (below_then Hbel.out (Nat.le_refl _) hb4); have HG5 := Lib.hid hg5; clear hb4 hm5 hg5))
      exact ⟨⟨i + 1, by omega, by go_num, HM5.out, Below.grown HB5.out HG5.out HB5.out.size (fun j hj => by injection hj with hj; omega)⟩, by simp only [intOf]; omega⟩
    · obtain rfl : i = c.length := by omega
      have d1 : decide ((c.length : Int) < c.length) = false := by simp
      rw [List.take_length] at hm
      have Hm2 := Lib.hid hm
      clear hm hbel
      go_wp2
      go_ret
      exact ⟨rfl, Hm2.out, Hbel.out⟩
end Go.Proofs.Ytnfeggeahnjdeaa

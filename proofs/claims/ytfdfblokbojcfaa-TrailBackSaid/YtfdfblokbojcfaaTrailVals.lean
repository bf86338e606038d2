/- TrailVals' walk. -/
import Derived.Test.YtfdfblokbojcfaaTrailL
import Derived.Test.YtfdfblokbojcfaaOpen
namespace Go.Proofs.Ytfdfblokbojcfaa
open Go.RowKit

/-- No level is above those that were begun. -/
def Good (M : Tr) : Prop := ∀ p ∈ M.L, p.level ≤ M.lv

theorem Good.put {M : Tr} (h : Good M) (lit reason : Int) : Good (putM M lit reason) := by
  unfold putM
  split
  · exact h
  · split
    · exact h
    · intro p hp
      rcases List.mem_append.1 hp with hp | hp
      · exact h p hp
      · obtain rfl : p = _ := List.mem_singleton.1 hp
        exact Int.le_refl _
theorem Good.begin_ {M : Tr} (h : Good M) : Good (beginM M) := by
  unfold beginM
  split
  · exact h
  · intro p hp
    have := h p hp
    show p.level ≤ ((M.lv + 1 : Nat) : Int)
    omega
theorem putM_n (M : Tr) (lit reason : Int) : (putM M lit reason).n = M.n := by
  unfold putM; split; rfl; split <;> rfl
theorem beginM_n (M : Tr) : (beginM M).n = M.n := by unfold beginM; split <;> rfl

theorem count_eq (n : Nat) (f : Nat → Bool) (a : Nat) (ha : a < n) (hf : f a = false) : (List.range n).countP (fun k => k == a || f k) = (List.range n).countP f + 1 := by
  induction n with
  | zero => omega
  | succ n ih =>
    rw [List.range_succ, List.countP_append, List.countP_append]
    by_cases h : a = n
    · subst h
      have : (List.range a).countP (fun k => k == a || f k) = (List.range a).countP f := by
        apply List.countP_congr
        intro k hk
        have : k ≠ a := by have := List.mem_range.1 hk; omega
        simp [this]
      rw [this]
      simp [hf]
    · rw [ih (by omega)]
      have : (n == a) = false := by simp; omega
      simp only [List.countP_cons, List.countP_nil, this, Bool.false_or]
      omega
/-- As many nodes have a value as were put. -/
theorem count_vals (n : Nat) : ∀ (L : List Pt), (∀ p ∈ L, 0 ≤ p.lit ∧ p.lit / 2 < n) → L.Pairwise (fun p q => p.lit / 2 ≠ q.lit / 2) → (List.range n).countP (fun nd : Nat => L.any (isAt nd)) = L.length
  | [], _, _ => by simp
  | p :: L, hb, hp => by
    rw [List.pairwise_cons] at hp
    have ih := count_vals n L (fun q hq => hb q (List.mem_cons_of_mem _ hq)) hp.2
    have hpb := hb p (List.mem_cons_self ..)
    have : ∀ nd : Nat, (p :: L).any (isAt nd) = ((nd == (p.lit / 2).toNat) || L.any (isAt nd)) := by
      intro nd
      rw [List.any_cons]
      have : isAt (nd : Int) p = (nd == (p.lit / 2).toNat) := by
        apply Bool.eq_iff_iff.2
        simp only [isAt, beq_iff_eq]
        omega
      rw [this]
    simp only [this]
    rw [count_eq n (fun nd : Nat => L.any (isAt nd)) (p.lit / 2).toNat (by omega) (by
      rw [List.any_eq_false]
      intro q hq
      have := hp.1 q hq
      simp only [isAt, beq_iff_eq]
      omega), ih, List.length_cons]
theorem any_find (L : List Pt) (nd : Int) : L.any (isAt nd) = (find L nd).isSome := by
  unfold find
  rw [Bool.eq_iff_iff, List.any_eq_true, List.find?_isSome]
theorem val_zero (L : List Pt) (nd : Nat) : (valOf L (2 * (nd : Int)) == 0) = !(L.any (isAt nd)) := by
  have e : (2 * (nd : Int)) / 2 = nd := by omega
  rw [any_find]
  unfold valOf
  rw [e]
  cases find L nd with
  | none => rfl
  | some p =>
    show (valAt p (2 * (nd : Int)) == 0) = false
    unfold valAt
    split <;> rfl
theorem level_neg {M : Tr} (hM : M.Ok) (nd : Nat) : decide (levelOf M.L nd < 0) = !(M.L.any (isAt nd)) := by
  rw [any_find]
  unfold levelOf
  cases hf : find M.L nd with
  | none => rfl
  | some p =>
    have := (hM.level p (find_mem hf).1).1
    simp
    exact this
theorem level_le {M : Tr} (hM : Good M) (nd : Int) : levelOf M.L nd ≤ M.lv := by
  unfold levelOf
  cases hf : find M.L nd with
  | none => simp only []; omega
  | some p => exact hM p (find_mem hf).1

set_option maxHeartbeats 1000000 in
theorem trailVals_walk (A0 : Option Addr) (l0 c0 : Nat) (z0 : List Int) (A1 : Option Addr) (l1 c1 : Nat) (B1 : Nat → Bool) (w : World) (w0 : IsRow .i64 w A0 l0 c0 z0) (w1 : IsBools w A1 l1 c1 B1) :
    Calls Try.prog 3 #[.slice A0 l0 c0, .slice A1 l1 c1] w fun e w' => e = .returned (.bool true) ∧ Below w.heap.size w w' := by
  by_cases h100 : 100 < l0
  · have d1 : decide ((100 : Int) < (l0 : Int)) = true := by simp; omega
    have hl0 : l0 ≤ maxLen := by
      rcases w0 with ⟨_, rfl, _⟩ | ⟨_, _, h1, h2, _⟩
      · omega
      · omega
    unfold maxLen at hl0
    clear w0 w1
    go_enter Try.func3, Try.ntmps3
    go_wp2_with (go_at_call 7; refine (wakes_ok _).mono ?_; rintro e w2 ⟨rfl, b2⟩)
    go_ret
    exact ⟨rfl, b2⟩
  · have d1 : decide ((100 : Int) < (l0 : Int)) = false := by simp; omega
    go_enter Try.func3, Try.ntmps3
    go_wp2_with fail
    refine (new_ok 60 (by omega) _ w.heap.size (Nat.le_refl _)).mono ?_
    rintro e wa ⟨bt, ba, rfl, ta, _, _, ba0⟩
    have hw0 := Lib.hid w0
    have hw1 := Lib.hid w1
    clear w0 w1
    go_wp2_with fail
    go_loopw [19] (fun i wr => ∃ (k : Nat) (M : Tr), k ≤ l0 ∧ i = .int .i64 k ∧ TT wr w.heap.size bt ba M ∧ M.n = 60 ∧ Good M ∧ Below w.heap.size w wr) (fun i _ => l0 - (intOf i).toNat)
    case atStart => exact ⟨0, _, Nat.zero_le _, rfl, ⟨_, ta⟩, rfl, (fun p hp => by cases hp), ba0⟩
    case round =>
      obtain ⟨k, M, hk, rfl, hT, hn, hG, hbel⟩ := hrel
      by_cases hlt : k < l0
      · obtain ⟨x0, rfl, hz⟩ : ∃ x, A0 = some x ∧ w.cell? (x.add k) = some (.int .i64 (z0.getD k 0)) := by
          rcases hw0.out with ⟨_, h, _⟩ | ⟨x, hx, h1, _, h3, h4, _⟩
          · omega
          · exact ⟨x, hx, h4 k (by omega)⟩
        have e0 : wr.cell? (x0.add k) = some (.int .i64 (z0.getD k 0)) := (hbel.cell (World.block_lt_of_cell? _ _ hz)).trans hz
        generalize z0.getD k 0 = lit at *
        have hsz := hbel.size
        by_cases hb : k < l1
        · obtain ⟨x1, rfl, hz1⟩ : ∃ x, A1 = some x ∧ w.cell? (x.add k) = some (.bool (B1 k)) := by
            rcases hw1.out with ⟨_, h, _⟩ | ⟨x, hx, h1, _, h4⟩
            · omega
            · exact ⟨x, hx, h4 k (by omega)⟩
          have e1 : wr.cell? (x1.add k) = some (.bool (B1 k)) := (hbel.cell (World.block_lt_of_cell? _ _ hz1)).trans hz1
          have d2 : decide (k < l1) = true := by simpa using hb
          clear hz hz1
          cases hB : B1 k with
          | true =>
            rw [hB] at e1
            clear hB
            go_wp2_with (first | (go_at_call 9; refine (begin_T hT).mono ?_; rintro e w2 ⟨rfl, hT2, hS2⟩) | (go_at_call 10; refine (put_T hT2 _ _).mono ?_; rintro e w3 ⟨rfl, hT3, hS3⟩))
            exact ⟨⟨k + 1, _, by omega, by go_num, hT3, by rw [putM_n, beginM_n, hn], hG.begin_.put _ _, (hbel.trans hS2.below).trans hS3.below⟩, by simp [intOf]; omega⟩
          | false =>
            rw [hB] at e1
            clear hB
            go_wp2_with (go_at_call 10; refine (put_T hT _ _).mono ?_; rintro e w3 ⟨rfl, hT3, hS3⟩)
            exact ⟨⟨k + 1, _, by omega, by go_num, hT3, by rw [putM_n, hn], hG.put _ _, hbel.trans hS3.below⟩, by simp [intOf]; omega⟩
        · have d2 : decide (k < l1) = false := by simpa using hb
          clear hz
          go_wp2_with (go_at_call 10; refine (put_T hT _ _).mono ?_; rintro e w3 ⟨rfl, hT3, hS3⟩)
          exact ⟨⟨k + 1, _, by omega, by go_num, hT3, by rw [putM_n, hn], hG.put _ _, hbel.trans hS3.below⟩, by simp [intOf]; omega⟩
      · obtain rfl : k = l0 := by omega
        have hM := hT.ok
        go_wp2_with fail
        refine (values_T hT).mono ?_
        rintro e w2 ⟨g, rfl, hg, hv, bv⟩
        rw [hn] at hv
        rw [hn]
        have hT2 := hT.below bv
        have hb2 := hbel.trans (bv.mono hbel.size)
        have hlen : (valsOf 60 M.L).length = 60 := by simp [valsOf]
        have hgs : g < w2.heap.size := hv.lt
        go_wp2_with fail
        go_loopw [47, 9] (fun i c wr => ∃ q : Nat, q ≤ 60 ∧ i = .int .i64 q ∧ c = .int .i64 ((List.range q).countP (fun nd : Nat => M.L.any (isAt nd)) : Nat) ∧ Below w2.heap.size w2 wr) (fun i _ _ => 60 - (intOf i).toNat)
        case atStart => exact ⟨0, Nat.zero_le _, rfl, rfl, Below.refl _ _⟩
        case round =>
          obtain ⟨q, hq, rfl, rfl, hbq⟩ := hrel
          have hTr := hT2.below hbq
          by_cases hlt2 : q < 60
          · have e1 : wr.cell? ⟨g, q, none⟩ = some (.int .i8 (valOf M.L (2 * (q : Int)))) := by
              rw [(hv.below hbq hgs).cell]
              simp [valCells, valsOf, hlt2]
            have d3 : decide ((M.lv : Int) < levelOf M.L q) = false := by have := level_le hG q; simp; omega
            have hz := val_zero M.L q
            have hln := level_neg hM q
            have hcnt : Hid ((List.range (q + 1)).countP (fun nd : Nat => M.L.any (isAt nd)) = (List.range q).countP (fun nd : Nat => M.L.any (isAt nd)) + (if M.L.any (isAt q) then 1 else 0)) := by
              apply Lib.hid
              rw [List.range_succ, List.countP_append]
              cases h : M.L.any (isAt (q : Int)) <;> simp [h]
            have hle : (List.range q).countP (fun nd : Nat => M.L.any (isAt nd)) ≤ q := by
              have := List.countP_le_length (p := fun nd : Nat => M.L.any (isAt nd)) (l := List.range q)
              simpa using this
            generalize hc0 : (List.range q).countP (fun nd : Nat => M.L.any (isAt nd)) = c at *
            clear hc0
            have hsz2 := hbq.size
            have hvv0 : valOf M.L ((q : Int) * 2) = valOf M.L (2 * (q : Int)) := by rw [Int.mul_comm]
            cases hb : M.L.any (isAt (q : Int)) with
            | true =>
              rw [hb] at hz hln hcnt
              simp only [Bool.not_true] at hz hln
              have hcnt2 := hcnt.out
              rw [if_pos rfl] at hcnt2
              have Hcnt := Lib.hid hcnt2
              clear hb hcnt hcnt2
              have hz2 : (valOf M.L (2 * (q : Int)) != 0) = true := by rw [bne, hz]; rfl
              generalize valOf M.L (2 * (q : Int)) = vv at *
              have HV := Lib.hid hvv0
              clear hvv0
              go_wp2_with fail
              refine (val_T hTr _).mono ?_
              rintro e w3 ⟨rfl, b3⟩
              rw [HV.out]
              have hT3 := hTr.below b3
              go_wp2_with fail
              refine (level_T hT3 _).mono ?_
              rintro e w4 ⟨rfl, b4⟩
              have hT4 := hT3.below b4
              go_wp2_with fail
              refine (level_T hT4 _).mono ?_
              rintro e w5 ⟨rfl, b5⟩
              have hT5 := hT4.below b5
              go_wp2_with fail
              refine (levels_T hT5).mono ?_
              rintro e w6 ⟨rfl, rfl⟩
              go_wp2_with fail
              have s3 := b3.size
              have s4 := b4.size
              exact ⟨⟨q + 1, by omega, by go_num, by rw [Hcnt.out]; go_num, ((hbq.trans (b3.mono hsz2)).trans (b4.mono (by omega))).trans (b5.mono (by omega))⟩, by simp [intOf]; omega⟩
            | false =>
              rw [hb] at hz hln hcnt
              simp only [Bool.not_false] at hz hln
              have hcnt2 := hcnt.out
              rw [if_neg (by decide), Nat.add_zero] at hcnt2
              have Hcnt := Lib.hid hcnt2
              clear hb hcnt hcnt2
              have hz2 : (valOf M.L (2 * (q : Int)) != 0) = false := by rw [bne, hz]; rfl
              generalize valOf M.L (2 * (q : Int)) = vv at *
              have HV := Lib.hid hvv0
              clear hvv0
              go_wp2_with fail
              refine (val_T hTr _).mono ?_
              rintro e w3 ⟨rfl, b3⟩
              rw [HV.out]
              have hT3 := hTr.below b3
              go_wp2_with fail
              refine (level_T hT3 _).mono ?_
              rintro e w4 ⟨rfl, b4⟩
              have hT4 := hT3.below b4
              go_wp2_with fail
              refine (level_T hT4 _).mono ?_
              rintro e w5 ⟨rfl, b5⟩
              have hT5 := hT4.below b5
              go_wp2_with fail
              refine (levels_T hT5).mono ?_
              rintro e w6 ⟨rfl, rfl⟩
              go_wp2_with fail
              have s3 := b3.size
              have s4 := b4.size
              exact ⟨⟨q + 1, by omega, by go_num, by rw [Hcnt.out, Nat.add_zero], ((hbq.trans (b3.mono hsz2)).trans (b4.mono (by omega))).trans (b5.mono (by omega))⟩, by simp [intOf]; omega⟩
          · obtain rfl : q = 60 := by omega
            have hcv : (List.range 60).countP (fun nd : Nat => M.L.any (isAt nd)) = M.L.length := by
              have := count_vals 60 M.L (fun p hp => by have := hM.lit p hp; rw [hn] at this; exact this) hM.nodup
              exact this
            rw [hcv]
            have hbr := hb2.trans (hbq.mono hb2.size)
            clear hcv
            go_wp2_with fail
            refine (all_T hTr).mono ?_
            rintro e w3 ⟨v3, rfl, o3, b3⟩
            have hT3 := hTr.below b3
            obtain ⟨A3, k3, rfl, i3⟩ := o3.form
            rw [List.length_map]
            go_wp2_with fail
            refine (behind_T hT3 (-1)).mono ?_
            rintro e w4 ⟨v4, rfl, o4, b4⟩
            have hT4 := hT3.below b4
            rw [show clampAt (-1) M.L.length = 0 by unfold clampAt; omega, List.drop_zero] at o4
            obtain ⟨A4, k4, rfl, i4⟩ := o4.form
            go_wp2_with fail
            refine (all_T hT4).mono ?_
            rintro e w5 ⟨v5, rfl, o5, b5⟩
            obtain ⟨A5, k5, rfl, i5⟩ := o5.form
            obtain ⟨A6, k6, e6, i6⟩ := (o4.below b5).form
            injection e6 with e61 e62 e63
            subst e61 e63
            have hlen5 := hM.len
            have hN5 := hM.n
            have hb5 := below_then (below_then (below_then hbr (Nat.le_refl _) b3) (Nat.le_refl _) b4) (Nat.le_refl _) b5
            have hml : (M.L.map Pt.lit).length ≤ 9223372036854775807 := by rw [List.length_map]; omega
            rw [List.length_map] at i5 i6 hml
            clear hbr b3 b4 b5 o3 o4 o5 i3 i4 hT3 hT4 hTr hT hT2 hv bv hb2 hbq hbel ta ba0
            go_wp2_with fail
            refine (ints_same i6 i5 hml).mono ?_
            rintro e w6 ⟨rfl, n6, rfl⟩
            have hb6 := below_drewN hb5 n6
            go_wp2_with fail
            refine (wakes_ok _).mono ?_
            rintro e w7 ⟨rfl, b7⟩
            have hb7 := below_then hb6 (Nat.le_refl _) b7
            go_wp2_with fail
            go_ret
            exact ⟨rfl, hb7⟩
end Go.Proofs.Ytfdfblokbojcfaa

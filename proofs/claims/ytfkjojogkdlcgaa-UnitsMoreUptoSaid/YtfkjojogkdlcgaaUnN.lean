/- The reference's Values. -/
import Derived.Test.YtfkjojogkdlcgaaUnM
namespace Go.Proofs.Ytfkjojogkdlcgaa
open Go.RowKit Go.Lib

theorem fits_ok (x : Int) (w : World) : Calls Try.prog 34 #[.int .i64 x] w fun e w' => e = .returned (.bool (!wideM x)) ∧ w = w' := by
  unfold wideM
  by_cases h0 : x < 0
  · have d0 : decide ((0 : Int) ≤ x) = false := decide_eq_false (by omega)
    rw [decide_eq_true h0, Bool.true_or]
    clear h0
    go_enter Try.func34, Try.ntmps34
    go_wp2
    go_ret
    exact ⟨rfl, rfl⟩
  · have d0 : decide ((0 : Int) ≤ x) = true := decide_eq_true (by omega)
    rw [decide_eq_false h0, Bool.false_or]
    by_cases h1 : 1048576 < x
    · have d1 : decide (x ≤ (1048576 : Int)) = false := decide_eq_false (by omega)
      rw [decide_eq_true h1]
      clear h0 h1
      go_enter Try.func34, Try.ntmps34
      go_wp2
      go_ret
      exact ⟨rfl, rfl⟩
    · have d1 : decide (x ≤ (1048576 : Int)) = true := decide_eq_true (by omega)
      rw [decide_eq_false h1]
      clear h0 h1
      go_enter Try.func34, Try.ntmps34
      go_wp2
      go_ret
      exact ⟨rfl, rfl⟩

/-- Rows of ints of the call's own are as they were. -/
def KeepI (w w' : World) : Prop := ∀ base v n xs, w.ownsRow base 3 1 v n xs → w'.ownsRow base 3 1 v n xs
theorem KeepI.refl (w : World) : KeepI w w := fun _ _ _ _ h => h
theorem KeepI.trans {a b c : World} (h : KeepI a b) (k : KeepI b c) : KeepI a c := fun _ _ _ _ o => k _ _ _ _ (h _ _ _ _ o)
theorem KeepI.alloc (w : World) (o : Obj) : KeepI w (w.alloc o) := fun _ _ _ _ h => h.alloc o
theorem KeepI.grown {w w' : World} {base n : Nat} {va : Value} {xs : List Value} (ho : w.ownsRow base 27 1 va n xs) (hg : w.grownBy w' va.ownBlock) : KeepI w w' := fun _ v _ _ h => own_grown h hg fun g hg' e => own_own_ne h ho (by decide) hg' e.symm
theorem KeepI.set {w : World} {base n g i : Nat} {va : Value} {xs : List Value} (ho : w.ownsRow base 27 1 va n xs) (hb : va.ownBlock = some g) (u : Value) : KeepI w (w.setCell ⟨g, i, none⟩ u) := fun _ v _ _ h => own_setFar h (fun e => own_own_ne h ho (by decide) e hb) u
/-- An assignment of the reference's, as it lies in memory. -/
def AV (w : World) (B : Nat) (va : Value) (A : List Int) : Prop := w.ownsRow B 27 1 va A.length (A.map (Value.int .i8))
theorem AV.row {w : World} {B : Nat} {va : Value} {A : List Int} (h : AV w B va A) (hl : A.length ≤ 1000000) : ∃ AA cap, va = .slice AA A.length cap ∧ Row .i8 w AA A := by
  rcases h.2 with ⟨rfl, h0⟩ | ⟨ga, cap, cur, rfl, hb, hh, hc, hM, hs, ht⟩
  · exact ⟨none, 0, by rw [h0], hl, .inl h0⟩
  · refine ⟨_, cap, rfl, hl, .inr ⟨ga, 0, rfl, (Array.getElem?_eq_some_iff.1 hh).1, fun i hi => ?_⟩⟩
    have h' : w.ownsRow B 27 1 (.slice (some ⟨ga, 0, none⟩) A.length cap) A.length (A.map (Value.int .i8)) := h
    rw [Nat.zero_add, h'.cellAt i (by omega), List.getElem?_map, List.getElem?_eq_getElem hi]
    rfl
structure WidePost (w w' : World) (B : Nat) (va' : Value) (A' lits : List Int) (m : Nat) : Prop where
  av : AV w' B va' A'
  rep : Rep A' lits
  len : A'.length = m
  bel : Below B w w'
  keep : KeepI w w'
def SomeWide (w : World) (B : Nat) (lits : List Int) (m : Nat) (e : Ending) (w' : World) : Prop := ∃ va' A', e = .returned va' ∧ WidePost w w' B va' A' lits m
theorem own_base_le {w : World} {B n : Nat} {va : Value} {xs : List Value} {e : TypeId} (h : w.ownsRow B e 1 va n xs) : ∀ k, va.ownBlock = some k → B ≤ k := fun k hk => (h.lt k hk).1

set_option maxHeartbeats 1000000 in
theorem wide16_ok {w : World} {B : Nat} {va : Value} {A lits : List Int} {q : Nat} (h : AV w B va A) (hr : Rep A lits) (hq : q ≤ 600000) (hA : A.length ≤ 600001) (hB : B ≤ w.heap.size) :
    Calls Try.prog 43 #[va, .int .i64 q] w (SomeWide w B lits (Nat.max A.length (q + 1))) := by
  obtain ⟨i0, hi, hz0, hz1, hz2⟩ := info_parts int8_info
  have H := Lib.hid h
  have Hr := Lib.hid hr
  clear h hr
  go_enter Try.func43, Try.ntmps43
  go_wp2
  go_loopg [0] (q + 1) (fun g v wr => ∃ A' : List Int, WidePost w wr B v A' lits A'.length ∧ q + 1 ≤ g + A'.length ∧ A.length ≤ A'.length ∧ (A'.length = A.length ∨ A'.length ≤ q + 1))
  case atStart => exact ⟨A, ⟨H.out, Hr.out, rfl, Below.refl _ _, KeepI.refl _⟩, by omega, Nat.le_refl _, .inl rfl⟩
  case round =>
    obtain ⟨A', hP, hlen, hge, hmx⟩ := hrel
    obtain ⟨ad, cap, rfl⟩ := own_slice hP.av
    have HP := Lib.hid hP
    clear hP
    by_cases hc : A'.length ≤ q
    · cases gk with
      | zero => omega
      | succ n =>
        have d1 : decide ((A'.length : Int) ≤ (q : Int)) = true := by simp; omega
        have X1 := Lib.hid (show (A'.length + 1) * 1 ≤ 140737488355328 by omega)
        have Xb := Lib.hid (show B ≤ wr.heap.size from Nat.le_trans hB HP.out.bel.size)
        have Hc := Lib.hid hc
        go_wp2_with (at_builtin; refine list_push _ rfl (.tmp 9) (.tmp 10) 24 rfl B 27 i0 (.int .i8 0) 1 1 Try.underlying24 hi hz0 hz1 hz2 rfl (by decide) _ A'.length (A'.map (Value.int .i8)) rfl (World.ownsRow.alloc HP.out.av _) wr.heap.size #[.int .i8 0] rfl (Blk.new wr _ _) rfl (by intro u hu; rw [List.mem_singleton.1 hu]; rfl) X1.out (by decide) Xb.out ?_; intro ga ca w3 ho3 hg3 _ _; have HO3 := Lib.hid ho3; have HB3 := Lib.hid (Below.grown (HP.out.bel.alloc Xb.out _) hg3 (Nat.le_trans Xb.out (by simp)) (own_base_le HP.out.av)); have HK3 := Lib.hid ((HP.out.keep.trans (KeepI.alloc _ _)).trans (KeepI.grown (World.ownsRow.alloc HP.out.av _) hg3)); clear ho3 hg3)
        go_roundg n
        case measure => omega
        case rel => exact ⟨A' ++ [0], ⟨by unfold AV; rw [List.length_append, List.map_append]; exact HO3.out, rep_grow HP.out.rep 1, rfl, HB3.out, HK3.out⟩, by rw [List.length_append]; simp; omega, by rw [List.length_append]; simp; omega, .inr (by rw [List.length_append]; have := Hc.out; simp; omega)⟩
    · have d1 : decide ((A'.length : Int) ≤ (q : Int)) = false := by simp; omega
      have Hm := Lib.hid (show A'.length = Nat.max A.length (q + 1) by show A'.length = max A.length (q + 1); omega)
      clear hlen hge hmx
      go_wp2
      go_ret
      exact ⟨_, A', rfl, HP.out.av, HP.out.rep, Hm.out, HP.out.bel, HP.out.keep⟩

set_option maxHeartbeats 1000000 in
theorem put16_ok {w : World} {B : Nat} {va : Value} {A lits : List Int} {lit : Int} {q : Nat} (h : AV w B va A) (hr : Rep A lits) (hq : lit / 2 = q) (h0 : 0 ≤ lit) (hl : lit ≤ 1048576) (hv : valL lits lit = 0) (hA : A.length ≤ 600001) (hB : B ≤ w.heap.size) :
    Calls Try.prog 35 #[va, .int .i64 lit] w (SomeWide w B (lits ++ [lit]) (Nat.max A.length (q + 1))) := by
  have K1 := wide16_ok h hr (q := q) (by omega) hA hB
  have Hv := Lib.hid hv
  have Hq := Lib.hid hq
  clear h hr hv
  go_enter Try.func35, Try.ntmps35
  go_upto_region 2 with (go_at_call 43; (with_reducible refine K1.mono ?_); rintro e w1 ⟨va1, A1, rfl, hP⟩; have HP := Lib.hid hP; clear hP)
  have hlt : q < A1.length := by rw [HP.out.len]; show q < max A.length (q + 1); omega
  obtain ⟨ga, cap, rfl, _, hgw, hcap⟩ := own_form HP.out.av (by omega)
  have hav : w1.ownsRow B 27 1 (.slice (some ⟨ga, 0, none⟩) A1.length cap) A1.length (A1.map (Value.int .i8)) := HP.out.av
  have y0 : w1.cell? ⟨ga, q, none⟩ = some (.int .i8 A1[q]) := by rw [hav.cellAt q (by omega), List.getElem?_map, List.getElem?_eq_getElem hlt]; rfl
  have f0 := own_frozen hav q
  generalize A1[q] = v at y0
  have t1 : (0 : Int) ≤ (q : Int) := by omega
  have t2 : (q : Int) < (A1.length : Int) := by omega
  have Hset := Lib.hid (show ∀ W : World, W.ownsRow B 27 1 (.slice (some ⟨ga, 0, none⟩) A1.length cap) A1.length ((A1.set q (1 + lit % 2)).map (Value.int .i8)) → Below B w W → KeepI w W → WidePost w W B (.slice (some ⟨ga, 0, none⟩) A1.length cap) (A1.set q (1 + lit % 2)) (lits ++ [lit]) (Nat.max A.length (q + 1)) from fun W ho hb hk =>
    ⟨by unfold AV; rw [List.length_set]; exact ho, rep_set HP.out.rep Hv.out Hq.out hlt, by rw [List.length_set]; exact HP.out.len, hb, hk⟩)
  have hgB : B ≤ ga := own_base_le hav ga rfl
  have Hav := Lib.hid hav
  clear hav K1
  rcases (show lit % 2 = 0 ∨ lit % 2 = 1 by omega) with hp | hp
  · rw [hp] at Hset
    have s1 := (World.ownsRow.stored Hav.out q (.int .i8 1)).1
    have S1 := Lib.hid (Hset.out _ (by rw [List.map_set]; exact s1) (HP.out.bel.setCell hgB _) (HP.out.keep.trans (KeepI.set Hav.out rfl _)))
    clear s1
    go_wp2
    go_ret
    exact ⟨_, _, rfl, S1.out⟩
  · rw [hp] at Hset
    have s1 := World.ownsRow.stored Hav.out q (.int .i8 1)
    have s2 := (World.ownsRow.stored s1.1 q (.int .i8 2)).1
    rw [List.set_set] at s2
    have S1 := Lib.hid (Hset.out _ (by rw [List.map_set]; exact s2) ((HP.out.bel.setCell hgB _).setCell hgB _) ((HP.out.keep.trans (KeepI.set Hav.out rfl _)).trans (KeepI.set s1.1 rfl _)))
    clear s1 s2
    go_wp2
    go_ret
    exact ⟨_, _, rfl, S1.out⟩
end Go.Proofs.Ytfkjojogkdlcgaa

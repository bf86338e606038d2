/- All, both. -/
import Derived.Test.YtiklliiamljogaaGreatDoorTreeR
import Derived.Laws.IdiomStrings
namespace Go.Proofs.YtiklliiamljogaaGreatDoor
open Go.RowKit

theorem sk_idem : ∀ (b : Bool) (l : List UInt8), sk false (l.drop (sk b l)) = 0
  | b, [] => by cases b <;> rfl
  | false, c :: r => by
    rw [sk_f]
    split
    · rw [Nat.add_comm, List.drop_succ_cons]; exact sk_idem true r
    · split
      · rw [Nat.add_comm, List.drop_succ_cons]; exact sk_idem false r
      · rename_i h1 h2
        rw [List.drop_zero, sk_f, if_neg h1, if_neg h2]
  | true, c :: r => by
    rw [sk_c]
    split
    · rw [Nat.add_comm, List.drop_succ_cons]; exact sk_idem false r
    · rw [Nat.add_comm, List.drop_succ_cons]; exact sk_idem true r

theorem rd_fuel (L : List UInt8) : ∀ f g, (∀ p, p ≤ L.length → 2 * (L.length - p) + 1 ≤ f → 2 * (L.length - p) + 1 ≤ g → readF L f p = readF L g p) ∧ (∀ p acc, p ≤ L.length → 2 * (L.length - p) + 2 ≤ f → 2 * (L.length - p) + 2 ≤ g → listF L f p acc = listF L g p acc)
  | 0, _ => ⟨fun p _ h _ => by omega, fun p acc _ h _ => by omega⟩
  | f + 1, 0 => ⟨fun p _ _ h => by omega, fun p acc _ _ h => by omega⟩
  | f + 1, g + 1 => by
    obtain ⟨ih1, ih2⟩ := rd_fuel L f g
    refine ⟨fun p hp hf hg => ?_, fun p acc hp hf hg => ?_⟩
    · unfold readF
      by_cases he : L.drop (startL L p) = []
      · rw [if_pos he, if_pos he]
      · rw [if_neg he, if_neg he]
        cases hr : tok (L.drop (startL L p)) with
        | none => rfl
        | some r =>
          have hl := tok_len hr
          have := startL_le L p hp
          have := startL_ge L p
          rw [List.length_drop] at hl
          dsimp only
          rw [ih2 (startL L p + r.n) [] (by omega) (by omega) (by omega)]
    · unfold listF
      cases hc : closes L p with
      | some q => rfl
      | none =>
        dsimp only
        rw [ih1 p hp (by omega) (by omega)]
        cases hy : readF L g p with
        | err n e => rfl
        | ok y q =>
          have h1 := (rd_ok L g).1 _ _ _ hp hy
          exact ih2 q (acc ++ [y]) h1.2 (by omega) (by omega)
theorem startL_idem (L : List UInt8) (p : Nat) : startL L (startL L p) = startL L p := by
  have h := sk_idem false (L.drop p)
  rw [List.drop_drop] at h
  unfold startL
  rw [h]
  omega
theorem readP_start (L : List UInt8) (p : Nat) (hp : p ≤ L.length) : readP L (startL L p) = readP L p := by
  have h1 := startL_le L p hp
  have h2 := startL_ge L p
  unfold readP
  rw [(rd_fuel L (2 * (L.length - startL L p) + 1) (2 * (L.length - p) + 1)).1 _ h1 (Nat.le_refl _) (by omega)]
  conv => lhs; unfold readF
  conv => rhs; unfold readF
  rw [startL_idem]
theorem topP_start (L : List UInt8) (p : Nat) (hp : p ≤ L.length) : topP L (startL L p) = topP L p := by
  unfold topP
  rw [readP_start L p hp]
theorem topP_ok {L : List UInt8} {p q : Nat} {x : Sx} (hp : p ≤ L.length) (h : topP L p = .ok x q) : p < q ∧ q ≤ L.length ∧ readP L p = .ok x q ∧ x.depth ≤ 60 := by
  unfold topP at h
  cases hr : readP L p with
  | err n e => rw [hr] at h; cases h
  | ok y n =>
    rw [hr] at h
    dsimp only at h
    split at h
    · cases h
    · injection h with h1 h2
      subst h1 h2
      have := (rd_ok L _).1 p y n hp hr
      exact ⟨this.1, this.2, rfl, by omega⟩
theorem topP_err {L : List UInt8} {p n : Nat} {e : Int} (hp : p ≤ L.length) (h : topP L p = .err n e) : e ≠ 0 := by
  unfold topP at h
  cases hr : readP L p with
  | err n' e' =>
    rw [hr] at h
    injection h with h1 h2
    subst h2
    rcases (rd_err L _).1 p n' e' hp (Nat.le_refl _) hr with h | h <;> omega
  | ok y n =>
    rw [hr] at h
    dsimp only at h
    split at h
    · injection h with h1 h2; omega
    · cases h

/-- All of a text: what is read, where it ends, which error. -/
def allF (L : List UInt8) : Nat → Nat → List Sx → List Sx × Nat × Int
  | 0, p, acc => (acc, p, 0)
  | f + 1, p, acc => if startL L p = L.length then (acc, startL L p, 0) else match topP L p with
    | .ok x n => allF L f n (acc ++ [x])
    | .err _ c => (acc, startL L p, c)

set_option maxHeartbeats 2000000 in
set_option maxRecDepth 100000 in
theorem rall_ok (s : ByteArray) (w : World) (hs : s.size ≤ 1000000) : Calls Tryz.prog 39 #[.string s] w fun e w' => (∃ sv cs, Acc w' w.heap.size sv cs (allF (byts s) (s.size + 1) 0 []).1 ∧ e = .returned (.tuple #[sv, .int .i64 (allF (byts s) (s.size + 1) 0 []).2.1, .int .i64 (allF (byts s) (s.size + 1) 0 []).2.2])) ∧ Below w.heap.size w w' := by
  obtain ⟨R, hR⟩ : ∃ R, allF (byts s) (s.size + 1) 0 [] = R := ⟨_, rfl⟩
  rw [hR]
  have HR := Lib.hid hR
  clear hR
  obtain ⟨i0, hi, hz0, hz1, hz2⟩ := info_parts sexp_info
  go_enter Tryz.func39, Tryz.ntmps39
  go_wp2
  go_loopw [5, 6] (fun sl v wx => ∃ (p f : Nat) (cs : List C3) (xs : List Sx), v = .int .i64 p ∧ p ≤ s.size ∧ s.size + 1 ≤ f + p ∧ allF (byts s) f p xs = R ∧ xs.length ≤ p ∧ Acc wx w.heap.size sl cs xs ∧ Below w.heap.size w wx) (fun _ v _ => (s.size - intOf v).toNat)
  case atStart => exact ⟨0, s.size + 1, [], [], rfl, Nat.zero_le _, by omega, HR.out, Nat.le_refl _, Acc.nil _ _, Below.refl _ _⟩
  case round =>
    obtain ⟨p, f, cs, xs, rfl, hp, hf, haf, hxp, hacc, hB⟩ := hrel
    clear HR
    obtain ⟨f, rfl⟩ : ∃ f', f = f' + 1 := ⟨f - 1, by omega⟩
    obtain ⟨A, cap, rfl⟩ := own_slice hacc.own
    have hst1 := startL_le (byts s) p (by rw [byts_len]; exact hp)
    have hst2 := startL_ge (byts s) p
    rw [byts_len] at hst1
    have hfp : fromI (p : Int) s.size = p := by unfold fromI; omega
    have hsk : Hid (∀ w, Calls Tryz.prog 64 #[.string s, .int .i64 p] w fun e w' => e = .returned (.int .i64 (startL (byts s) p)) ∧ w = w') := Lib.hid fun w => (rskip_ok s p w hs).mono (by
      rintro e w' ⟨rfl, rfl⟩
      rw [hfp]
      exact ⟨rfl, rfl⟩)
    have hrd : Hid (∀ w, Calls Tryz.prog 65 #[.string s, .int .i64 (p : Nat)] w fun e w' => RdIs (fun b => w.heap.size ≤ b) w' (topP (byts s) p) e ∧ Below w.heap.size w w') := Lib.hid fun w => (rRead s _ w hs).mono (by
      rw [if_neg (by omega)]
      rw [hfp]
      exact fun e w' h => h)
    obtain ⟨st, hst⟩ : ∃ st, startL (byts s) p = st := ⟨_, rfl⟩
    unfold allF at haf
    rw [hst, byts_len] at haf
    rw [hst] at hst1 hst2 hsk
    have HA := Lib.hid hacc
    clear hacc hst hfp
    by_cases hend : st = s.size
    · rw [if_pos hend] at haf
      have d1 : ((st : Int) == s.size) = true := beq_iff_eq.2 (by omega)
      have HF := Lib.hid haf
      have HE := Lib.hid hend
      clear haf hend hrd
      go_wp2_with (go_at_call 64; refine (hsk.out _).mono ?_; rintro e w1 ⟨rfl, rfl⟩)
      refine bodyPost_ret (v := .tuple #[.slice A cs.length cap, .int .i64 st, .int .i64 0]) (by simp [results, Tryz.results39, go_sem]) rfl ?_
      rw [← HF.out]
      exact ⟨⟨_, cs, HA.out, rfl⟩, hB⟩
    · rw [if_neg hend] at haf
      have d1 : ((st : Int) == s.size) = false := beq_eq_false_iff_ne.2 (by omega)
      cases ht : topP (byts s) p with
      | err n c =>
        rw [ht] at haf
        have b1 : (c != 0) = true := bne_iff_ne.2 (topP_err (by rw [byts_len]; exact hp) ht)
        have hrd2 : Hid (∀ w, Calls Tryz.prog 65 #[.string s, .int .i64 p] w fun e w' => e = .returned (.tuple #[.agg #[.int .i8 0, .string ⟨#[]⟩, .slice none 0 0], .int .i64 n, .int .i64 c]) ∧ Below w.heap.size w w') := Lib.hid fun w => (hrd.out w).mono (by rw [ht]; exact fun e w' h => h)
        have HF := Lib.hid haf
        clear haf ht hrd
        go_wp2_with (first
          | (go_at_call 64; refine (hsk.out _).mono ?_; rintro e w1 ⟨rfl, rfl⟩)
          | (go_at_call 65; refine (hrd2.out _).mono ?_; rintro e w2 ⟨rfl, hb2⟩))
        refine bodyPost_ret (v := .tuple #[.slice A cs.length cap, .int .i64 st, .int .i64 c]) (by simp [results, Tryz.results39, go_sem]) rfl ?_
        rw [← HF.out]
        have hbb : Below wr.heap.size wr (w2.alloc (.cells #[.int .i8 0, .string ⟨#[]⟩, .slice none 0 0] 28)) := hb2.alloc hb2.size _
        exact ⟨⟨_, cs, HA.out.keep hbb, rfl⟩, hB.trans (hbb.mono hB.size)⟩
      | ok x n =>
        rw [ht] at haf
        have htk := topP_ok (by rw [byts_len]; exact hp) ht
        rw [byts_len] at htk
        have hrd2 : Hid (∀ w, Calls Tryz.prog 65 #[.string s, .int .i64 p] w fun e w' => (∃ y : C3, Lies (fun b => w.heap.size ≤ b) w' y.val x ∧ e = .returned (.tuple #[.agg #[.int .i8 y.k, .string y.t, .slice y.A y.n y.c], .int .i64 n, .int .i64 0])) ∧ Below w.heap.size w w') := Lib.hid fun w => (hrd.out w).mono (by
          rw [ht]
          rintro e w' ⟨⟨v, hl, rfl⟩, hb⟩
          obtain ⟨y, rfl⟩ := hl.c3
          exact ⟨⟨y, hl, rfl⟩, hb⟩)
        have hp2 := htk.1
        have hn2 := htk.2.1
        have hlen := HA.out.len
        have hcs : (cs.length + 1) * 48 ≤ 140737488355328 := by omega
        have hBs := hB.size
        have HF := Lib.hid haf
        clear haf ht hrd htk hlen
        go_wp2_with (first
          | (go_at_call 64; refine (hsk.out _).mono ?_; rintro e w1 ⟨rfl, rfl⟩)
          | (go_at_call 65; refine (hrd2.out _).mono ?_; rintro e w4 ⟨⟨y, hly, rfl⟩, hb4⟩; have hs4 := hb4.size; have hbb4 : Below wr.heap.size wr (w4.alloc (.cells #[.int .i8 y.k, .string y.t, .slice y.A y.n y.c] 28)) := hb4.alloc hb4.size _; have hA5 := HA.out.keep hbb4; have HLY := Lib.hid hly; clear hly)
          | (at_builtin; have z1 := hA5.own.alloc (.cells #[.int .i8 y.k, .string y.t, .slice y.A y.n y.c] 28); have z2 : Blk ((w4.alloc (.cells #[.int .i8 y.k, .string y.t, .slice y.A y.n y.c] 28)).alloc (.cells #[.int .i8 y.k, .string y.t, .slice y.A y.n y.c] 28)) (w4.heap.size + 1) 28 #[.int .i8 y.k, .string y.t, .slice y.A y.n y.c] := Blk.new_at (by simp) _ _; have z4 : ∀ u ∈ (#[Value.int .i8 y.k, .string y.t, .slice y.A y.n y.c] : Array Value).toList, u.oneCell' = true := (by simp [Value.oneCell']); have z3 : w.heap.size ≤ w4.heap.size + 1 := (by omega); refine list_push _ rfl (.tmp 32) (.tmp 34) 26 rfl w.heap.size 28 i0 zeroX 3 48 Tryz.underlying26 hi hz0 hz1 hz2 rfl (by decide) (.slice A cs.length cap) cs.length (cs.flatMap C3.cells) rfl z1 (w4.heap.size + 1) #[.int .i8 y.k, .string y.t, .slice y.A y.n y.c] rfl z2 rfl z4 hcs (by decide) z3 ?_; intro g cap2 w5 hown hgrow hat hlt5))
        go_roundw
        case rel =>
          have hbb : Below (w4.alloc (.cells #[.int .i8 y.k, .string y.t, .slice y.A y.n y.c] 28)).heap.size (w4.alloc (.cells #[.int .i8 y.k, .string y.t, .slice y.A y.n y.c] 28)) ((w4.alloc (.cells #[.int .i8 y.k, .string y.t, .slice y.A y.n y.c] 28)).alloc (.cells #[.int .i8 y.k, .string y.t, .slice y.A y.n y.c] 28)) := (Below.refl _ _).alloc (Nat.le_refl _) _
          have hb44 : Below w4.heap.size w4 ((w4.alloc (.cells #[.int .i8 y.k, .string y.t, .slice y.A y.n y.c] 28)).alloc (.cells #[.int .i8 y.k, .string y.t, .slice y.A y.n y.c] 28)) := ((Below.refl _ w4).alloc (Nat.le_refl _) _).alloc (by simp) _
          have hAc := (HA.out.child hBs HLY.out).keep hb44
          have hA6 := (hA5.keep hbb).push (y := y) hAc hown hgrow hat
          have hk6 := (((hB.trans (hb4.mono hBs)).alloc (by omega) (.cells #[.int .i8 y.k, .string y.t, .slice y.A y.n y.c] 28)).alloc (by simp; omega) (.cells #[.int .i8 y.k, .string y.t, .slice y.A y.n y.c] 28)).grown hgrow (by simp; omega) (fun i hi => (hA5.own.lt i hi).1)
          refine ⟨n, f, cs ++ [y], xs ++ [x], rfl, hn2, by omega, HF.out, ?_, hA6, hk6⟩
          rw [List.length_append, List.length_singleton]; omega
        case measure => simp only [intOf]; omega

set_option maxHeartbeats 2000000 in
set_option maxRecDepth 100000 in
theorem all_ok3 (s : ByteArray) (w : World) (hs : s.size ≤ 1000000) : Calls Tryz.prog 38 #[.string s] w fun e w' => (∃ sv cs, Acc w' w.heap.size sv cs (allF (byts s) (s.size + 1) 0 []).1 ∧ e = .returned (.tuple #[sv, .int .i64 (allF (byts s) (s.size + 1) 0 []).2.1, .int .i64 (allF (byts s) (s.size + 1) 0 []).2.2])) ∧ Below w.heap.size w w' := by
  obtain ⟨R, hR⟩ : ∃ R, allF (byts s) (s.size + 1) 0 [] = R := ⟨_, rfl⟩
  rw [hR]
  have HR := Lib.hid hR
  clear hR
  obtain ⟨i0, hi, hz0, hz1, hz2⟩ := info_parts sexp_info
  go_enter Tryz.func38, Tryz.ntmps38
  go_wp2
  go_loopw [2, 3] (fun sl v wx => ∃ (p f : Nat) (cs : List C3) (xs : List Sx), v = .int .i64 p ∧ p ≤ s.size ∧ s.size + 1 ≤ f + p ∧ allF (byts s) f p xs = R ∧ xs.length ≤ p ∧ Acc wx w.heap.size sl cs xs ∧ Below w.heap.size w wx) (fun _ v _ => (s.size - intOf v).toNat)
  case atStart => exact ⟨0, s.size + 1, [], [], rfl, Nat.zero_le _, by omega, HR.out, Nat.le_refl _, Acc.nil _ _, Below.refl _ _⟩
  case round =>
    obtain ⟨p, f, cs, xs, rfl, hp, hf, haf, hxp, hacc, hB⟩ := hrel
    clear HR
    obtain ⟨f, rfl⟩ : ∃ f', f = f' + 1 := ⟨f - 1, by omega⟩
    obtain ⟨A, cap, rfl⟩ := own_slice hacc.own
    have hst1 := startL_le (byts s) p (by rw [byts_len]; exact hp)
    have hst2 := startL_ge (byts s) p
    rw [byts_len] at hst1
    have hfp : fromI (p : Int) s.size = p := by unfold fromI; omega
    have hsk : Hid (∀ w, Calls Tryz.prog 62 #[.string s, .int .i64 p] w fun e w' => e = .returned (.int .i64 (startL (byts s) p)) ∧ w = w') := Lib.hid fun w => (skip_ok s p w hs).mono (by
      rintro e w' ⟨rfl, rfl⟩
      rw [hfp]
      exact ⟨rfl, rfl⟩)
    have hrd : Hid (∀ w, Calls Tryz.prog 63 #[.string s, .int .i64 (startL (byts s) p : Nat)] w fun e w' => RdIs (fun b => w.heap.size ≤ b) w' (topP (byts s) p) e ∧ Below w.heap.size w w') := Lib.hid fun w => (Read_ s _ w hs).mono (by
      rw [if_neg (by omega)]
      rw [show fromI ((startL (byts s) p : Nat) : Int) s.size = startL (byts s) p by unfold fromI; omega, topP_start _ _ (by rw [byts_len]; exact hp)]
      exact fun e w' h => h)
    obtain ⟨st, hst⟩ : ∃ st, startL (byts s) p = st := ⟨_, rfl⟩
    unfold allF at haf
    rw [hst, byts_len] at haf
    rw [hst] at hst1 hst2 hsk hrd
    have HA := Lib.hid hacc
    clear hacc hst hfp
    by_cases hend : st = s.size
    · rw [if_pos hend] at haf
      have d1 : ((st : Int) == s.size) = true := beq_iff_eq.2 (by omega)
      have HF := Lib.hid haf
      have HE := Lib.hid hend
      clear haf hend hrd
      go_wp2_with (go_at_call 62; refine (hsk.out _).mono ?_; rintro e w1 ⟨rfl, rfl⟩)
      refine bodyPost_ret (v := .tuple #[.slice A cs.length cap, .int .i64 st, .int .i64 0]) (by simp [results, Tryz.results38, go_sem]) rfl ?_
      rw [← HF.out]
      exact ⟨⟨_, cs, HA.out, rfl⟩, hB⟩
    · rw [if_neg hend] at haf
      have d1 : ((st : Int) == s.size) = false := beq_eq_false_iff_ne.2 (by omega)
      cases ht : topP (byts s) p with
      | err n c =>
        rw [ht] at haf
        have b1 : (c != 0) = true := bne_iff_ne.2 (topP_err (by rw [byts_len]; exact hp) ht)
        have hrd2 : Hid (∀ w, Calls Tryz.prog 63 #[.string s, .int .i64 st] w fun e w' => e = .returned (.tuple #[.agg #[.int .i8 0, .string ⟨#[]⟩, .slice none 0 0], .int .i64 n, .int .i64 c]) ∧ Below w.heap.size w w') := Lib.hid fun w => (hrd.out w).mono (by rw [ht]; exact fun e w' h => h)
        have HF := Lib.hid haf
        clear haf ht hrd
        go_wp2_with (first
          | (go_at_call 62; refine (hsk.out _).mono ?_; rintro e w1 ⟨rfl, rfl⟩)
          | (go_at_call 63; refine (hrd2.out _).mono ?_; rintro e w2 ⟨rfl, hb2⟩))
        refine bodyPost_ret (v := .tuple #[.slice A cs.length cap, .int .i64 st, .int .i64 c]) (by simp [results, Tryz.results38, go_sem]) rfl ?_
        rw [← HF.out]
        have hbb : Below wr.heap.size wr (w2.alloc (.cells #[.int .i8 0, .string ⟨#[]⟩, .slice none 0 0] 28)) := hb2.alloc hb2.size _
        exact ⟨⟨_, cs, HA.out.keep hbb, rfl⟩, hB.trans (hbb.mono hB.size)⟩
      | ok x n =>
        rw [ht] at haf
        have htk := topP_ok (by rw [byts_len]; exact hp) ht
        rw [byts_len] at htk
        have hrd2 : Hid (∀ w, Calls Tryz.prog 63 #[.string s, .int .i64 st] w fun e w' => (∃ y : C3, Lies (fun b => w.heap.size ≤ b) w' y.val x ∧ e = .returned (.tuple #[.agg #[.int .i8 y.k, .string y.t, .slice y.A y.n y.c], .int .i64 n, .int .i64 0])) ∧ Below w.heap.size w w') := Lib.hid fun w => (hrd.out w).mono (by
          rw [ht]
          rintro e w' ⟨⟨v, hl, rfl⟩, hb⟩
          obtain ⟨y, rfl⟩ := hl.c3
          exact ⟨⟨y, hl, rfl⟩, hb⟩)
        have hp2 := htk.1
        have hn2 := htk.2.1
        have hlen := HA.out.len
        have hcs : (cs.length + 1) * 48 ≤ 140737488355328 := by omega
        have hBs := hB.size
        have HF := Lib.hid haf
        clear haf ht hrd htk hlen
        go_wp2_with (first
          | (go_at_call 62; refine (hsk.out _).mono ?_; rintro e w1 ⟨rfl, rfl⟩)
          | (go_at_call 63; refine (hrd2.out _).mono ?_; rintro e w4 ⟨⟨y, hly, rfl⟩, hb4⟩; have hs4 := hb4.size; have hbb4 : Below wr.heap.size wr (w4.alloc (.cells #[.int .i8 y.k, .string y.t, .slice y.A y.n y.c] 28)) := hb4.alloc hb4.size _; have hA5 := HA.out.keep hbb4; have HLY := Lib.hid hly; clear hly)
          | (at_builtin; have z1 := hA5.own.alloc (.cells #[.int .i8 y.k, .string y.t, .slice y.A y.n y.c] 28); have z2 : Blk ((w4.alloc (.cells #[.int .i8 y.k, .string y.t, .slice y.A y.n y.c] 28)).alloc (.cells #[.int .i8 y.k, .string y.t, .slice y.A y.n y.c] 28)) (w4.heap.size + 1) 28 #[.int .i8 y.k, .string y.t, .slice y.A y.n y.c] := Blk.new_at (by simp) _ _; have z4 : ∀ u ∈ (#[Value.int .i8 y.k, .string y.t, .slice y.A y.n y.c] : Array Value).toList, u.oneCell' = true := (by simp [Value.oneCell']); have z3 : w.heap.size ≤ w4.heap.size + 1 := (by omega); refine list_push _ rfl (.tmp 29) (.tmp 31) 26 rfl w.heap.size 28 i0 zeroX 3 48 Tryz.underlying26 hi hz0 hz1 hz2 rfl (by decide) (.slice A cs.length cap) cs.length (cs.flatMap C3.cells) rfl z1 (w4.heap.size + 1) #[.int .i8 y.k, .string y.t, .slice y.A y.n y.c] rfl z2 rfl z4 hcs (by decide) z3 ?_; intro g cap2 w5 hown hgrow hat hlt5))
        go_roundw
        case rel =>
          have hbb : Below (w4.alloc (.cells #[.int .i8 y.k, .string y.t, .slice y.A y.n y.c] 28)).heap.size (w4.alloc (.cells #[.int .i8 y.k, .string y.t, .slice y.A y.n y.c] 28)) ((w4.alloc (.cells #[.int .i8 y.k, .string y.t, .slice y.A y.n y.c] 28)).alloc (.cells #[.int .i8 y.k, .string y.t, .slice y.A y.n y.c] 28)) := (Below.refl _ _).alloc (Nat.le_refl _) _
          have hb44 : Below w4.heap.size w4 ((w4.alloc (.cells #[.int .i8 y.k, .string y.t, .slice y.A y.n y.c] 28)).alloc (.cells #[.int .i8 y.k, .string y.t, .slice y.A y.n y.c] 28)) := ((Below.refl _ w4).alloc (Nat.le_refl _) _).alloc (by simp) _
          have hAc := (HA.out.child hBs HLY.out).keep hb44
          have hA6 := (hA5.keep hbb).push (y := y) hAc hown hgrow hat
          have hk6 := (((hB.trans (hb4.mono hBs)).alloc (by omega) (.cells #[.int .i8 y.k, .string y.t, .slice y.A y.n y.c] 28)).alloc (by simp; omega) (.cells #[.int .i8 y.k, .string y.t, .slice y.A y.n y.c] 28)).grown hgrow (by simp; omega) (fun i hi => (hA5.own.lt i hi).1)
          refine ⟨n, f, cs ++ [y], xs ++ [x], rfl, hn2, by omega, HF.out, ?_, hA6, hk6⟩
          rw [List.length_append, List.length_singleton]; omega
        case measure => simp only [intOf]; omega
end Go.Proofs.YtiklliiamljogaaGreatDoor

/- May's parts: keywords, names. -/
namespace Go.Proofs.YtiklliiamljogaaGreatDoor
open Go.RowKit

/-- A string's bytes as they lie in a row. -/
def BytesAt (w : World) (b : Nat) (s : ByteArray) : Prop := ∀ j (h : j < s.size), w.cell? ⟨b, j, none⟩ = some (.int .u8 (s[j]'h).toNat)
theorem conv_at (w : World) (s : ByteArray) : ∃ cap W, (convert 9 52 (.string s)).run Tryz.prog w = .ok (.slice (some ⟨w.heap.size, 0, none⟩) s.size cap) W ∧ BytesAt W w.heap.size s ∧ Below w.heap.size w W := by
  have h := run_bytes_of_string (P := Tryz.prog) w 9 52 5 s Tryz.underlying9 Tryz.underlying52 Tryz.underlying5
  refine ⟨_, _, h, fun j hj => ?_, ?_⟩
  · have h1 := World.cell?_alloc_mark w.drew (bytesRow s (grownCap w s.size 0 5)) 5 ((bytesRow s (grownCap w s.size 0 5)).size, (bytesRow s (grownCap w s.size 0 5)).size + 1) j
    exact h1.trans (bytesRow_at s _ j hj)
  · have : Below w.heap.size w w.drew := (Below.refl _ w).drew
    exact this.alloc (Nat.le_refl _) _

/-- May a name be? -/
def mayL (t : List UInt8) : Bool := decide (t.length ≤ 100) && t.all fun c => insideN c.toNat
end Go.Proofs.YtiklliiamljogaaGreatDoor

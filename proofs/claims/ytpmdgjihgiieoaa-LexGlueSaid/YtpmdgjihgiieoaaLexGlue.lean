/- LexGlue: two texts with a line's end between. -/
import Derived.Test.YtpmdgjihgiieoaaLexO
import Derived.Laws.StructEq
namespace Go.Proofs.Ytpmdgjihgiieoaa
open Go.RowKit

theorem eq_tok (k : Int) (t : ByteArray) (a b : Int) (w : World) : (Op.equalIn 10000 29 (.agg #[.int .i8 k, .string t, .int .i64 a, .int .i64 b]) (.agg #[.int .i8 k, .string t, .int .i64 a, .int .i64 b])).run Try.prog w = .ok true w := by
  have u3 := Try.underlying3
  have u8 := Try.underlying27
  have us := Try.underlying9
  have hS : Try.prog.underlying 29 = some (.struct (Try.prog.fieldsOf 29)) := by kernel_rfl
  have hp : Try.prog.stoodInHeld 29 = false := by kernel_rfl
  rw [show (10000 : Nat) = 9999 + 1 from rfl, run_equalIn_agg w 9999 29 _ _ hS hp]
  simp only [Program.fieldsOf, Try.underlying29]
  go_simp
  try simp

theorem Lexes.bound {L : List UInt8} {p : Nat} {ts : List Tk} {e : Option Nat} (h : Lexes L p ts e) : p ≤ L.length → ∀ x ∈ ts, x.a ≤ L.length ∧ x.b ≤ L.length := by
  induction h with
  | done h => intro _ x hx; cases hx
  | bad h h2 => intro _ x hx; cases hx
  | @one p r ts e h h2 ih =>
    intro hp x hx
    have hl := tok_len h
    have h1 := startL_le L p hp
    rw [List.length_drop] at hl
    rcases List.mem_cons.1 hx with rfl | hx
    · exact ⟨h1, by simp only; omega⟩
    · exact ih (by omega) x hx
theorem below_al {B : Nat} {w w' : World} (h : Below B w w') (hB : B ≤ w'.heap.size) (o : Obj) (n : Nat) : Below B w ((w'.alloc o).drewN n) := below_drewN (h.alloc hB o) n

set_option maxHeartbeats 4000000 in
theorem LexGlue_true (w : World) (s u : ByteArray) :
    Calls Try.prog 4 #[.string s, .string u] w fun e w' => e = .returned (.bool true) ∧ Below w.heap.size w w' := by
  by_cases hs : 2000 < s.size
  · have d1 : decide ((2000 : Int) < s.size) = true := by simp; omega
    go_enter Try.func4, Try.ntmps4
    go_wp2_with (go_at_call 7; refine (wakes_ok _).mono ?_; rintro e w1 ⟨rfl, hb1⟩; have HB := Lib.hid hb1; clear hb1)
    go_ret
    exact ⟨rfl, HB.out⟩
  have d1 : decide ((2000 : Int) < s.size) = false := by simp; omega
  by_cases hu : 2000 < u.size
  · have d2 : decide ((2000 : Int) < u.size) = true := by simp; omega
    go_enter Try.func4, Try.ntmps4
    go_wp2_with (go_at_call 7; refine (wakes_ok _).mono ?_; rintro e w1 ⟨rfl, hb1⟩; have HB := Lib.hid hb1; clear hb1)
    go_ret
    exact ⟨rfl, HB.out⟩
  have d2 : decide ((2000 : Int) < u.size) = false := by simp; omega
  have hs6 : s.size ≤ 1000000 := by omega
  have hu6 : u.size ≤ 1000000 := by omega
  have hsum : (s ++ { data := #[10] } ++ u : ByteArray).size ≤ 1000000 := by
    have h1 : ({ data := #[10] } : ByteArray).size = 1 := rfl
    rw [ByteArray.size_append, ByteArray.size_append, h1]
    omega
  go_enter Try.func4, Try.ntmps4
  go_upto_region 4 with (go_at_call 8; refine (all_ok s _ hs6).mono ?_; rintro e w1 ⟨ta, ea, va, hla, rfl, hoa, hb1⟩; obtain ⟨Aa, ca, rfl⟩ := own_slice hoa; have Hla := Lib.hid hla; have Hoa := Lib.hid hoa; have HB1 := Lib.hid hb1; clear hla hoa hb1)
  go_upto_region 5 with (go_at_call 8; refine (all_ok u _ hu6).mono ?_; rintro e w2 ⟨tb, eb, vb, hlb, rfl, hob, hb2⟩; obtain ⟨Ab, cb, rfl⟩ := own_slice hob; have Hlb := Lib.hid hlb; have Hob := Lib.hid hob; have HB2 := Lib.hid hb2; clear hlb hob hb2)
  cases ea with
  | some m =>
    simp only [Option.isSome_some, if_true]
    have HB12 := Lib.hid (HB1.out.trans (HB2.out.mono HB1.out.size))
    go_wp2_with (go_at_call 7; refine (wakes_ok _).mono ?_; rintro e w3 ⟨rfl, hb3⟩; have HB := Lib.hid (HB12.out.trans (hb3.mono HB12.out.size)); clear hb3)
    all_goals (go_ret; exact ⟨rfl, HB.out⟩)
  | none =>
    cases eb with
    | some m =>
      simp only [Option.isSome_some, Option.isSome_none, if_true]
      have HB12 := Lib.hid (HB1.out.trans (HB2.out.mono HB1.out.size))
      go_wp2_with (go_at_call 7; refine (wakes_ok _).mono ?_; rintro e w3 ⟨rfl, hb3⟩; have HB := Lib.hid (HB12.out.trans (hb3.mono HB12.out.size)); clear hb3)
      all_goals (go_ret; exact ⟨rfl, HB.out⟩)
    | none =>
      simp only [Option.isSome_none, Bool.false_eq_true, if_false, Option.getD_none]
      obtain ⟨tz, htz⟩ : ∃ tz, ta ++ tb.map (Tk.shift (s.size + 1)) = tz := ⟨_, rfl⟩
      have hz : Hid (Lexes (byts (s ++ { data := #[10] } ++ u)) 0 tz none) := Lib.hid (by
        have h1 := Hla.out.glue rfl Hlb.out (Nat.zero_le _)
        rw [byts_len, htz] at h1
        rwa [show byts (s ++ { data := #[10] } ++ u) = byts s ++ 10 :: byts u by simp [byts]])
      have hzl : tz.length = ta.length + tb.length := by rw [← htz, List.length_append, List.length_map]
      have Htz := Lib.hid htz
      clear htz
      go_upto_region 8 with (go_at_call 8; refine (all_is _ _ hsum tz none (fun ts' err' h' => lexes_one h' hz.out)).mono ?_; rintro e w3 ⟨vz, rfl, hoz, hb3⟩; obtain ⟨Az, cz, rfl⟩ := own_slice hoz; have Hoz := Lib.hid hoz; have HB3 := Lib.hid hb3; clear hoz hb3)
      have t1 : ((tz.length : Int) != (ta.length : Int) + tb.length) = false := bne_eq_false_iff_eq.2 (by omega)
      have hms : tz.length ≤ 9223372036854775807 := by
        obtain ⟨h1, h2⟩ := Hoz.out
        rcases h2 with ⟨_, h2⟩ | ⟨g, cap, cur, _, _, _, h3, h4, _⟩
        · omega
        · unfold maxLen at h4; omega
      have hw3 : w2.heap.size ≤ w3.heap.size := HB3.out.size
      have hw2 : w1.heap.size ≤ w2.heap.size := HB2.out.size
      have hw1 : w.heap.size ≤ w1.heap.size := HB1.out.size
      have hgt : Try.prog.eqGuardType Try.prog.depth 29 = false := by kernel_rfl
      have heq := fun k t a b w => eq_tok k t a b w
      go_wp2
      go_loopw [14] (fun vi wr => ∃ i : Nat, i ≤ tz.length ∧ vi = .int .i64 i ∧ Below w3.heap.size w3 wr) (fun vi _ => (tz.length - intOf vi).toNat)
      case atStart => exact ⟨0, Nat.zero_le _, rfl, Below.refl _ _⟩
      case round =>
        obtain ⟨i, hi, rfl, hbw⟩ := hrel
        by_cases hit : i < tz.length
        · have q1 : decide ((i : Int) < tz.length) = true := by simp; omega
          obtain ⟨gz, cz', hvz, _, hgz, _⟩ := own_form Hoz.out (by omega)
          injection hvz with hA hlen hcap
          subst hA
          subst hcap
          clear hlen
          have e0 := own_cell tkCells tkCells_len Hoz.out (i := i) (j := 0) hit (by omega)
          have e1 := own_cell tkCells tkCells_len Hoz.out (i := i) (j := 1) hit (by omega)
          have e2 := own_cell tkCells tkCells_len Hoz.out (i := i) (j := 2) hit (by omega)
          have e3 := own_cell tkCells tkCells_len Hoz.out (i := i) (j := 3) hit (by omega)
          simp only [tkCells, List.getElem?_cons_zero, List.getElem?_cons_succ, Nat.add_zero] at e0 e1 e2 e3
          have z0 := (hbw.cell (p := ⟨gz, i * 4, none⟩) hgz).trans e0
          have z1 := (hbw.cell (p := ⟨gz, i * 4 + 1, none⟩) hgz).trans e1
          have z2 := (hbw.cell (p := ⟨gz, i * 4 + 2, none⟩) hgz).trans e2
          have z3 := (hbw.cell (p := ⟨gz, i * 4 + 3, none⟩) hgz).trans e3
          have hgzr : gz < wr.heap.size := Nat.lt_of_lt_of_le hgz hbw.size
          have hwr : w3.heap.size ≤ wr.heap.size := hbw.size
          clear e0 e1 e2 e3
          by_cases hia : i < ta.length
          · have hzi : tz[i] = ta[i] := by simp [← Htz.out, List.getElem_append_left hia]
            rw [hzi] at z0 z1 z2 z3
            have q2 : decide ((i : Int) < ta.length) = true := by simp; omega
            have q3 : decide ((ta.length : Int) ≤ i) = false := by simp; omega
            obtain ⟨ga, ca', hva, _, hga, _⟩ := own_form Hoa.out (by omega)
            injection hva with hA2 hlen2 hcap2
            subst hA2
            subst hcap2
            clear hlen2
            have e0 := own_cell tkCells tkCells_len Hoa.out (i := i) (j := 0) hia (by omega)
            have e1 := own_cell tkCells tkCells_len Hoa.out (i := i) (j := 1) hia (by omega)
            have e2 := own_cell tkCells tkCells_len Hoa.out (i := i) (j := 2) hia (by omega)
            have e3 := own_cell tkCells tkCells_len Hoa.out (i := i) (j := 3) hia (by omega)
            simp only [tkCells, List.getElem?_cons_zero, List.getElem?_cons_succ, Nat.add_zero] at e0 e1 e2 e3
            have hba : Below w1.heap.size w1 wr := (HB2.out.trans (HB3.out.mono hw2)).trans (hbw.mono (by omega))
            have y0 := (hba.cell (p := ⟨ga, i * 4, none⟩) hga).trans e0
            have y1 := (hba.cell (p := ⟨ga, i * 4 + 1, none⟩) hga).trans e1
            have y2 := (hba.cell (p := ⟨ga, i * 4 + 2, none⟩) hga).trans e2
            have y3 := (hba.cell (p := ⟨ga, i * 4 + 3, none⟩) hga).trans e3
            have hgar : ga < wr.heap.size := Nat.lt_of_lt_of_le hga hba.size
            have Hbw := Lib.hid hbw
            clear e0 e1 e2 e3 hba hbw hzi
            generalize ta[i] = p at *
            go_wp2
            go_quiet (fail)
            go_wp2
            go_roundw
            case rel => exact ⟨i + 1, by omega, by go_num, below_al Hbw.out hwr _ _⟩
            case measure => simp only [intOf]; omega
          · obtain ⟨j, hj⟩ : ∃ j, i = ta.length + j := ⟨i - ta.length, by omega⟩
            have hjb : j < tb.length := by omega
            have hzi : tz[i] = Tk.shift (s.size + 1) tb[j] := by
              simp [← Htz.out, hj, List.getElem_append_right]
            rw [hzi] at z0 z1 z2 z3
            have q2 : decide ((i : Int) < ta.length) = false := by simp; omega
            have q3 : decide ((ta.length : Int) ≤ i) = true := by simp; omega
            obtain ⟨gb, cb', hvb, _, hgb, _⟩ := own_form Hob.out (by omega)
            injection hvb with hA2 hlen2 hcap2
            subst hA2
            subst hcap2
            clear hlen2
            have e0 := own_cell tkCells tkCells_len Hob.out (i := j) (j := 0) hjb (by omega)
            have e1 := own_cell tkCells tkCells_len Hob.out (i := j) (j := 1) hjb (by omega)
            have e2 := own_cell tkCells tkCells_len Hob.out (i := j) (j := 2) hjb (by omega)
            have e3 := own_cell tkCells tkCells_len Hob.out (i := j) (j := 3) hjb (by omega)
            simp only [tkCells, List.getElem?_cons_zero, List.getElem?_cons_succ, Nat.add_zero] at e0 e1 e2 e3
            have hbb : Below w2.heap.size w2 wr := HB3.out.trans (hbw.mono (by omega))
            have y0 := (hbb.cell (p := ⟨gb, j * 4, none⟩) hgb).trans e0
            have y1 := (hbb.cell (p := ⟨gb, j * 4 + 1, none⟩) hgb).trans e1
            have y2 := (hbb.cell (p := ⟨gb, j * 4 + 2, none⟩) hgb).trans e2
            have y3 := (hbb.cell (p := ⟨gb, j * 4 + 3, none⟩) hgb).trans e3
            have hgbr : gb < wr.heap.size := Nat.lt_of_lt_of_le hgb hbb.size
            have Hbw := Lib.hid hbw
            have q4 : (i : Int) - ta.length = j := by omega
            have q5 : (0 : Int) ≤ j := by omega
            have q6 : (j : Int) < tb.length := by omega
            simp only [Tk.shift] at z0 z1 z2 z3
            clear e0 e1 e2 e3 hbb hbw hzi hj
            have hpb := Hlb.out.bound (Nat.zero_le _) tb[j] (List.getElem_mem hjb)
            rw [byts_len] at hpb
            generalize tb[j] = p at *
            obtain ⟨hp1, hp2⟩ := hpb
            have hp1 : p.a ≤ 2000 := by omega
            have hp2 : p.b ≤ 2000 := by omega
            have wi : IntKind.i64.wrap ((i : Int) - ta.length) = j := by rw [q4, IntKind.wrap_i64]; omega
            have wj : IntKind.i64.wrap (j : Int) = j := by rw [IntKind.wrap_i64]; omega
            have v1 : IntKind.i64.wrap (((s.size + 1 + p.a : Nat) : Int) - s.size) = (p.a : Int) + 1 := by rw [IntKind.wrap_i64]; omega
            have v2 : IntKind.i64.wrap (((s.size + 1 + p.b : Nat) : Int) - s.size) = (p.b : Int) + 1 := by rw [IntKind.wrap_i64]; omega
            have v3 : IntKind.i64.wrap (p.a : Int) = p.a := by rw [IntKind.wrap_i64]; omega
            have v4 : IntKind.i64.wrap (p.b : Int) = p.b := by rw [IntKind.wrap_i64]; omega
            have r1 : ((s.size + 1 + p.a : Nat) : Int) - s.size - 1 = p.a := by omega
            have r2 : ((s.size + 1 + p.b : Nat) : Int) - s.size - 1 = p.b := by omega
            generalize s.size + 1 + p.a = za at *
            generalize s.size + 1 + p.b = zb at *
            go_wp2
            go_quiet (fail)
            go_wp2
            go_quiet (fail)
            go_wp2
            go_roundw
            case rel => exact ⟨i + 1, by omega, by go_num, below_drewN (((below_al Hbw.out hwr _ _).setCell hwr _).setCell hwr _) _⟩
            case measure => simp only [intOf]; omega
        · have q1 : decide ((i : Int) < tz.length) = false := by simp; omega
          have HB123 := Lib.hid ((HB1.out.trans (HB2.out.mono hw1)).trans ((HB3.out.mono (by omega)).trans (hbw.mono (by omega))) : Below w.heap.size w wr)
          clear hbw
          go_wp2_with (go_at_call 7; refine (wakes_ok _).mono ?_; rintro e w4 ⟨rfl, hb4⟩; have HB := Lib.hid (HB123.out.trans (hb4.mono HB123.out.size)); clear hb4)
          go_ret
          exact ⟨rfl, HB.out⟩

theorem lexGlue_walk (s u : ByteArray) (W : World) (_ : s.size ≤ maxLen) (_ : u.size ≤ maxLen) :
    Calls Try.prog 4 #[.string s, .string u] W fun e w' => e = .returned (.bool true) ∧ Below W.heap.size W w' := LexGlue_true W s u
end Go.Proofs.Ytpmdgjihgiieoaa

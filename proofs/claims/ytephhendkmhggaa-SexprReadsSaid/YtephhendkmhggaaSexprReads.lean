/- SexprReads: what is read of any text. -/
import Derived.Test.YtephhendkmhggaaReadsA
namespace Go.Proofs.Ytephhendkmhggaa
open Go.RowKit

set_option maxHeartbeats 4000000 in
set_option maxRecDepth 100000 in
theorem sexprReads_in (s : ByteArray) (a : Int) (w : World) (h1 : s.size ≤ 1000) (h2 : a ≤ 2000) :
    Calls Try.prog 3 #[.string s, .int .i64 a] w fun e w' => e = .returned (.bool true) ∧ Below w.heap.size w w' := by
  have d1 : decide ((s.size : Int) > 1000) = false := decide_eq_false (by omega)
  have d1' : decide ((1000 : Int) < s.size) = false := d1
  have d2 : decide (a > 2000) = false := decide_eq_false (by omega)
  have d2' : decide ((2000 : Int) < a) = false := d2
  have HR := Lib.hid (Read_out s a (by omega))
  have HRR := Lib.hid (rRead_out s a (by omega))
  have HA := Lib.hid (All_out s (by omega))
  have HRA := Lib.hid (rAll_out s (by omega))
  have hln := allF_len (byts s) ((byts s).length + 1) 0 [] (Nat.zero_le _) (Nat.zero_le _)
  rw [byts_len] at hln
  change (allF (byts s) (s.size + 1) 0 []).1.length ≤ s.size at hln
  have hal : allM (byts s) = allF (byts s) (s.size + 1) 0 [] := by unfold allM; rw [byts_len]
  rw [← hal] at hln
  obtain ⟨⟨X, m, ec⟩, hR⟩ : ∃ R, readM (byts s) a = R := ⟨_, rfl⟩
  obtain ⟨⟨l, m2, ec2⟩, hAl⟩ : ∃ R, allM (byts s) = R := ⟨_, rfl⟩
  rw [hR] at HR HRR
  rw [hAl] at HA HRA hln
  dsimp only at hln
  have hlb : l.length < 9223372036854775807 := by omega
  have HSX := Lib.hid (rsame_at X X)
  have HSR := Lib.hid (same_refl X)
  have HSL := Lib.hid (fun (y : Sx) => rsame_at y y)
  clear hR hAl hal hln
  go_enter Try.func3, Try.ntmps3
  go_wp2_with (first
    | (go_at_call 9; refine (HR.out _).mono ?_; rintro e w1 ⟨⟨y, hl, rfl⟩, hb1⟩; have hbk := Blk.new w1 26 #[.int .i8 y.k, .string y.t, .slice y.A y.n y.c]; have hbb1 : Below w.heap.size w (w1.alloc (.cells #[.int .i8 y.k, .string y.t, .slice y.A y.n y.c] 26)) := hb1.alloc hb1.size _; have hl1 := Lib.hid ((hl.mono (S' := fun _ => True) (fun _ _ _ => True.intro)).keep ((Below.refl _ w1).alloc (Nat.le_refl _) (.cells #[.int .i8 y.k, .string y.t, .slice y.A y.n y.c] 26))); clear hl)
    | (go_at_call 10; refine (HRR.out _).mono ?_; rintro e w2 ⟨⟨z, hz, rfl⟩, hb2⟩; have hbb2 : Below (w1.alloc (.cells #[.int .i8 y.k, .string y.t, .slice y.A y.n y.c] 26)).heap.size (w1.alloc (.cells #[.int .i8 y.k, .string y.t, .slice y.A y.n y.c] 26)) (w2.alloc (.cells #[.int .i8 z.k, .string z.t, .slice z.A z.n z.c] 26)) := hb2.alloc hb2.size _; have hl2 := Lib.hid (hl1.out.keep hbb2); have hz2 := Lib.hid ((hz.mono (S' := fun _ => True) (fun _ _ _ => True.intro)).keep ((Below.refl _ w2).alloc (Nat.le_refl _) (.cells #[.int .i8 z.k, .string z.t, .slice z.A z.n z.c] 26))); obtain ⟨x0, x1, x2, _⟩ := blk3 (hbk.below hbb2 hbk.lt); clear hz)
    | (go_at_call 11; refine (HSX.out _ _ _ hl2.out hz2.out).mono ?_; rw [HSR.out]; rintro e w3 ⟨rfl, hb3⟩)
    | (go_at_call 12; refine (HA.out _).mono ?_; rintro e w4 ⟨⟨A, c, hlc, hk, rfl⟩, hb4⟩; have hk4 := Lib.hid (hk.mono (S' := fun _ => True) (fun _ _ _ => True.intro)); clear hk)
    | (go_at_call 13; refine (HRA.out _).mono ?_; rintro e w5 ⟨⟨B, d, hld, hk, rfl⟩, hb5⟩; have hk5 := Lib.hid (hk.mono (S' := fun _ => True) (fun _ _ _ => True.intro)); have hk45 := Lib.hid (hk4.out.keep hb5); clear hk))
  have hbb := below_then (below_then (below_then (below_then hbb1 (Nat.le_refl _) hbb2) (Nat.le_refl _) hb3) (Nat.le_refl _) hb4) (Nat.le_refl _) hb5
  have HBB := Lib.hid hbb
  clear hbb hbb1 hbb2 hb3 hb4 hb5 hb1 hb2 x0 x1 x2 hbk
  go_loopg [79] l.length (fun g v wx => Below w5.heap.size w5 wx ∧ ∃ i : Nat, i + g = l.length ∧ v = .int .i64 i)
  case atStart => exact ⟨Below.refl _ _, 0, by omega, rfl⟩
  case round =>
    obtain ⟨hB, i, hig, rfl⟩ := hrel
    cases gk with
    | zero =>
      have d3 : decide ((i : Int) < l.length) = false := decide_eq_false (by omega)
      have HW := Lib.hid (wakes_ok wr)
      have HB := Lib.hid hB
      clear hB
      go_wp2_with (go_at_call 8; refine HW.out.mono ?_; rintro e w6 ⟨rfl, hb6⟩)
      go_ret
      exact ⟨rfl, below_then (HBB.out.trans (HB.out.mono HBB.out.size)) (Nat.le_refl _) hb6⟩
    | succ g =>
      have hiz : (i : Int) < (l.length : Int) := by omega
      have hin : i < l.length := by omega
      have d3 : decide ((i : Int) < l.length) = true := decide_eq_true hiz
      obtain ⟨b, off, k1, t1, B1, n1, m1, rfl, _, hlt, x0, x1, x2, hy⟩ := (hk45.out.keep hB) i hin
      obtain ⟨b', off', k2, t2, B2, n2, m3, rfl, _, hlt', z0, z1, z2, hz⟩ := (hk5.out.keep hB) i hin
      have HLY := Lib.hid hy
      have HLZ := Lib.hid hz
      have HSI : Hid (∀ (v v' : Value) (w : World), Lies (fun _ => True) w v (l[i]) → Lies (fun _ => True) w v' (l[i]) → Calls Try.prog 11 #[v, v'] w fun e w' => e = .returned (.bool true) ∧ Below w.heap.size w w') := Lib.hid fun v v' w h h' => (HSL.out (l[i]) v v' w h h').mono (by rw [same_refl]; exact fun _ _ h => h)
      have HB := Lib.hid hB
      have hKP : ∀ w1 : World, Below wr.heap.size wr w1 → w1.cell? ⟨b, off + i * 3, none⟩ = some (.int .i8 k1) ∧ w1.cell? ⟨b, off + i * 3 + 1, none⟩ = some (.string t1) ∧ w1.cell? ⟨b, off + i * 3 + 2, none⟩ = some (.slice B1 n1 m1) ∧ w1.cell? ⟨b', off' + i * 3, none⟩ = some (.int .i8 k2) ∧ w1.cell? ⟨b', off' + i * 3 + 1, none⟩ = some (.string t2) ∧ w1.cell? ⟨b', off' + i * 3 + 2, none⟩ = some (.slice B2 n2 m3) := fun w1 h1 =>
        ⟨(h1.cell (p := ⟨b, off + i * 3, none⟩) hlt).trans x0, (h1.cell (p := ⟨b, off + i * 3 + 1, none⟩) hlt).trans x1, (h1.cell (p := ⟨b, off + i * 3 + 2, none⟩) hlt).trans x2, (h1.cell (p := ⟨b', off' + i * 3, none⟩) hlt').trans z0, (h1.cell (p := ⟨b', off' + i * 3 + 1, none⟩) hlt').trans z1, (h1.cell (p := ⟨b', off' + i * 3 + 2, none⟩) hlt').trans z2⟩
      have HKP := Lib.hid hKP
      clear hy hz hB hKP
      go_wp2
      go_region_held3 (fun w' => w'.cell? ⟨b, off + i * 3, none⟩ = some (.int .i8 k1) ∧ w'.cell? ⟨b, off + i * 3 + 1, none⟩ = some (.string t1) ∧ w'.cell? ⟨b, off + i * 3 + 2, none⟩ = some (.slice B1 n1 m1) ∧ w'.cell? ⟨b', off' + i * 3, none⟩ = some (.int .i8 k2) ∧ w'.cell? ⟨b', off' + i * 3 + 1, none⟩ = some (.string t2) ∧ w'.cell? ⟨b', off' + i * 3 + 2, none⟩ = some (.slice B2 n2 m3)) (go_keep) (first | (go_at_call 11; refine (HSI.out _ _ wr.drew (HLY.out.still (Nat.le_refl _) (fun _ _ _ => rfl)) (HLZ.out.still (Nat.le_refl _) (fun _ _ _ => rfl))).mono ?_; rintro e w6 ⟨rfl, hb6⟩; have hb7 := below_undrew hb6; have j2 := (HKP.out w6 hb7).1; have j3 := (HKP.out w6 hb7).2.1; have j4 := (HKP.out w6 hb7).2.2.1; have j5 := (HKP.out w6 hb7).2.2.2.1; have j6 := (HKP.out w6 hb7).2.2.2.2.1; have j7 := (HKP.out w6 hb7).2.2.2.2.2))
      go_wp2
      go_roundg g
      case measure => omega
      case rel => exact ⟨below_then HB.out (Nat.le_refl _) hb7, i + 1, by omega, by go_num⟩

theorem sexprReads_walk (s : ByteArray) (a : Int) (w : World) (_ : s.size ≤ maxLen) (_ : (Lit.int .i64 a).wf = true) :
    Calls Try.prog 3 #[.string s, .int .i64 a] w fun e w' => e = .returned (.bool true) ∧ Below w.heap.size w w' := by
  by_cases h1 : s.size ≤ 1000
  · by_cases h2 : a ≤ 2000
    · exact sexprReads_in s a w h1 h2
    · have d1 : decide ((s.size : Int) > 1000) = false := decide_eq_false (by omega)
      have d1' : decide ((1000 : Int) < s.size) = false := d1
      have d2 : decide (a > 2000) = true := decide_eq_true (by omega)
      have d2' : decide ((2000 : Int) < a) = true := d2
      have HW := Lib.hid (wakes_ok w)
      go_enter Try.func3, Try.ntmps3
      go_wp2_with (go_at_call 8; refine HW.out.mono ?_; rintro e w6 ⟨rfl, hb6⟩)
      go_ret
      exact ⟨rfl, hb6⟩
  · have d1 : decide ((s.size : Int) > 1000) = true := decide_eq_true (by omega)
    have d1' : decide ((1000 : Int) < s.size) = true := d1
    have HW := Lib.hid (wakes_ok w)
    go_enter Try.func3, Try.ntmps3
    go_wp2_with (go_at_call 8; refine HW.out.mono ?_; rintro e w6 ⟨rfl, hb6⟩)
    go_ret
    exact ⟨rfl, hb6⟩
end Go.Proofs.Ytephhendkmhggaa

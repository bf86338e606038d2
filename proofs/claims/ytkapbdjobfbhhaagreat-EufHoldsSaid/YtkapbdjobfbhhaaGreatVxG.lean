/- Exactly: whether a macro may be. -/
import Derived.Test.YtkapbdjobfbhhaaGreatVxE
namespace Go.Proofs.YtkapbdjobfbhhaaGreat
open Go.RowKit Go.Lib
theorem SxL.open_ {w : World} {y : X3} (h : SxL w y) : y.t.size ≤ 9223372036854775807 ∧ y.n ≤ 9223372036854775807 ∧ ∀ i, i < y.n → ∃ b off z, y.A = some ⟨b, off, none⟩ ∧ b < w.heap.size ∧ (w.cell? ⟨b, off + i * 3, none⟩ = some (.int .i8 z.k) ∧ w.cell? ⟨b, off + i * 3 + 1, none⟩ = some (.string z.t) ∧ w.cell? ⟨b, off + i * 3 + 2, none⟩ = some (.slice z.A z.n z.c)) ∧ SxL w z := by
  cases h with
  | mk _ b off f ht hn hA hc hs => exact ⟨ht, hn, fun i hi => ⟨b, off, f i, (hA (by omega)).1, (hA (by omega)).2, hc i hi, hs i hi⟩⟩
theorem x_box (w : World) (y : X3) : Below w.heap.size w (w.alloc (.cells #[.int .i8 y.k, .string y.t, .slice y.A y.n y.c] 54)) := (Below.refl _ w).alloc (Nat.le_refl _) _
theorem SxL.ind {w : World} {P : X3 → Prop} (step : ∀ y, SxL w y → (∀ b off i z, i < y.n → y.A = some ⟨b, off, none⟩ → w.cell? ⟨b, off + i * 3, none⟩ = some (.int .i8 z.k) → w.cell? ⟨b, off + i * 3 + 1, none⟩ = some (.string z.t) → w.cell? ⟨b, off + i * 3 + 2, none⟩ = some (.slice z.A z.n z.c) → SxL w z → P z) → P y) {y : X3} (h : SxL w y) : P y := by
  induction h with
  | mk y b off f ht hn hA hc hs ih =>
    refine step y (.mk y b off f ht hn hA hc hs) fun b' off' i z hi hA' h0 h1 h2 _ => ?_
    obtain ⟨g0, g1, g2⟩ := hc i hi
    have e := (hA (by omega)).1
    rw [e] at hA'
    injection hA' with hA'
    injection hA' with e1 e2
    subst e1 e2
    have e : z = f i := by
      obtain ⟨k, t, A, n, c⟩ := z
      rw [g0] at h0; rw [g1] at h1; rw [g2] at h2
      injection h0 with h0; injection h1 with h1; injection h2 with h2
      injection h0 with _ h0; injection h1 with h1; injection h2 with h2 h3 h4
      simp only at h0 h1 h2 h3 h4
      cases hf : f i with
      | mk k' t' A' n' c' =>
        rw [hf] at h0 h1 h2 h3 h4
        simp only at h0 h1 h2 h3 h4
        subst h0 h1 h2 h3 h4
        rfl
    rw [e]
    exact ih i hi
set_option maxRecDepth 100000 in
set_option maxHeartbeats 1000000 in
theorem lsize_ok {w : World} {y : X3} (h : SxL w y) : ∀ W m, Below w.heap.size w W → Calls Tryz.prog 12 #[y.val, .int .i64 m] W (SomeI W) := by
  refine SxL.ind (P := fun y => ∀ W m, Below w.heap.size w W → Calls Tryz.prog 12 #[y.val, .int .i64 m] W (SomeI W)) ?_ h
  clear h y
  intro y hy ih W m hW
  obtain ⟨ht, hn, hk⟩ := (hy.kept hW).open_
  have HI := Lib.hid ih
  have HB0 := Lib.hid (x_box W y)
  have HX0 := Lib.hid (Blk.new W 54 #[.int .i8 y.k, .string y.t, .slice y.A y.n y.c])
  have HW := Lib.hid hW
  have HY := Lib.hid hy
  clear ih hk hW hy
  obtain ⟨k, t, A, n, c⟩ := y
  unfold X3.val
  simp only at *
  obtain ⟨x0, x1, x2⟩ := blk3 HX0.out
  by_cases h5 : t.size < 5000
  · have d5 : decide ((t.size : Int) < 5000) = true := decide_eq_true (by omega)
    have d6 : decide ((5000 : Int) < (t.size : Int)) = false := decide_eq_false (by omega)
    go_enter Tryz.func12, Tryz.ntmps12
    go_upto_region 1 with fail
    obtain ⟨w0, hw0⟩ : ∃ w0, W.alloc (.cells #[.int .i8 k, .string t, .slice A n c] 54) = w0 := ⟨_, rfl⟩
    rw [hw0] at HX0 HB0 x0 x1 x2 ⊢
    clear hw0
    go_wp2
    go_loopw [6, 5] (fun v d wx => Below w0.heap.size w0 wx ∧ ∃ (i : Nat) (q : Int), i ≤ n ∧ v = .int .i64 i ∧ d = .int .i64 q) (fun v _ _ => (n - intOf v).toNat)
    case atStart => exact ⟨Below.refl _ _, 0, _, Nat.zero_le _, rfl, rfl⟩
    case round =>
      obtain ⟨hBx, i, q, hi, rfl, rfl⟩ := hrel
      have HBx := Lib.hid hBx
      obtain ⟨z0, z1, z2⟩ := blk3 (HX0.out.below hBx HX0.out.lt)
      clear hBx x0 x1 x2
      by_cases hin : i < n
      · have hiz : (i : Int) < (n : Int) := by omega
        have d1 : decide ((i : Int) < n) = true := decide_eq_true hiz
        have t1 : (0 : Int) ≤ (i : Int) := by omega
        by_cases hqm : q < m
        · have d2 : decide (q < m) = true := decide_eq_true hqm
          have hbW : Below W.heap.size W wr := HB0.out.trans (HBx.out.mono HB0.out.size)
          have hbw : Below w.heap.size w wr := HW.out.trans (hbW.mono HW.out.size)
          obtain ⟨b, off, z, hA, hlt, ⟨p0, p1, p2⟩, hz⟩ := HY.out.open_.2.2 i hin
          simp only at hA
          have q0 := (hbw.cell (p := ⟨b, off + i * 3, none⟩) hlt).trans p0
          have q1 := (hbw.cell (p := ⟨b, off + i * 3 + 1, none⟩) hlt).trans p1
          have q2 := (hbw.cell (p := ⟨b, off + i * 3 + 2, none⟩) hlt).trans p2
          have HR := Lib.hid (fun m => HI.out b off i z hin hA p0 p1 p2 hz wr m hbw)
          subst hA
          clear HI p0 p1 p2 hz hbw hlt hqm
          obtain ⟨k1, t1', A1, n1, c1⟩ := z
          unfold X3.val at HR
          simp only at HR q0 q1 q2
          go_wp2_with (go_at_call 12; refine (HR.out _).mono ?_; rintro e w1 ⟨⟨r, rfl⟩, hb1⟩)
          go_roundw
          case rel => exact ⟨HBx.out.trans (hb1.mono HBx.out.size), i + 1, _, by omega, by go_num, rfl⟩
          case measure => simp only [intOf]; omega
        · have d2 : decide (q < m) = false := decide_eq_false hqm
          clear HI hqm
          go_wp2
          go_ret
          exact SomeI.mk_ _ (HB0.out.trans (HBx.out.mono HB0.out.size))
      · have d1 : decide ((i : Int) < n) = false := decide_eq_false (by omega)
        clear HI
        go_wp2
        go_ret
        exact SomeI.mk_ _ (HB0.out.trans (HBx.out.mono HB0.out.size))
  · have d5 : decide ((t.size : Int) < 5000) = false := decide_eq_false (by omega)
    by_cases h6 : 5000 < t.size
    · have d6 : decide ((5000 : Int) < (t.size : Int)) = true := decide_eq_true (by omega)
      go_enter Tryz.func12, Tryz.ntmps12
      go_upto_region 1 with fail
      obtain ⟨w0, hw0⟩ : ∃ w0, W.alloc (.cells #[.int .i8 k, .string t, .slice A n c] 54) = w0 := ⟨_, rfl⟩
      rw [hw0] at HX0 HB0 x0 x1 x2 ⊢
      clear hw0
      go_wp2
      go_loopw [6, 5] (fun v d wx => Below w0.heap.size w0 wx ∧ ∃ (i : Nat) (q : Int), i ≤ n ∧ v = .int .i64 i ∧ d = .int .i64 q) (fun v _ _ => (n - intOf v).toNat)
      case atStart => exact ⟨Below.refl _ _, 0, _, Nat.zero_le _, rfl, rfl⟩
      case round =>
        obtain ⟨hBx, i, q, hi, rfl, rfl⟩ := hrel
        have HBx := Lib.hid hBx
        obtain ⟨z0, z1, z2⟩ := blk3 (HX0.out.below hBx HX0.out.lt)
        clear hBx x0 x1 x2
        by_cases hin : i < n
        · have hiz : (i : Int) < (n : Int) := by omega
          have d1 : decide ((i : Int) < n) = true := decide_eq_true hiz
          have t1 : (0 : Int) ≤ (i : Int) := by omega
          by_cases hqm : q < m
          · have d2 : decide (q < m) = true := decide_eq_true hqm
            have hbW : Below W.heap.size W wr := HB0.out.trans (HBx.out.mono HB0.out.size)
            have hbw : Below w.heap.size w wr := HW.out.trans (hbW.mono HW.out.size)
            obtain ⟨b, off, z, hA, hlt, ⟨p0, p1, p2⟩, hz⟩ := HY.out.open_.2.2 i hin
            simp only at hA
            have q0 := (hbw.cell (p := ⟨b, off + i * 3, none⟩) hlt).trans p0
            have q1 := (hbw.cell (p := ⟨b, off + i * 3 + 1, none⟩) hlt).trans p1
            have q2 := (hbw.cell (p := ⟨b, off + i * 3 + 2, none⟩) hlt).trans p2
            have HR := Lib.hid (fun m => HI.out b off i z hin hA p0 p1 p2 hz wr m hbw)
            subst hA
            clear HI p0 p1 p2 hz hbw hlt hqm
            obtain ⟨k1, t1', A1, n1, c1⟩ := z
            unfold X3.val at HR
            simp only at HR q0 q1 q2
            go_wp2_with (go_at_call 12; refine (HR.out _).mono ?_; rintro e w1 ⟨⟨r, rfl⟩, hb1⟩)
            go_roundw
            case rel => exact ⟨HBx.out.trans (hb1.mono HBx.out.size), i + 1, _, by omega, by go_num, rfl⟩
            case measure => simp only [intOf]; omega
          · have d2 : decide (q < m) = false := decide_eq_false hqm
            clear HI hqm
            go_wp2
            go_ret
            exact SomeI.mk_ _ (HB0.out.trans (HBx.out.mono HB0.out.size))
        · have d1 : decide ((i : Int) < n) = false := decide_eq_false (by omega)
          clear HI
          go_wp2
          go_ret
          exact SomeI.mk_ _ (HB0.out.trans (HBx.out.mono HB0.out.size))
    · have d6 : decide ((5000 : Int) < (t.size : Int)) = false := decide_eq_false (by omega)
      go_enter Tryz.func12, Tryz.ntmps12
      go_upto_region 1 with fail
      obtain ⟨w0, hw0⟩ : ∃ w0, W.alloc (.cells #[.int .i8 k, .string t, .slice A n c] 54) = w0 := ⟨_, rfl⟩
      rw [hw0] at HX0 HB0 x0 x1 x2 ⊢
      clear hw0
      go_wp2
      go_loopw [6, 5] (fun v d wx => Below w0.heap.size w0 wx ∧ ∃ (i : Nat) (q : Int), i ≤ n ∧ v = .int .i64 i ∧ d = .int .i64 q) (fun v _ _ => (n - intOf v).toNat)
      case atStart => exact ⟨Below.refl _ _, 0, _, Nat.zero_le _, rfl, rfl⟩
      case round =>
        obtain ⟨hBx, i, q, hi, rfl, rfl⟩ := hrel
        have HBx := Lib.hid hBx
        obtain ⟨z0, z1, z2⟩ := blk3 (HX0.out.below hBx HX0.out.lt)
        clear hBx x0 x1 x2
        by_cases hin : i < n
        · have hiz : (i : Int) < (n : Int) := by omega
          have d1 : decide ((i : Int) < n) = true := decide_eq_true hiz
          have t1 : (0 : Int) ≤ (i : Int) := by omega
          by_cases hqm : q < m
          · have d2 : decide (q < m) = true := decide_eq_true hqm
            have hbW : Below W.heap.size W wr := HB0.out.trans (HBx.out.mono HB0.out.size)
            have hbw : Below w.heap.size w wr := HW.out.trans (hbW.mono HW.out.size)
            obtain ⟨b, off, z, hA, hlt, ⟨p0, p1, p2⟩, hz⟩ := HY.out.open_.2.2 i hin
            simp only at hA
            have q0 := (hbw.cell (p := ⟨b, off + i * 3, none⟩) hlt).trans p0
            have q1 := (hbw.cell (p := ⟨b, off + i * 3 + 1, none⟩) hlt).trans p1
            have q2 := (hbw.cell (p := ⟨b, off + i * 3 + 2, none⟩) hlt).trans p2
            have HR := Lib.hid (fun m => HI.out b off i z hin hA p0 p1 p2 hz wr m hbw)
            subst hA
            clear HI p0 p1 p2 hz hbw hlt hqm
            obtain ⟨k1, t1', A1, n1, c1⟩ := z
            unfold X3.val at HR
            simp only at HR q0 q1 q2
            go_wp2_with (go_at_call 12; refine (HR.out _).mono ?_; rintro e w1 ⟨⟨r, rfl⟩, hb1⟩)
            go_roundw
            case rel => exact ⟨HBx.out.trans (hb1.mono HBx.out.size), i + 1, _, by omega, by go_num, rfl⟩
            case measure => simp only [intOf]; omega
          · have d2 : decide (q < m) = false := decide_eq_false hqm
            clear HI hqm
            go_wp2
            go_ret
            exact SomeI.mk_ _ (HB0.out.trans (HBx.out.mono HB0.out.size))
        · have d1 : decide ((i : Int) < n) = false := decide_eq_false (by omega)
          clear HI
          go_wp2
          go_ret
          exact SomeI.mk_ _ (HB0.out.trans (HBx.out.mono HB0.out.size))
def MacM.agg (m : MacM) : Array Value := #[.string m.nm, .slice m.P m.np m.cp, .int .i64 m.res, .int .i8 m.y.k, .string m.y.t, .slice m.y.A m.y.n m.y.c]
set_option maxRecDepth 100000 in
set_option maxHeartbeats 4000000 in
theorem lgreat_ok {w : World} {g : SigV} (h : SigAt w g) (hd : SigDeep w g) : Calls Tryz.prog 4 #[.agg g.cells] w (fun e w' => ∃ q, e = .returned (.bool q) ∧ Below w.heap.size w w') := by
  have HB0 := Lib.hid (sig_box w g)
  have HG0 := Lib.hid (Blk.new w 26 g.cells)
  have H := Lib.hid (h.below HB0.out)
  have HD := Lib.hid (hd.below HB0.out)
  have HX := Lib.hid (fun W (hW : Below (w.alloc (.cells g.cells 26)).heap.size (w.alloc (.cells g.cells 26)) W) => sig_blk (HG0.out.below hW HG0.out.lt))
  have KS := Lib.hid (fun (m : MacM) (hm : m ∈ g.macs) W (hW : Below (w.alloc (.cells g.cells 26)).heap.size (w.alloc (.cells g.cells 26)) W) q => lsize_ok (HD.out m hm).body W q hW)
  have hn2 := h.n2
  obtain ⟨x0, x1, x2⟩ := sig_blk HG0.out
  clear h hd
  obtain ⟨A0, c0, S, A1, c1, F, A2, c2, M⟩ := g
  unfold SigV.cells at *
  simp only at *
  go_enter Tryz.func4, Tryz.ntmps4
  go_upto_region 1 with fail
  generalize w.alloc (.cells #[.slice A0 S.length c0, .slice A1 F.length c1, .slice A2 M.length c2] 26) = w0 at *
  by_cases h0 : 20 < S.length
  · have d0 : decide ((S.length : Int) > 20) = true := decide_eq_true (by omega)
    have d0' : decide ((20 : Int) < (S.length : Int)) = true := decide_eq_true (by omega)
    clear h0
    go_wp2
    go_ret
    exact ⟨_, rfl, HB0.out⟩
  have d0 : decide ((S.length : Int) > 20) = false := decide_eq_false (by omega)
  have d0' : decide ((20 : Int) < (S.length : Int)) = false := decide_eq_false (by omega)
  by_cases h1 : 40 < F.length
  · have d1 : decide ((F.length : Int) > 40) = true := decide_eq_true (by omega)
    have d1' : decide ((40 : Int) < (F.length : Int)) = true := decide_eq_true (by omega)
    clear h0 h1
    go_wp2
    go_ret
    exact ⟨_, rfl, HB0.out⟩
  have d1 : decide ((F.length : Int) > 40) = false := decide_eq_false (by omega)
  have d1' : decide ((40 : Int) < (F.length : Int)) = false := decide_eq_false (by omega)
  by_cases h2 : 40 < M.length
  · have d2 : decide ((M.length : Int) > 40) = true := decide_eq_true (by omega)
    have d2' : decide ((40 : Int) < (M.length : Int)) = true := decide_eq_true (by omega)
    clear h0 h1 h2
    go_wp2
    go_ret
    exact ⟨_, rfl, HB0.out⟩
  have d2 : decide ((M.length : Int) > 40) = false := decide_eq_false (by omega)
  have d2' : decide ((40 : Int) < (M.length : Int)) = false := decide_eq_false (by omega)
  clear h0 h1
  go_wp2
  go_loopw [4, 3] (fun v d wx => Below w0.heap.size w0 wx ∧ ∃ (i : Nat) (q : Int), i ≤ M.length ∧ v = .int .i64 i ∧ d = .int .i64 q) (fun v _ _ => (M.length - intOf v).toNat)
  case atStart => exact ⟨Below.refl _ _, 0, 0, Nat.zero_le _, rfl, rfl⟩
  case round =>
    obtain ⟨hBx, i, q, hi, rfl, rfl⟩ := hrel
    have HBx := Lib.hid hBx
    obtain ⟨z0, z1, z2⟩ := HX.out wr hBx
    clear hBx x0 x1 x2
    by_cases hin : i < M.length
    · have hiz : (i : Int) < (M.length : Int) := by omega
      have e1 : decide ((i : Int) < M.length) = true := decide_eq_true hiz
      have t1 : (0 : Int) ≤ (i : Int) := by omega
      obtain ⟨b, off, hA, hlt, hm⟩ := (H.out.below HBx.out).m i hin
      dsimp only at hA hm
      obtain ⟨m0, m1, m2, m3, m4, m5, _⟩ := hm
      have KR := Lib.hid (KS.out M[i] (List.getElem_mem hin) wr HBx.out)
      have HFp : Hid (∀ W, Below wr.heap.size wr W → W.cell? ⟨b, off + i * 6 + 1, none⟩ = some (.slice M[i].P M[i].np M[i].cp)) := Lib.hid (fun W hW => (hW.cell (p := ⟨b, off + i * 6 + 1, none⟩) hlt).trans m1)
      subst hA
      generalize M[i] = mm at *
      obtain ⟨nm, P, np, cp, res, ⟨yk, yt, yA, yn, yc⟩⟩ := mm
      unfold X3.val at KR
      simp only at KR HFp m0 m1 m2 m3 m4 m5
      go_wp2_with fail
      refine (KR.out _).mono ?_
      rintro e w1 ⟨⟨r, rfl⟩, hb1⟩
      have HB1 := Lib.hid (HBx.out.trans (hb1.mono HBx.out.size))
      have m1' := HFp.out w1 hb1
      obtain ⟨y0, y1, y2⟩ := HX.out w1 HB1.out
      clear hb1 m0 m1 m2 m3 m4 m5 z0 z1 z2
      by_cases h20 : 20 < np
      · have e2 : decide ((np : Int) > 20) = true := decide_eq_true (by omega)
        have e2' : decide ((20 : Int) < (np : Int)) = true := decide_eq_true (by omega)
        clear h20
        go_wp2
        go_ret
        exact ⟨_, rfl, HB0.out.trans (HB1.out.mono HB0.out.size)⟩
      · have e2 : decide ((np : Int) > 20) = false := decide_eq_false (by omega)
        have e2' : decide ((20 : Int) < (np : Int)) = false := decide_eq_false (by omega)
        clear h20
        go_wp2
        go_roundw
        case rel => exact ⟨HB1.out, i + 1, _, by omega, by go_num, rfl⟩
        case measure => simp only [intOf]; omega
    · have e1 : decide ((i : Int) < M.length) = false := decide_eq_false (by omega)
      clear h2
      go_wp2
      go_ret
      exact ⟨_, rfl, HB0.out.trans (HBx.out.mono HB0.out.size)⟩
theorem SxL.ind2 {w : World} {α : Type} [Inhabited α] {Q : X3 → α → Prop} (step : ∀ y, SxL w y → ∀ D : Nat → α, (∀ b off i z, i < y.n → y.A = some ⟨b, off, none⟩ → w.cell? ⟨b, off + i * 3, none⟩ = some (.int .i8 z.k) → w.cell? ⟨b, off + i * 3 + 1, none⟩ = some (.string z.t) → w.cell? ⟨b, off + i * 3 + 2, none⟩ = some (.slice z.A z.n z.c) → SxL w z → Q z (D i)) → ∃ a, Q y a) {y : X3} (h : SxL w y) : ∃ a, Q y a := by
  refine SxL.ind (P := fun y => ∃ a, Q y a) (fun y hy ih => ?_) h
  have hy' := hy
  cases hy with
  | mk _ b off f ht hn hA hc hs =>
    have h1 : ∀ i, ∃ a, i < y.n → Q (f i) a := fun i => by
      by_cases hi : i < y.n
      · obtain ⟨a, ha⟩ := ih b off i (f i) hi (hA (by omega)).1 (hc i hi).1 (hc i hi).2.1 (hc i hi).2.2 (hs i hi)
        exact ⟨a, fun _ => ha⟩
      · exact ⟨default, fun h => absurd h hi⟩
    refine step y hy' (fun i => Classical.choose (h1 i)) fun b' off' i z hi hA' k0 k1 k2 _ => ?_
    have h2 := Classical.choose_spec (h1 i) hi
    obtain ⟨g0, g1, g2⟩ := hc i hi
    have e := (hA (by omega)).1
    rw [e] at hA'
    injection hA' with hA'
    injection hA' with e1 e2
    subst e1 e2
    have e : z = f i := by
      obtain ⟨k, t, A, n, c⟩ := z
      rw [g0] at k0; rw [g1] at k1; rw [g2] at k2
      injection k0 with k0; injection k1 with k1; injection k2 with k2
      injection k0 with _ k0; injection k1 with k1; injection k2 with k2 k3 k4
      simp only at k0 k1 k2 k3 k4
      cases hf : f i with
      | mk k' t' A' n' c' =>
        rw [hf] at k0 k1 k2 k3 k4
        simp only at k0 k1 k2 k3 k4
        subst k0 k1 k2 k3 k4
        rfl
    rw [e]
    exact h2
def maxD (D : Nat → Int) : Nat → Int
  | 0 => 0
  | i + 1 => max (maxD D i) (D i)
def IsN (d : Int) (w : World) (e : Ending) (w' : World) : Prop := e = .returned (.int .i64 d) ∧ Below w.heap.size w w'
theorem IsN.mk_ {w w' : World} {d d' : Int} (hd : d' = d) (h : Below w.heap.size w w') : IsN d w (.returned (.int .i64 d')) w' := ⟨by rw [hd], h⟩
def IsB (d : Bool) (w : World) (e : Ending) (w' : World) : Prop := e = .returned (.bool d) ∧ Below w.heap.size w w'
theorem IsB.mk_ {w w' : World} {d d' : Bool} (hd : d' = d) (h : Below w.heap.size w w') : IsB d w (.returned (.bool d')) w' := ⟨by rw [hd], h⟩
set_option maxRecDepth 100000 in
set_option maxHeartbeats 1000000 in
theorem xdepth_ok {w : World} {y : X3} (h : SxL w y) : ∃ d, ∀ W, Below w.heap.size w W → Calls Tryz.prog 93 #[y.val] W (IsN d W) := by
  refine SxL.ind2 (Q := fun y d => ∀ W, Below w.heap.size w W → Calls Tryz.prog 93 #[y.val] W (IsN d W)) ?_ h
  clear h y
  intro y hy D ih
  refine ⟨if y.k = 3 then wrap64 (maxD D y.n + 1) else 0, fun W hW => ?_⟩
  obtain ⟨ht, hn, hk⟩ := (hy.kept hW).open_
  have HI := Lib.hid ih
  have HK := Lib.hid hk
  have HB0 := Lib.hid (x_box W y)
  have HX0 := Lib.hid (Blk.new W 54 #[.int .i8 y.k, .string y.t, .slice y.A y.n y.c])
  have HW := Lib.hid hW
  have HY := Lib.hid hy
  clear ih hk hW hy
  obtain ⟨k, t, A, n, c⟩ := y
  unfold X3.val
  simp only at *
  obtain ⟨x0, x1, x2⟩ := blk3 HX0.out
  by_cases h3 : k = 3
  rotate_left
  · rw [if_neg h3]
    have e : (k != 3) = true := bne_iff_ne.2 h3
    clear h3
    go_enter Tryz.func93, Tryz.ntmps93
    go_wp2
    go_ret
    exact IsN.mk_ rfl HB0.out
  have e : (k != 3) = false := by rw [h3]; rfl
  rw [if_pos h3]
  clear h3
  obtain ⟨R, hR⟩ : ∃ R, maxD D n = R := ⟨_, rfl⟩
  have HR0 := Lib.hid hR
  rw [hR]
  clear hR
  go_enter Tryz.func93, Tryz.ntmps93
  go_upto_region 1 with fail
  obtain ⟨w0, hw0⟩ : ∃ w0, W.alloc (.cells #[.int .i8 k, .string t, .slice A n c] 54) = w0 := ⟨_, rfl⟩
  rw [hw0] at HX0 HB0 x0 x1 x2 ⊢
  clear hw0
  go_wp2
  go_loopw [4, 3] (fun v d wx => Below w0.heap.size w0 wx ∧ ∃ (i : Nat) (m : Int), i ≤ n ∧ v = .int .i64 i ∧ d = .int .i64 m ∧ m = maxD D i) (fun v _ _ => (n - intOf v).toNat)
  case atStart => exact ⟨Below.refl _ _, 0, 0, Nat.zero_le _, rfl, rfl, rfl⟩
  case round =>
    obtain ⟨hBx, i, m, hi, rfl, rfl, hm⟩ := hrel
    have HM := Lib.hid hm
    have HBx := Lib.hid hBx
    obtain ⟨z0, z1, z2⟩ := blk3 (HX0.out.below hBx HX0.out.lt)
    clear hBx hm
    by_cases hin : i < n
    · have hiz : (i : Int) < (n : Int) := by omega
      have d1 : decide ((i : Int) < n) = true := decide_eq_true hiz
      have hbW : Below W.heap.size W wr := HB0.out.trans (HBx.out.mono HB0.out.size)
      have hbw : Below w.heap.size w wr := HW.out.trans (hbW.mono HW.out.size)
      obtain ⟨b, off, z, hA, hlt, ⟨p0, p1, p2⟩, hz⟩ := HY.out.open_.2.2 i hin
      simp only at hA
      have q0 := (hbw.cell (p := ⟨b, off + i * 3, none⟩) hlt).trans p0
      have q1 := (hbw.cell (p := ⟨b, off + i * 3 + 1, none⟩) hlt).trans p1
      have q2 := (hbw.cell (p := ⟨b, off + i * 3 + 2, none⟩) hlt).trans p2
      have HR := Lib.hid (HI.out b off i z hin hA p0 p1 p2 hz wr hbw)
      have HS : Hid (maxD D (i + 1) = max m (D i)) := Lib.hid (by rw [HM.out]; rfl)
      generalize D i = r at *
      subst hA
      clear HI HK p0 p1 p2 hz hbw hlt
      obtain ⟨k1, t1, A1, n1, c1⟩ := z
      unfold X3.val at HR
      simp only at HR q0 q1 q2
      go_wp2_with (go_at_call 93; refine HR.out.mono ?_; rintro e w1 ⟨rfl, hb1⟩)
      all_goals
        go_roundw
        case rel => exact ⟨HBx.out.trans (hb1.mono HBx.out.size), i + 1, _, by omega, by go_num, rfl, by rw [HS.out] <;> omega⟩
        case measure => simp only [intOf]; omega
    · have d1 : decide ((i : Int) < n) = false := decide_eq_false (by omega)
      have HE : Hid (m = R) := Lib.hid (by rw [HM.out, ← HR0.out]; rw [show i = n by omega])
      clear HI HK
      go_wp2
      go_ret
      exact IsN.mk_ (by rw [HE.out]) (HB0.out.trans (HBx.out.mono HB0.out.size))
def allD (D : Nat → Bool) : Nat → Bool
  | 0 => true
  | i + 1 => allD D i && D i
theorem allD_no {D : Nat → Bool} {i n : Nat} (hi : i < n) (h : D i = false) : allD D n = false := by
  induction n with
  | zero => omega
  | succ n ih =>
    unfold allD
    by_cases e : i = n
    · subst e; rw [h, Bool.and_false]
    · rw [ih (by omega), Bool.false_and]
def standL (y : X3) (D : Nat → Bool) : Bool := if y.k = 3 then allD D y.n && y.t.toList == [] else if 0 < y.n then false else if y.k = 0 then mayL (byts y.t) else if y.k = 1 then numL (byts y.t) && decide (y.t.size ≤ 100) else if y.k = 2 then kwL (byts y.t) else false
set_option maxRecDepth 100000 in
set_option maxHeartbeats 2000000 in
theorem xstands_ok {w : World} {y : X3} (h : SxL w y) : ∃ q, ∀ W, Below w.heap.size w W → Calls Tryz.prog 94 #[y.val] W (IsB q W) := by
  refine SxL.ind2 (Q := fun y q => ∀ W, Below w.heap.size w W → Calls Tryz.prog 94 #[y.val] W (IsB q W)) ?_ h
  clear h y
  intro y hy D ih
  refine ⟨standL y D, fun W hW => ?_⟩
  obtain ⟨ht, hn, hk⟩ := (hy.kept hW).open_
  have HI := Lib.hid ih
  have HB0 := Lib.hid (x_box W y)
  have HX0 := Lib.hid (Blk.new W 54 #[.int .i8 y.k, .string y.t, .slice y.A y.n y.c])
  have HW := Lib.hid hW
  have HY := Lib.hid hy
  clear ih hk hW hy
  obtain ⟨k, t, A, n, c⟩ := y
  unfold X3.val standL
  simp only at *
  obtain ⟨x0, x1, x2⟩ := blk3 HX0.out
  have HM := Lib.hid (fun W => nmay_ok t W)
  have HV := Lib.hid (fun W => rkey_ok t W)
  have HP := Lib.hid (fun W => rparse_ok t W ht)
  by_cases h3 : k = 3
  · rw [if_pos h3]
    subst h3
    clear HM HV HP
    obtain ⟨R, hR⟩ : ∃ R, allD D n = R := ⟨_, rfl⟩
    have HR0 := Lib.hid hR
    rw [hR]
    clear hR
    obtain ⟨be, hbe⟩ : ∃ be, (t.toList == []) = be := ⟨_, rfl⟩
    have hbe' : t.toList.isEmpty = be := by rw [← hbe]; cases t.toList <;> rfl
    rw [hbe]
    go_enter Tryz.func94, Tryz.ntmps94
    go_upto_region 1 with fail
    obtain ⟨w0, hw0⟩ : ∃ w0, W.alloc (.cells #[.int .i8 3, .string t, .slice A n c] 54) = w0 := ⟨_, rfl⟩
    rw [hw0] at HX0 HB0 x0 x1 x2 ⊢
    clear hw0
    go_wp2
    go_loopg [5] n (fun g v wx => Below w0.heap.size w0 wx ∧ ∃ i : Nat, i + g = n ∧ v = .int .i64 i ∧ allD D i = true)
    case atStart => exact ⟨Below.refl _ _, 0, by omega, rfl, rfl⟩
    case round =>
      obtain ⟨hBx, i, hig, rfl, hinv⟩ := hrel
      have HBx := Lib.hid hBx
      have HA := Lib.hid hinv
      obtain ⟨z0, z1, z2⟩ := blk3 (HX0.out.below hBx HX0.out.lt)
      clear hBx x0 x1 x2 hinv
      cases gk with
      | succ gk =>
        have hin : i < n := by omega
        have hiz : (i : Int) < (n : Int) := by omega
        have d1 : decide ((i : Int) < n) = true := decide_eq_true hiz
        have t1 : (0 : Int) ≤ (i : Int) := by omega
        have hbW : Below W.heap.size W wr := HB0.out.trans (HBx.out.mono HB0.out.size)
        have hbw : Below w.heap.size w wr := HW.out.trans (hbW.mono HW.out.size)
        obtain ⟨b, off, z, hA, hlt, ⟨p0, p1, p2⟩, hz⟩ := HY.out.open_.2.2 i hin
        simp only at hA
        have q0 := (hbw.cell (p := ⟨b, off + i * 3, none⟩) hlt).trans p0
        have q1 := (hbw.cell (p := ⟨b, off + i * 3 + 1, none⟩) hlt).trans p1
        have q2 := (hbw.cell (p := ⟨b, off + i * 3 + 2, none⟩) hlt).trans p2
        have HR := Lib.hid (HI.out b off i z hin hA p0 p1 p2 hz wr hbw)
        subst hA
        clear HI p0 p1 p2 hz hbw hlt
        obtain ⟨k1, t1', A1, n1, c1⟩ := z
        unfold X3.val at HR
        simp only at HR q0 q1 q2
        cases hq : D i with
        | false =>
          have HE : Hid (R = false) := Lib.hid (by rw [← HR0.out]; exact allD_no hin hq)
          rw [hq] at HR
          clear hq
          go_wp2_with (go_at_call 94; refine HR.out.mono ?_; rintro e w1 ⟨rfl, hb1⟩)
          go_ret
          exact IsB.mk_ (by rw [HE.out, Bool.false_and]) (HB0.out.trans ((HBx.out.trans (hb1.mono HBx.out.size)).mono HB0.out.size))
        | true =>
          have HE : Hid (allD D (i + 1) = true) := Lib.hid (by show (allD D i && D i) = true; rw [HA.out, hq]; rfl)
          rw [hq] at HR
          clear hq
          go_wp2_with (go_at_call 94; refine HR.out.mono ?_; rintro e w1 ⟨rfl, hb1⟩)
          go_roundg gk
          case measure => omega
          case rel => exact ⟨HBx.out.trans (hb1.mono HBx.out.size), i + 1, by omega, by go_num, HE.out⟩
      | zero =>
        have d1 : decide ((i : Int) < n) = false := decide_eq_false (by omega)
        have HE : Hid (R = true) := Lib.hid (by rw [← HR0.out, ← HA.out, show n = i by omega])
        clear HI
        go_wp2
        go_ret
        exact IsB.mk_ (by rw [HE.out, Bool.true_and]) (HB0.out.trans (HBx.out.mono HB0.out.size))
  rw [if_neg h3]
  have e3 : (k != 3) = true := bne_iff_ne.2 h3
  have e3' : (k == 3) = false := beq_eq_false_iff_ne.2 h3
  clear HI HW HY
  by_cases h0 : 0 < n
  · rw [if_pos h0]
    have d0 : decide ((n : Int) > 0) = true := decide_eq_true (by omega)
    have d0' : decide ((0 : Int) < (n : Int)) = true := d0
    clear h3 HM HV HP
    go_enter Tryz.func94, Tryz.ntmps94
    go_wp2
    go_ret
    exact IsB.mk_ rfl HB0.out
  rw [if_neg h0]
  obtain rfl : n = 0 := by omega
  clear h0
  by_cases k0 : k = 0
  · subst k0
    rw [if_pos rfl]
    clear HP HV h3
    generalize mayL (byts t) = m at *
    go_enter Tryz.func94, Tryz.ntmps94
    go_wp2_with (go_at_call 75; refine (HM.out _).mono ?_; rintro e w1 ⟨rfl, rfl⟩)
    go_ret
    exact IsB.mk_ rfl HB0.out
  rw [if_neg k0]
  by_cases k1 : k = 1
  · subst k1
    rw [if_pos rfl]
    clear HM HV h3 k0
    have hdt : decide ((t.size : Int) ≤ 100) = decide (t.size ≤ 100) := by
      by_cases hn : t.size ≤ 100
      · rw [decide_eq_true hn]; exact decide_eq_true (by omega)
      · rw [decide_eq_false hn]; exact decide_eq_false (by omega)
    obtain ⟨bt, hbt⟩ : ∃ bt, decide (t.size ≤ 100) = bt := ⟨_, rfl⟩
    rw [hbt] at hdt ⊢
    obtain ⟨m, hm⟩ : ∃ m, numL (byts t) = m := ⟨_, rfl⟩
    rw [hm] at HP ⊢
    clear hm hbt
    cases m with
    | true =>
      go_enter Tryz.func94, Tryz.ntmps94
      go_wp2_with (go_at_call 107; refine (HP.out _).mono ?_; rintro e w1 ⟨⟨nv, cv, rfl, hcv⟩, rfl⟩; have hcn : (cv != 20) = true := (by show (!(cv == 20)) = true; rw [hcv]; rfl))
      go_ret
      exact IsB.mk_ (by cases bt <;> rfl) HB0.out
    | false =>
      go_enter Tryz.func94, Tryz.ntmps94
      go_wp2_with (go_at_call 107; refine (HP.out _).mono ?_; rintro e w1 ⟨⟨nv, cv, rfl, hcv⟩, rfl⟩; have hcn : (cv != 20) = false := (by show (!(cv == 20)) = false; rw [hcv]; rfl))
      go_ret
      exact IsB.mk_ rfl HB0.out
  rw [if_neg k1]
  by_cases k2 : k = 2
  · subst k2
    rw [if_pos rfl]
    clear HP HM h3 k0 k1
    generalize kwL (byts t) = m at *
    go_enter Tryz.func94, Tryz.ntmps94
    go_wp2_with (go_at_call 108; refine (HV.out _).mono ?_; rintro e w1 ⟨rfl, rfl⟩)
    go_ret
    exact IsB.mk_ rfl HB0.out
  rw [if_neg k2]
  have b0 : (k == 0) = false := beq_eq_false_iff_ne.2 k0
  have b1 : (k == 1) = false := beq_eq_false_iff_ne.2 k1
  have b2 : (k == 2) = false := beq_eq_false_iff_ne.2 k2
  clear k0 k1 k2 h3 HM HP HV
  go_enter Tryz.func94, Tryz.ntmps94
  go_wp2
  go_ret
  exact IsB.mk_ rfl HB0.out
set_option maxRecDepth 100000 in
theorem xmay3_ok {w : World} {y : X3} (h : SxL w y) : ∃ q, ∀ W, Below w.heap.size w W → Calls Tryz.prog 82 #[y.val] W (IsB q W) := by
  obtain ⟨d, hd⟩ := xdepth_ok h
  obtain ⟨q, hq⟩ := xstands_ok h
  refine ⟨decide (d ≤ 60) && q, fun W hW => ?_⟩
  have HB0 := Lib.hid (x_box W y)
  have HX0 := Lib.hid (Blk.new W 54 #[.int .i8 y.k, .string y.t, .slice y.A y.n y.c])
  have HW := Lib.hid hW
  have KD := Lib.hid hd
  have KS := Lib.hid hq
  clear h hd hq hW
  obtain ⟨k, t, A, n, c⟩ := y
  unfold X3.val at *
  simp only at *
  obtain ⟨x0, x1, x2⟩ := blk3 HX0.out
  cases hl : decide (d ≤ 60) with
  | false =>
    go_enter Tryz.func82, Tryz.ntmps82
    go_wp2_with (go_at_call 93; refine (KD.out _ (HW.out.trans (HB0.out.mono HW.out.size))).mono ?_; rintro e w1 ⟨rfl, hb1⟩; obtain ⟨y0, y1, y2⟩ := blk3 (HX0.out.below hb1 HX0.out.lt); have hb1 := HB0.out.trans (hb1.mono HB0.out.size))
    go_ret
    exact IsB.mk_ rfl hb1
  | true =>
    go_enter Tryz.func82, Tryz.ntmps82
    go_wp2_with (first
      | (go_at_call 93; refine (KD.out _ (HW.out.trans (HB0.out.mono HW.out.size))).mono ?_; rintro e w1 ⟨rfl, hb1⟩; obtain ⟨y0, y1, y2⟩ := blk3 (HX0.out.below hb1 HX0.out.lt); have hb1 := HB0.out.trans (hb1.mono HB0.out.size))
      | (go_at_call 94; refine (KS.out _ (HW.out.trans (hb1.mono HW.out.size))).mono ?_; rintro e w2 ⟨rfl, hb2⟩))
    go_ret
    exact IsB.mk_ rfl (hb1.trans (hb2.mono hb1.size))
structure ParP (n : Nat) (sf : Nat → ByteArray) (zf : Nat → Int) (i : Nat) : Prop where
  may : mayL (byts (sf i)) = true
  res : reservedL (byts (sf i)) = false
  sort : thereM n (zf i) = true
  ne : ∀ k, k < i → (sf k).toList ≠ (sf i).toList
structure MacP (n : Nat) (m : MacM) (q : Bool) (sf : Nat → ByteArray) (zf : Nat → Int) : Prop where
  np : m.np ≤ 3
  res : thereM n m.res = true
  body : q = true
  par : ∀ i, i < m.np → ParP n sf zf i
structure MacX (w : World) (m : MacM) (q : Bool) (sf : Nat → ByteArray) (zf : Nat → Int) : Prop where
  np : m.np ≤ 9223372036854775807
  pars : ∀ i, i < m.np → ∃ b off, m.P = some ⟨b, off, none⟩ ∧ b < w.heap.size ∧ w.cell? ⟨b, off + i * 2, none⟩ = some (.string (sf i)) ∧ w.cell? ⟨b, off + i * 2 + 1, none⟩ = some (.int .i64 (zf i)) ∧ I64 (zf i)
  body : ∀ W, Below w.heap.size w W → Calls Tryz.prog 82 #[m.y.val] W (IsB q W)
theorem MacX.below {w w' : World} {m : MacM} {q : Bool} {sf : Nat → ByteArray} {zf : Nat → Int} (h : MacX w m q sf zf) (hb : Below w.heap.size w w') : MacX w' m q sf zf :=
  ⟨h.np, fun i hi => by
    obtain ⟨b, off, e, hlt, h0, h1, h2⟩ := h.pars i hi
    exact ⟨b, off, e, Nat.lt_of_lt_of_le hlt hb.size, (hb.cell (p := ⟨b, off + i * 2, none⟩) hlt).trans h0, (hb.cell (p := ⟨b, off + i * 2 + 1, none⟩) hlt).trans h1, h2⟩, fun W hW => h.body W (hb.trans (hW.mono hb.size))⟩
theorem MacIn.x {w : World} {m : MacM} (h : MacIn w m) : ∃ q sf zf, MacX w m q sf zf := by
  obtain ⟨q, hq⟩ := xmay3_ok h.body
  have h1 : ∀ i, ∃ p : ByteArray × Int, i < m.np → ∃ b off, m.P = some ⟨b, off, none⟩ ∧ b < w.heap.size ∧ w.cell? ⟨b, off + i * 2, none⟩ = some (.string p.1) ∧ w.cell? ⟨b, off + i * 2 + 1, none⟩ = some (.int .i64 p.2) ∧ I64 p.2 := fun i => by
    by_cases hi : i < m.np
    · obtain ⟨b, off, s, z, h2⟩ := h.pars i hi
      exact ⟨(s, z), fun _ => ⟨b, off, h2⟩⟩
    · exact ⟨(ByteArray.empty, 0), fun h => absurd h hi⟩
  exact ⟨q, fun i => (Classical.choose (h1 i)).1, fun i => (Classical.choose (h1 i)).2, h.np, fun i hi => Classical.choose_spec (h1 i) hi, hq⟩
set_option maxRecDepth 100000 in
set_option maxHeartbeats 4000000 in
theorem xmacOk_ok {w : World} {g : SigV} {m : MacM} {q : Bool} {sf : Nat → ByteArray} {zf : Nat → Int} (h : SigAt w g) (hm : MacX w m q sf zf) (hr : I64 m.res) : Calls Tryz.prog 62 #[.agg g.cells, .agg m.agg] w (YesB (MacP g.sorts.length m q sf zf) w) := by
  obtain ⟨w0, hw0⟩ : ∃ w0, (w.alloc (.cells g.cells 26)).alloc (.cells m.agg 56) = w0 := ⟨_, rfl⟩
  have HB0 : Hid (Below w.heap.size w w0) := Lib.hid (by rw [← hw0]; exact (sig_box w g).alloc (sig_box w g).size _)
  have HG0 : Hid (Blk w0 w.heap.size 26 g.cells) := Lib.hid (by rw [← hw0]; exact (Blk.new w 26 g.cells).alloc _)
  have HF0 : Hid (Blk w0 (w.heap.size + 1) 56 m.agg) := Lib.hid (by rw [← hw0]; exact Blk.new_at (by simp) _ _)
  have H := Lib.hid (h.below HB0.out)
  have HX : Hid (∀ W, Below w0.heap.size w0 W → (W.cell? ⟨w.heap.size, 0, none⟩ = some (.slice g.A0 g.sorts.length g.c0) ∧ W.cell? ⟨w.heap.size, 1, none⟩ = some (.slice g.A1 g.funs.length g.c1) ∧ W.cell? ⟨w.heap.size, 2, none⟩ = some (.slice g.A2 g.macs.length g.c2)) ∧ W.cell? ⟨w.heap.size + 1, 1, none⟩ = some (.slice m.P m.np m.cp) ∧ W.cell? ⟨w.heap.size + 1, 2, none⟩ = some (.int .i64 m.res) ∧ W.cell? ⟨w.heap.size + 1, 3, none⟩ = some (.int .i8 m.y.k) ∧ W.cell? ⟨w.heap.size + 1, 4, none⟩ = some (.string m.y.t) ∧ W.cell? ⟨w.heap.size + 1, 5, none⟩ = some (.slice m.y.A m.y.n m.y.c)) := Lib.hid (fun W hW => by
    have h2 := HF0.out.below hW HF0.out.lt
    exact ⟨sig_blk (HG0.out.below hW HG0.out.lt), h2.cell 1, h2.cell 2, h2.cell 3, h2.cell 4, h2.cell 5⟩)
  have KT := Lib.hid (fun W (hW : Below w0.heap.size w0 W) (z : Int) (hz : I64 z) => there_ok (H.out.below hW) z hz)
  have KM := Lib.hid (fun W (hW : Below w0.heap.size w0 W) => (hm.below HB0.out).body W hW)
  have KN := Lib.hid (fun s W => nmay_ok s W)
  have KRs := Lib.hid (fun s W => rreserved_ok s W)
  have HP := Lib.hid (fun i hi => (hm.below HB0.out).pars i hi)
  have HR := Lib.hid hr
  have hnp := hm.np
  have HNo3 : Hid (3 < m.np → ¬ MacP g.sorts.length m q sf zf) := Lib.hid (fun h1 h2 => by have := h2.np; omega)
  have HNoR : Hid (thereM g.sorts.length m.res = false → ¬ MacP g.sorts.length m q sf zf) := Lib.hid (fun h1 h2 => Bool.noConfusion (h1.symm.trans h2.res))
  have HNoQ : Hid (q = false → ¬ MacP g.sorts.length m q sf zf) := Lib.hid (fun h1 h2 => Bool.noConfusion (h1.symm.trans h2.body))
  have HNoP : Hid (∀ i, i < m.np → ¬ ParP g.sorts.length sf zf i → ¬ MacP g.sorts.length m q sf zf) := Lib.hid (fun i hi h1 h2 => h1 (h2.par i hi))
  have HYes : Hid (¬ 3 < m.np → thereM g.sorts.length m.res = true → q = true → (∀ i, i < m.np → ParP g.sorts.length sf zf i) → MacP g.sorts.length m q sf zf) := Lib.hid (fun h1 h2 h3 h4 => ⟨by omega, h2, h3, h4⟩)
  have HPar : Hid (∀ i, ParP g.sorts.length sf zf i ↔ mayL (byts (sf i)) = true ∧ reservedL (byts (sf i)) = false ∧ thereM g.sorts.length (zf i) = true ∧ ∀ k, k < i → (sf k).toList ≠ (sf i).toList) := Lib.hid (fun i => ⟨fun h => ⟨h.may, h.res, h.sort, h.ne⟩, fun h => ⟨h.1, h.2.1, h.2.2.1, h.2.2.2⟩⟩)
  generalize MacP g.sorts.length m q sf zf = Pm at *
  generalize ParP g.sorts.length sf zf = Pp at *
  obtain ⟨⟨x0, x1, x2⟩, y1, y2, y3, y4, y5⟩ := HX.out w0 (Below.refl _ _)
  clear h hm
  obtain ⟨A0, c0, S, A1, c1, F, A2, c2, M⟩ := g
  obtain ⟨nm, P, np, cp, res, ⟨yk, yt, yA, yn, yc⟩⟩ := m
  unfold SigV.cells MacM.agg at *
  unfold X3.val at KM
  simp only at *
  have HW0 := Lib.hid hw0
  clear hw0 HG0 HF0 H
  go_enter Tryz.func62, Tryz.ntmps62
  go_upto_region 1 with fail
  rw [HW0.out]
  clear HW0
  by_cases hn3 : 3 < np
  · have d0 : decide ((np : Int) > 3) = true := decide_eq_true (by omega)
    have d0' : decide ((3 : Int) < (np : Int)) = true := decide_eq_true (by omega)
    have HE := Lib.hid (HNo3.out hn3)
    clear hn3 hr
    go_wp2
    go_ret
    exact YesB.no HE.out HB0.out
  have d0 : decide ((np : Int) > 3) = false := decide_eq_false (by omega)
  have d0' : decide ((3 : Int) < (np : Int)) = false := decide_eq_false (by omega)
  go_wp2_with fail
  refine (KT.out _ (Below.refl _ _) _ hr).mono ?_
  rintro e w1 ⟨rfl, hb1⟩
  have HB1 := Lib.hid hb1
  obtain ⟨⟨z0, z1, z2⟩, q1, q2, q3, q4, q5⟩ := HX.out w1 hb1
  clear hb1 x0 x1 x2 y1 y2 y3 y4 y5 d0 d0' hr
  cases hq : thereM S.length res with
  | false =>
    have HE := Lib.hid (HNoR.out hq)
    go_wp2
    go_ret
    exact YesB.no HE.out (HB0.out.trans (HB1.out.mono HB0.out.size))
  | true =>
    have HEnd := Lib.hid (HYes.out hn3 hq)
    clear hq
    go_wp2_with fail
    refine (KM.out _ HB1.out).mono ?_
    rintro e w2 ⟨rfl, hb2⟩
    have HB2 := Lib.hid (HB1.out.trans (hb2.mono HB1.out.size))
    clear hb2 z0 z1 z2 q1 q2 q3 q4 q5
    cases q with
    | false =>
      have HE := Lib.hid (HNoQ.out rfl)
      go_wp2
      go_ret
      exact YesB.no HE.out (HB0.out.trans (HB2.out.mono HB0.out.size))
    | true =>
      have HEn2 := Lib.hid (HEnd.out rfl)
      clear HEnd
      go_wp2
      go_loopg [5] np (fun g v wr => ∃ i : Nat, i + g = np ∧ v = .int .i64 i ∧ Below w0.heap.size w0 wr ∧ ∀ j, j < i → Pp j)
      case atStart => exact ⟨0, by omega, rfl, HB2.out, fun j h => absurd h (Nat.not_lt_zero j)⟩
      case round =>
        obtain ⟨i, hig, rfl, hb, hinv⟩ := hrel
        have HB := Lib.hid hb
        have HI := Lib.hid hinv
        clear hinv
        obtain ⟨⟨z0, z1, z2⟩, q1, q2, q3, q4, q5⟩ := HX.out wr hb
        clear hb
        cases gk with
        | zero =>
          obtain rfl : i = np := by omega
          have d1 : decide ((i : Int) < (i : Int)) = false := by simp
          go_wp2
          go_ret
          exact YesB.yes (HEn2.out HI.out) (HB0.out.trans (HB.out.mono HB0.out.size))
        | succ gk =>
          have hlt : i < np := by omega
          have d1 : decide ((i : Int) < (np : Int)) = true := decide_eq_true (by omega)
          have t1 : (0 : Int) ≤ (i : Int) := by omega
          have t2 : (i : Int) < (np : Int) := by omega
          obtain ⟨b, off, hA, hb, p0, p1, hz⟩ := HP.out i hlt
          have HPi := Lib.hid (HPar.out i)
          have HNi := Lib.hid (HNoP.out i hlt)
          obtain ⟨s, hs⟩ : ∃ s, sf i = s := ⟨_, rfl⟩
          obtain ⟨z, hzz⟩ : ∃ z, zf i = z := ⟨_, rfl⟩
          rw [hs] at p0 HPi
          rw [hzz] at p1 hz HPi
          clear hs hzz
          have p0' := (HB.out.cell (p := ⟨b, off + i * 2, none⟩) hb).trans p0
          have p1' := (HB.out.cell (p := ⟨b, off + i * 2 + 1, none⟩) hb).trans p1
          have HPk : Hid (∀ k, k < np → w0.cell? ⟨b, off + k * 2, none⟩ = some (.string (sf k))) := Lib.hid (fun k hk => by
            obtain ⟨b', off', hA', _, p0', _⟩ := HP.out k hk
            rw [hA] at hA'
            injection hA' with hA'
            injection hA' with e1 e2
            subst e1 e2
            exact p0')
          subst hA
          obtain ⟨pb, hpb⟩ : ∃ pb, wr.heap.size = pb := ⟨_, rfl⟩
          obtain ⟨w3, hw3⟩ : ∃ w3, wr.alloc (.cells #[.string s, .int .i64 z] 142) = w3 := ⟨_, rfl⟩
          have HB3 : Hid (Below w0.heap.size w0 w3) := Lib.hid (by rw [← hw3]; exact HB.out.alloc HB.out.size _)
          have HPb : Hid (Blk w3 pb 142 #[.string s, .int .i64 z]) := Lib.hid (by rw [← hw3, ← hpb]; exact Blk.new _ _ _)
          have HXp : Hid (∀ W, Below w3.heap.size w3 W → ((W.cell? ⟨w.heap.size, 0, none⟩ = some (.slice A0 S.length c0) ∧ W.cell? ⟨w.heap.size, 1, none⟩ = some (.slice A1 F.length c1) ∧ W.cell? ⟨w.heap.size, 2, none⟩ = some (.slice A2 M.length c2)) ∧ W.cell? ⟨w.heap.size + 1, 1, none⟩ = some (.slice (some ⟨b, off, none⟩) np cp)) ∧ W.cell? ⟨pb, 0, none⟩ = some (.string s) ∧ W.cell? ⟨pb, 1, none⟩ = some (.int .i64 z)) := Lib.hid (fun W hW => by
            have h := HX.out W (HB3.out.trans (hW.mono HB3.out.size))
            have h2 := HPb.out.below hW HPb.out.lt
            exact ⟨⟨h.1, h.2.1⟩, h2.cell 0, h2.cell 1⟩)
          have HW3 := Lib.hid hw3
          have HPB := Lib.hid hpb
          clear hw3 hpb p0 p1 q2 q3 q4 q5
          go_upto_region 7 with fail
          rw [HW3.out, HPB.out]
          clear HW3 HPB z0 z1 z2 q1 p0' p1'
          obtain ⟨⟨⟨z0, z1, z2⟩, q1⟩, p0, p1⟩ := HXp.out w3 (Below.refl _ _)
          go_wp2_with fail
          refine (KN.out s _).mono ?_
          rintro e w4 ⟨rfl, rfl⟩
          cases hb4 : mayL (byts s) with
          | false =>
            have HE := Lib.hid (HNi.out (fun h => Bool.noConfusion (hb4.symm.trans (HPi.out.1 h).1)))
            go_wp2
            go_ret
            exact YesB.no HE.out (HB0.out.trans (HB3.out.mono HB0.out.size))
          | true =>
            have HM4 := Lib.hid hb4
            clear hb4
            go_wp2_with fail
            refine (KRs.out s _).mono ?_
            rintro e w4 ⟨rfl, rfl⟩
            cases hb4 : reservedL (byts s) with
            | true =>
              have HE := Lib.hid (HNi.out (fun h => Bool.noConfusion (hb4.symm.trans (HPi.out.1 h).2.1)))
              go_wp2
              go_ret
              exact YesB.no HE.out (HB0.out.trans (HB3.out.mono HB0.out.size))
            | false =>
              have HR4 := Lib.hid hb4
              clear hb4
              go_wp2_with fail
              refine (KT.out _ HB3.out _ hz).mono ?_
              rintro e w5 ⟨rfl, hb5⟩
              have HB5 := Lib.hid (HB3.out.trans (hb5.mono HB3.out.size))
              have HB35 := Lib.hid hb5
              clear hb5 z0 z1 z2 q1 p0 p1
              cases hq : thereM S.length z with
              | false =>
                have HE := Lib.hid (HNi.out (fun h => Bool.noConfusion (hq.symm.trans (HPi.out.1 h).2.2.1)))
                go_wp2
                go_ret
                exact YesB.no HE.out (HB0.out.trans (HB5.out.mono HB0.out.size))
              | true =>
                have HDone := Lib.hid (fun h => HPi.out.2 ⟨HM4.out, HR4.out, hq, h⟩)
                clear hq hz
                have HZ5 := Lib.hid (Below.refl w5.heap.size w5)
                obtain ⟨gk0, rfl⟩ : ∃ go : Nat, go = gk := ⟨_, rfl⟩
                go_wp2
                go_loopg [7] i (fun g v wr => ∃ k : Nat, k + g = i ∧ v = .int .i64 k ∧ Below w5.heap.size w5 wr ∧ ∀ j, j < k → (sf j).toList ≠ s.toList)
                case atStart => exact ⟨0, by omega, rfl, HZ5.out, fun j h => absurd h (Nat.not_lt_zero j)⟩
                case round =>
                  obtain ⟨k, hkg, rfl, hb6, hinv⟩ := hrel
                  have HJ := Lib.hid hinv
                  clear hinv
                  have HB6 := Lib.hid hb6
                  clear hb6
                  cases gk with
                  | zero =>
                    obtain rfl : k = i := by omega
                    have d2 : decide ((k : Int) < (k : Int)) = false := by simp
                    go_wp2
                    go_roundg gk0
                    case measure => omega
                    case rel => exact ⟨k + 1, by omega, by go_num, HB5.out.trans (HB6.out.mono HB5.out.size), fun j h => by
                      rcases Nat.lt_or_ge j k with h' | h'
                      · exact HI.out j h'
                      · obtain rfl : j = k := by omega
                        exact HDone.out HJ.out⟩
                  | succ gq =>
                    have hki : k < i := by omega
                    have d2 : decide ((k : Int) < (i : Int)) = true := decide_eq_true (by omega)
                    have u1 : (0 : Int) ≤ (k : Int) := by omega
                    have u2 : (k : Int) < (np : Int) := by omega
                    have hs' := HPk.out k (by omega)
                    have HNk : Hid ((sf k).toList = s.toList → ¬ Pm) := Lib.hid (fun e => HNi.out (fun h => (HPi.out.1 h).2.2.2 k hki e))
                    have HSk : Hid ((sf k).toList ≠ s.toList → ∀ j, j < k + 1 → (sf j).toList ≠ s.toList) := Lib.hid (fun e j h => by
                      rcases Nat.lt_or_ge j k with h' | h'
                      · exact HJ.out j h'
                      · obtain rfl : j = k := by omega
                        exact e)
                    generalize sf k = s' at *
                    have HFx : Hid (∀ W, Below wr.heap.size wr W → W.cell? ⟨w.heap.size + 1, 1, none⟩ = some (.slice (some ⟨b, off, none⟩) np cp) ∧ W.cell? ⟨pb, 0, none⟩ = some (.string s) ∧ W.cell? ⟨b, off + k * 2, none⟩ = some (.string s')) := Lib.hid (fun W hW => by
                      have h6 := HB6.out.trans (hW.mono HB6.out.size)
                      have h3 := HB35.out.trans (h6.mono HB35.out.size)
                      obtain ⟨⟨_, e1⟩, e2, _⟩ := HXp.out W h3
                      exact ⟨e1, e2, by rw [(HB3.out.trans (h3.mono HB3.out.size)).cell (p := ⟨b, off + k * 2, none⟩) hb]; exact hs'⟩)
                    clear hs'
                    go_upto_region 12 with fail
                    refine wp_region_quiet (C := fun w' => Below wr.heap.size wr w') (by kernel_rfl) (by kernel_rfl) (⟨rfl, rfl, rfl, Nat.le_refl _, fun _ _ => rfl⟩) ?_
                    refine QW.lit ?_
                    refine qw_want rfl ?_ (fun w' hw' => ?_) ?_
                    rotate_left
                    · unfold Oper.quietAt
                      go_simp
                      exact rfl
                    simp only [Act.put, List.setIfInBounds_toArray, List.set_cons_succ, List.set_cons_zero]
                    refine qw_want rfl ?_ (fun w' hw' => ?_) ?_
                    rotate_left
                    · obtain ⟨k0, k1, k2⟩ := HFx.out w' hw'
                      unfold Oper.quietAt
                      go_simp
                      exact rfl
                    simp only [Act.put, List.setIfInBounds_toArray, List.set_cons_succ, List.set_cons_zero]
                    refine qw_want rfl ?_ (fun w' hw' => ?_) ?_
                    rotate_left
                    · unfold Oper.quietAt
                      go_simp
                      exact rfl
                    simp only [Act.put, List.setIfInBounds_toArray, List.set_cons_succ, List.set_cons_zero]
                    refine qw_want rfl ?_ (fun w' hw' => ?_) ?_
                    rotate_left
                    · unfold Oper.quietAt
                      go_simp
                      exact rfl
                    simp only [Act.put, List.setIfInBounds_toArray, List.set_cons_succ, List.set_cons_zero]
                    refine qw_want rfl ?_ (fun w' hw' => ?_) ?_
                    rotate_left
                    · unfold Oper.quietAt
                      go_simp
                      exact rfl
                    simp only [Act.put, List.setIfInBounds_toArray, List.set_cons_succ, List.set_cons_zero]
                    refine qw_want rfl ?_ (fun w' hw' => ?_) ?_
                    rotate_left
                    · obtain ⟨k0, k1, k2⟩ := HFx.out w' hw'
                      unfold Oper.quietAt
                      go_simp
                      exact rfl
                    simp only [Act.put, List.setIfInBounds_toArray, List.set_cons_succ, List.set_cons_zero]
                    refine qw_want rfl ?_ (fun w' hw' => ?_) ?_
                    rotate_left
                    · unfold Oper.quietAt
                      go_simp
                      exact rfl
                    simp only [Act.put, List.setIfInBounds_toArray, List.set_cons_succ, List.set_cons_zero]
                    refine qw_want rfl ?_ (fun w' hw' => ?_) ?_
                    rotate_left
                    · obtain ⟨k0, k1, k2⟩ := HFx.out w' hw'
                      unfold Oper.quietAt
                      go_simp
                      exact rfl
                    simp only [Act.put, List.setIfInBounds_toArray, List.set_cons_succ, List.set_cons_zero]
                    refine qw_want rfl ?_ (fun w' hw' => ?_) ?_
                    rotate_left
                    · unfold Oper.quietAt
                      go_simp
                      exact rfl
                    simp only [Act.put, List.setIfInBounds_toArray, List.set_cons_succ, List.set_cons_zero]
                    refine qw_end (fun w5 hb5 => ?_)
                    have HB7 := Lib.hid (HB6.out.trans (hb5.mono HB6.out.size))
                    clear hb5
                    cases hq : (s'.toList == s.toList) with
                    | true =>
                      have HE := Lib.hid (HNk.out (beq_iff_eq.1 hq))
                      go_wp2
                      go_ret
                      exact YesB.no HE.out (HB0.out.trans ((HB5.out.trans (HB7.out.mono HB5.out.size)).mono HB0.out.size))
                    | false =>
                      have HE := Lib.hid (HSk.out (beq_eq_false_iff_ne.1 hq))
                      go_wp2
                      go_roundg gq
                      case measure => omega
                      case rel => exact ⟨k + 1, by omega, by go_num, HB7.out, HE.out⟩
end Go.Proofs.YtkapbdjobfbhhaaGreat

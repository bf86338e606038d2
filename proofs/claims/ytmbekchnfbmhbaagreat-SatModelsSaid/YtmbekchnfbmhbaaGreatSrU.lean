/- The reference's Bound and Brute. -/
import Derived.Test.YtmbekchnfbmhbaaGreatSrS
namespace Go.Proofs.YtmbekchnfbmhbaaGreat
open Go.RowKit Go.Lib

theorem pow_small {i n : Nat} (hi : i ≤ n) (hn : n ≤ 8) : 3 ^ i ≤ 6561 := by
  have : i ≤ 8 := by omega
  calc 3 ^ i ≤ 3 ^ 8 := Nat.pow_le_pow_right (by decide) this
    _ = 6561 := by decide
set_option maxRecDepth 100000 in
set_option maxHeartbeats 4000000 in
theorem bound_ok {w : World} {n : Nat} (hn : n ≤ 8) :
    Calls Tryz.prog 12 #[.int .i64 n] w fun e w' => e = .returned (.int .i64 ((3 ^ n : Nat) : Int)) ∧ w = w' := by
  have d0 : decide ((n : Int) < 0) = false := decide_eq_false (by omega)
  go_enter Tryz.func12, Tryz.ntmps12
  go_wp2
  go_loopg [3, 4] n (fun g vo vi wx => w = wx ∧ ∃ i p : Nat, i + g = n ∧ vi = .int .i64 i ∧ vo = .int .i64 (p : Int) ∧ p = 3 ^ i)
  case atStart => exact ⟨rfl, 0, 1, by omega, rfl, rfl, rfl⟩
  case round =>
    obtain ⟨rfl, i, p, hig, rfl, rfl, hp⟩ := hrel
    have hps : p ≤ 6561 := by rw [hp]; exact pow_small (n := n) (by omega) hn
    have HP := Lib.hid hp
    clear hp
    cases gk with
    | zero =>
      obtain rfl : i = n := by omega
      have d1 : decide (i < i) = false := by simp
      go_wp2
      go_ret
      rw [HP.out]
      exact ⟨rfl, rfl⟩
    | succ k =>
      have d1 : decide (i < n) = true := decide_eq_true (by omega)
      have d2 : decide ((p : Int) < 1073741824) = true := decide_eq_true (by omega)
      go_wp2
      go_roundg k
      case measure => omega
      case rel => exact ⟨rfl, i + 1, p * 3, by omega, by go_num, by go_num, by rw [Nat.pow_succ, HP.out]⟩

def digK (n k i : Nat) : Int := 1 + ((k / 2 ^ (n - 1 - i) % 2 : Nat) : Int)
def valsK (n k : Nat) : List Int := (List.range n).map (digK n k)
theorem valsK_len (n k : Nat) : (valsK n k).length = n := by unfold valsK; rw [List.length_map, List.length_range]
theorem valsK_two (n k : Nat) : ∀ x ∈ valsK n k, x = 1 ∨ x = 2 := by
  intro x hx
  obtain ⟨i, _, rfl⟩ := List.mem_map.1 hx
  unfold digK
  omega
theorem valsK_succ (n k : Nat) : valsK (n + 1) k = digK (n + 1) k 0 :: valsK n k := by
  unfold valsK
  rw [List.range_succ_eq_map, List.map_cons, List.map_map]
  congr 1
  apply List.map_congr_left
  intro i _
  show 1 + ((k / 2 ^ (n + 1 - 1 - (i + 1)) % 2 : Nat) : Int) = 1 + ((k / 2 ^ (n - 1 - i) % 2 : Nat) : Int)
  rw [show n + 1 - 1 - (i + 1) = n - 1 - i by omega]
theorem digK_add (n a k i : Nat) (hi : i < n) : digK n (a * 2 ^ n + k) i = digK n k i := by
  unfold digK
  have e : 2 ^ n = 2 ^ (n - 1 - i) * (2 * 2 ^ i) := by
    rw [← Nat.pow_succ', ← Nat.pow_add]
    congr 1
    omega
  rw [e, show a * (2 ^ (n - 1 - i) * (2 * 2 ^ i)) + k = k + 2 ^ (n - 1 - i) * (a * (2 * 2 ^ i)) by rw [Nat.mul_left_comm, Nat.add_comm], Nat.add_mul_div_left _ _ (Nat.two_pow_pos _), show a * (2 * 2 ^ i) = 2 * (a * 2 ^ i) by rw [Nat.mul_left_comm], Nat.add_mul_mod_self_left]
theorem valsK_add (n a k : Nat) : valsK n (a * 2 ^ n + k) = valsK n k := by
  unfold valsK
  apply List.map_congr_left
  intro i hi
  exact digK_add n a k i (List.mem_range.1 hi)
theorem valsK_all : ∀ (vals : List Int), (∀ x ∈ vals, x = 1 ∨ x = 2) → ∃ k, k < 2 ^ vals.length ∧ valsK vals.length k = vals
  | [], _ => ⟨0, by decide, rfl⟩
  | v :: r, h => by
    obtain ⟨k, hk, e⟩ := valsK_all r fun x hx => h x (List.mem_cons_of_mem _ hx)
    refine ⟨(v - 1).toNat * 2 ^ r.length + k, ?_, ?_⟩
    · have hv : (v - 1).toNat ≤ 1 := by rcases h v List.mem_cons_self with e | e <;> omega
      have := Nat.mul_le_mul_right (2 ^ r.length) hv
      rw [List.length_cons, Nat.pow_succ]
      omega
    · rw [List.length_cons, valsK_succ, valsK_add, e]
      congr 1
      unfold digK
      rw [show r.length + 1 - 1 - 0 = r.length by omega, Nat.add_comm, Nat.add_mul_div_right _ _ (Nat.two_pow_pos _), Nat.div_eq_of_lt hk, Nat.zero_add]
      rcases h v List.mem_cons_self with e | e <;> rw [e] <;> rfl
def BruteAt (n : Nat) (R : List RowT) (b : Bool) : Prop := b = true ↔ ∃ vals : List Int, vals.length = n ∧ (∀ x ∈ vals, x = 1 ∨ x = 2) ∧ holdsM vals (rowsOf R) = true
theorem brute_no {n : Nat} {R : List RowT} (h : ∀ j, j < 2 ^ n → holdsM (valsK n j) (rowsOf R) = false) : BruteAt n R false := by
  refine ⟨(fun h => by cases h), ?_⟩
  rintro ⟨vals, rfl, h2, h3⟩
  obtain ⟨k, hk, e⟩ := valsK_all vals h2
  rw [← e, h k hk] at h3
  cases h3
theorem brute_yes {n k : Nat} {R : List RowT} (h : holdsM (valsK n k) (rowsOf R) = true) : BruteAt n R true := ⟨fun _ => ⟨_, valsK_len n k, valsK_two n k, h⟩, fun _ => rfl⟩
def BrutePost (w : World) (n : Nat) (R : List RowT) (e : Ending) (w' : World) : Prop := ∃ A m b, e = .returned (.tuple #[.slice A (m : Nat) m, .bool b]) ∧ BruteAt n R b ∧ Below w.heap.size w w'
theorem make8 (w : World) {n : Nat} (hn : n ≤ 400) : (Instr.makeSlice 27 (.int .i64 (n : Int)) (.int .i64 (n : Int))).run Tryz.prog w = .ok (.slice (some ⟨w.heap.size, 0, none⟩) n n) (w.alloc (.cells (c8 (List.replicate n 0)) 26)) := by
  obtain ⟨i0, hi, hz0, hz1, hz2⟩ := info_parts int8_infoB
  have hmk := run_make_rowN (P := Tryz.prog) 27 26 i0 (.int .i8 0) Tryz.underlying27 hi hz0 .i64 .i64 n n (Nat.le_refl _) (by rw [hz2]; omega) (by omega) w
  rw [hz1, Nat.mul_one] at hmk
  rw [hmk]
  have : madeCells (Value.int .i8 0).cells n = c8 (List.replicate n 0) := by
    rw [show (Value.int IntKind.i8 0).cells = #[Value.int .i8 0] from rfl, made_one]
    simp [c8]
  rw [this]
theorem pow2_small {n : Nat} (hn : n ≤ 8) : 2 ^ n ≤ 256 := by
  calc 2 ^ n ≤ 2 ^ 8 := Nat.pow_le_pow_right (by decide) hn
    _ = 256 := by decide
theorem dig_code {n k i : Nat} (hk : k ≤ 256) : IntKind.i8.wrap (wrap64 (1 + bits .and .i64 ((k : Int) / 2 ^ (n - 1 - i)) 1)) = digK n k i := by
  have e : ((k : Int) / 2 ^ (n - 1 - i)) = ((k / 2 ^ (n - 1 - i) : Nat) : Int) := by
    rw [Int.natCast_ediv, show (2 : Int) ^ (n - 1 - i) = ((2 ^ (n - 1 - i) : Nat) : Int) by simp]
  have hq : k / 2 ^ (n - 1 - i) ≤ 256 := Nat.le_trans (Nat.div_le_self _ _) hk
  rw [e]
  unfold digK
  generalize k / 2 ^ (n - 1 - i) = q at *
  rw [i64_and_one _ (by omega) (by omega)]
  have : (q : Int) % 2 = 0 ∨ (q : Int) % 2 = 1 := by omega
  rcases this with h | h
  · rw [h, show ((q % 2 : Nat) : Int) = 0 by omega]; decide +kernel
  · rw [h, show ((q % 2 : Nat) : Int) = 1 by omega]; decide +kernel
theorem dig_step {n k i : Nat} {V : List Int} (hi : i < n) (hl : V.length = n) (h : V.take i = (valsK n k).take i) : (V.set i (digK n k i)).take (i + 1) = (valsK n k).take (i + 1) := by
  have h1 : i < (V.set i (digK n k i)).length := by rw [List.length_set]; omega
  have h2 : i < (valsK n k).length := by rw [valsK_len]; exact hi
  rw [List.take_succ_eq_append_getElem h1, List.take_succ_eq_append_getElem h2, List.getElem_set_self, List.take_set_of_le (Nat.le_refl _), h]
  congr 2
  simp [valsK]
theorem wrap64_small {m : Nat} (h : m ≤ 256) : wrap64 (m : Int) = m := by
  unfold wrap64
  omega

set_option maxRecDepth 100000 in
set_option maxHeartbeats 4000000 in
theorem brute_ok {w : World} {A : Option Addr} {R : List RowT} {n : Nat} (cap : Nat) (hn : n ≤ 8) (h : Grid w A R) (hm : ∀ r ∈ R, ∀ x ∈ r.2.2, x ≤ 9223372036854775807) :
    Calls Tryz.prog 13 #[.int .i64 n, .slice A R.length cap] w (BrutePost w n R) := by
  have d0 : decide ((n : Int) < 0) = false := decide_eq_false (by omega)
  have d00 : decide ((16 : Int) < (n : Int)) = false := decide_eq_false (by omega)
  have hmk := fun W => make8 W (n := n) (by omega)
  have H := Lib.hid h
  have HM := Lib.hid hm
  have hps := pow2_small hn
  clear h hm
  go_enter Tryz.func13, Tryz.ntmps13
  go_wp2
  go_loopg [6] (2 ^ n) (fun g vk wx => Below w.heap.size w wx ∧ ∃ k : Nat, k + g = 2 ^ n ∧ vk = .int .i64 k ∧ ∀ j, j < k → holdsM (valsK n j) (rowsOf R) = false)
  case atStart => exact ⟨Below.refl _ _, 0, by omega, rfl, fun j hj => by omega⟩
  case round =>
    obtain ⟨hbel, k, hkg, rfl, hno⟩ := hrel
    have HB := Lib.hid hbel
    have HN := Lib.hid hno
    clear hbel hno
    have hw : wrap64 (2 ^ n) = ((2 ^ n : Nat) : Int) := by
      rw [show (2 : Int) ^ n = ((2 ^ n : Nat) : Int) by simp]
      exact wrap64_small hps
    have HW := Lib.hid hw
    cases gk with
    | zero =>
      have d1 : decide ((k : Int) < wrap64 (2 ^ n)) = false := by rw [hw]; exact decide_eq_false (by omega)
      have HF := Lib.hid (brute_no (fun j hj => HN.out j (by omega)))
      clear hw
      go_wp2
      exact bodyPost_ret (v := .tuple #[.slice none 0 0, .bool false]) (by simp [results, Tryz.results13, go_sem]) rfl ⟨none, 0, false, rfl, HF.out, HB.out⟩
    | succ g =>
      have d1 : decide ((k : Int) < wrap64 (2 ^ n)) = true := by rw [hw]; exact decide_eq_true (by omega)
      clear hw
      obtain ⟨wo, rfl⟩ : ∃ wo : World, wo = wr := ⟨_, rfl⟩
      have HA := Lib.hid (HB.out.alloc HB.out.size (.cells (c8 (List.replicate n 0)) 26))
      have HZ := Lib.hid (Blk.new wo 26 (c8 (List.replicate n 0)))
      have HG := Lib.hid HB.out.size
      go_wp2
      generalize wo.alloc (.cells (c8 (List.replicate n 0)) 26) = wa at *
      generalize wo.heap.size = gv at *
      go_loopg [8] n (fun g2 vi wx => Below w.heap.size w wx ∧ ∃ (i : Nat) (V : List Int), i + g2 = n ∧ vi = .int .i64 i ∧ Blk wx gv 26 (c8 V) ∧ V.length = n ∧ V.take i = (valsK n k).take i)
      case atStart => exact ⟨HA.out, 0, _, by omega, rfl, HZ.out, by simp, by simp⟩
      case round =>
        obtain ⟨hbel, i, V, hig, rfl, hV, hVl, hVt⟩ := hrel
        cases gk with
        | zero =>
          obtain rfl : i = n := by omega
          rw [List.take_of_length_le (by omega), List.take_of_length_le (by rw [valsK_len]; omega)] at hVt
          subst hVt
          have K1 := holds15_ok cap i (H.out.below hbel) (blk8_row hV (by rw [hVl]; omega)) HM.out
          rw [hVl] at K1
          have HB2 := Lib.hid hbel
          have d2 : decide (i < i) = false := by simp
          clear hV hbel hVl
          cases hh : holdsM (valsK i k) (rowsOf R) with
          | true =>
            rw [hh] at K1
            have HF := Lib.hid (brute_yes hh)
            clear hh
            go_wp2_with (go_at_call 15; (with_reducible refine K1.mono ?_); rintro e w6 ⟨rfl, rfl⟩)
            exact bodyPost_ret (v := .tuple #[.slice (some ⟨gv, 0, none⟩) i i, .bool true]) (by simp [results, Tryz.results13, go_sem]) rfl ⟨_, i, true, rfl, HF.out, HB2.out⟩
          | false =>
            rw [hh] at K1
            have HF := Lib.hid hh
            clear hh
            go_wp2_with (go_at_call 15; (with_reducible refine K1.mono ?_); rintro e w6 ⟨rfl, rfl⟩)
            go_roundg g
            case measure => omega
            case rel =>
              refine ⟨HB2.out, k + 1, by omega, by go_num, fun j hj => ?_⟩
              rcases Nat.lt_or_ge j k with h | h
              · exact HN.out j h
              · rw [show j = k by omega]; exact HF.out
        | succ g2 =>
          have d2 : decide (i < n) = true := decide_eq_true (by omega)
          have y0 := blk8_cell hV (show i < V.length by omega)
          have f0 := hV.frozen i
          have t1 : (0 : Int) ≤ (i : Int) := by omega
          have t2 : (i : Int) < (n : Int) := by omega
          generalize V[i]'(by omega) = v0 at y0
          have HV := Lib.hid hV
          have HT := Lib.hid hVt
          clear hV hVt
          have HD := Lib.hid (dig_code (n := n) (i := i) (show k ≤ 256 by omega))
          have HS := Lib.hid (dig_step (show i < n by omega) hVl HT.out)
          have HB3 := Lib.hid (hbel.setCell (p := ⟨gv, i, none⟩) (by exact HG.out) (.int .i8 (digK n k i)))
          clear hbel
          go_wp2
          rw [HD.out]
          go_roundg g2
          case measure => omega
          case rel => exact ⟨HB3.out, i + 1, _, by omega, by go_num, blk8_set HV.out i _, by rw [List.length_set]; exact hVl, HS.out⟩
end Go.Proofs.YtmbekchnfbmhbaaGreat

/- What is told where the budget is the bound's. -/
namespace Go.Proofs.YtmbekchnfbmhbaaGreat
open Go.RowKit Go.Lib

theorem may_budget {n b c : Int} {R : List RowT} (h : mayB n R b = true) (h0 : 0 ≤ c) (h1 : c ≤ 1048576) : mayB n R c = true := by
  have h2 := may_range h
  unfold mayB at h ⊢
  rw [Bool.and_eq_true] at h ⊢
  exact ⟨decide_eq_true ⟨h2.1, h2.2.1, h0, h1⟩, h.2⟩
theorem BruteAt.eq {n : Nat} {R : List RowT} {b c : Bool} (h : BruteAt n R b) (h2 : BruteAt n R c) : b = c := by
  have h3 : b = true ↔ c = true := h.trans h2.symm
  revert h3
  cases b <;> cases c <;> decide
/-- What is told, where there is an answer. -/
def Told (w : World) (n : Nat) (R : List RowT) (v : Value) : Prop :=
  (BruteAt n R true ∧ ∃ g vals, v = .agg #[.int .i8 0, .slice (some ⟨g, 0, none⟩) n n, .slice none 0 0] ∧ Blk w g 26 ((vals.map (Value.int .i8)).toArray) ∧ vals.length = n ∧ (∀ x ∈ vals, x = 1 ∨ x = 2) ∧ holdsM vals (rowsOf R) = true) ∨
  (BruteAt n R false ∧ ∃ QA qc st, v = .agg #[.int .i8 1, .slice none 0 0, .slice QA (st : List RowT).length qc] ∧ Grid w QA st ∧ (QA = none → qc = 0) ∧ st.length ≤ qc ∧ refutesM (rowsOf R) (rowsOf st) = true ∧ st.length ≤ 6562 ∧ CL n (rowsOf st))
theorem SatPost.told {w w' : World} {H0 n : Nat} {R : List RowT} {v : Value} (hn : n ≤ 8) (h : SatPost w H0 n R (3 ^ n) v w') : Told w' n R v := by
  rcases h.2 with ⟨g, vals, rfl, p1, p2, p3, p4⟩ | ⟨QA, qc, st, rfl, p1, p2, p3, p4, p5, p6⟩ | ⟨rfl, p1⟩
  · exact .inl ⟨⟨fun _ => ⟨vals, p2, p3, p4⟩, fun _ => rfl⟩, g, vals, rfl, p1, p2, p3, p4⟩
  · have hs := pow_small (Nat.le_refl n) hn
    obtain ⟨SA2, sc2, e2, hgr⟩ := own_grid2 p1 (by omega) p2
    obtain ⟨rfl, rfl⟩ : QA = SA2 ∧ qc = sc2 := by
      injection e2 with h1 h2 h3
      exact ⟨h1, h3⟩
    obtain ⟨g1, g2⟩ := own_cap p1
    refine .inr ⟨⟨(fun h => by cases h), ?_⟩, QA, qc, st, rfl, hgr, g1, g2, p3, by omega, p5⟩
    rintro ⟨vals, q1, q2, q3⟩
    exact absurd (holds_iff.2 q3) (p6 _ (vals_model q1 q2))
  · omega
def bnd (n : Nat) : Nat := 3 ^ n
theorem bound_any {w : World} {n : Nat} (hn : n ≤ 8) :
    Calls Tryz.prog 12 #[.int .i64 n] w fun e w' => e = .returned (.int .i64 (bnd n : Nat)) ∧ w = w' := bound_ok hn
/-- Solve with the bound's budget. -/
theorem solve_bound {w : World} {LA SA : Option Addr} {R : List RowT} {cl cs : Nat} {ss : List Int} {n : Nat} {b : Int} (hg : Grid w LA R) (hs : Row .i64 w SA ss) (hsn : SA = none → cs = 0) (hsc : ss.length ≤ cs) (hn : n ≤ 8) (hm : mayB n R b = true) (hR : R.length ≤ 1000) :
    Calls Tryz.prog 9 #[.int .i64 n, .slice LA R.length cl, .slice SA ss.length cs, .int .i64 (bnd n : Nat)] w fun e w' => ∃ v, e = .returned (.tuple #[v, .int .i64 0]) ∧ Told w' n R v ∧ SatPost w w.heap.size n R (3 ^ n) v w' := by
  have hs3 := pow_small (Nat.le_refl n) hn
  unfold bnd
  refine (solve_in hg hs hsn hsc (by omega) (may_budget hm (Int.natCast_nonneg _) (by rw [show (1048576 : Int) = ((1048576 : Nat) : Int) from rfl]; exact Int.ofNat_le.2 (by omega))) (by omega)).mono ?_
  rintro e w' ⟨v, h1, h2⟩
  exact ⟨v, h1, h2.told hn, h2⟩
theorem Told.kind {w : World} {n : Nat} {R : List RowT} {k : Int} {v1 v2 : Value} (h : Told w n R (.agg #[.int .i8 k, v1, v2])) : (k = 0 ∧ BruteAt n R true) ∨ (k = 1 ∧ BruteAt n R false) := by
  rcases h with ⟨h1, g, vals, e, _⟩ | ⟨h1, QA, qc, st, e, _⟩
  · injection e with e
    have := congrArg (fun a => a[0]?) e
    simp at this
    exact .inl ⟨this, h1⟩
  · injection e with e
    have := congrArg (fun a => a[0]?) e
    simp at this
    exact .inr ⟨this, h1⟩
end Go.Proofs.YtmbekchnfbmhbaaGreat

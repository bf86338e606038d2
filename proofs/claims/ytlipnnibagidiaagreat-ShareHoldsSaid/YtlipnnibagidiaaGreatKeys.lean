/- Keys of maps: pairs of ints; what a store leaves. -/
import Derived.Test.YtlipnnibagidiaaGreatMk
import Derived.Test.YtlipnnibagidiaaGreatRowA
import Derived.Deep.CutRange
import Derived.Maps.Own
import Derived.Maps.OwnOps
import Derived.Maps.OwnSet
import Derived.Maps.Views
import Derived.Test.YtlipnnibagidiaaGreatProg
import Derived.WideKeyPair
import Derived.DeepKeys4
import Derived.Deep.DeepCutAuto
import Derived.Deep.LoopGhost
namespace Go.Proofs.YtlipnnibagidiaaGreat
open Go.RowKit Go.Lib
theorem numB_may (x : Int) : numB x = mayI x := rfl
theorem may_wrap_add {a b : Int} (ha : mayI a = true) (hb : mayI b = true) : mayI (wrap64 (a + b)) = mayI (a + b) := by
  rw [mayI_iff] at ha hb
  rw [Bool.eq_iff_iff, mayI_iff, mayI_iff]
  unfold wrap64
  omega
theorem may_wrap_sub {a b : Int} (ha : mayI a = true) (hb : mayI b = true) : mayI (wrap64 (a - b)) = mayI (a - b) := by
  rw [mayI_iff] at ha hb
  rw [Bool.eq_iff_iff, mayI_iff, mayI_iff]
  unfold wrap64
  omega
theorem may_id {x : Int} (h : mayI x = true) : wrap64 x = x := by
  rw [mayI_iff] at h
  unfold wrap64
  omega
theorem addN_cases (a b : Int) : (mayI a = true ∧ mayI b = true ∧ mayI (a + b) = true ∧ addN a b = (a + b, 0)) ∨ ((mayI a && mayI b && mayI (a + b)) = false ∧ addN a b = (0, 10)) := by
  unfold addN
  cases h : (mayI a && mayI b && mayI (a + b)) with
  | true =>
    rw [Bool.and_eq_true, Bool.and_eq_true] at h
    exact .inl ⟨h.1.1, h.1.2, h.2, rfl⟩
  | false => exact .inr ⟨rfl, rfl⟩
theorem subN_cases (a b : Int) : (mayI a = true ∧ mayI b = true ∧ mayI (a - b) = true ∧ subN a b = (a - b, 0)) ∨ ((mayI a && mayI b && mayI (a - b)) = false ∧ subN a b = (0, 10)) := by
  unfold subN
  cases h : (mayI a && mayI b && mayI (a - b)) with
  | true =>
    rw [Bool.and_eq_true, Bool.and_eq_true] at h
    exact .inl ⟨h.1.1, h.1.2, h.2, rfl⟩
  | false => exact .inr ⟨rfl, rfl⟩
theorem may5_ok (n : Int) (w : World) : Calls Tryz.prog 111 #[.int .i64 n] w fun e w' => e = .returned (.bool (mayI n)) ∧ w = w' := by
  have := num5_ok n w
  rwa [numB_may] at this
theorem may_ok1 (n : Int) (w : World) : Calls Tryz.prog 125 #[.int .i64 n] w fun e w' => e = .returned (.bool (mayI n)) ∧ w = w' := by
  have := num_ok n w
  rwa [numB_may] at this
theorem radd_ok (a b : Int) (w : World) : Calls Tryz.prog 112 #[.int .i64 a, .int .i64 b] w fun e w' => e = .returned (.tuple #[.int .i64 (addN a b).1, .int .i64 (addN a b).2]) ∧ w = w' := by
  obtain ⟨ra, hra⟩ : ∃ r, mayI a = r := ⟨_, rfl⟩
  obtain ⟨rb, hrb⟩ : ∃ r, mayI b = r := ⟨_, rfl⟩
  obtain ⟨rs, hrs⟩ : ∃ r, mayI (a + b) = r := ⟨_, rfl⟩
  have K1 : Hid (∀ W, Calls Tryz.prog 111 #[.int .i64 a] W fun e w' => e = .returned (.bool ra) ∧ W = w') := zzh fun W => hra ▸ may5_ok a W
  have K2 : Hid (∀ W, Calls Tryz.prog 111 #[.int .i64 b] W fun e w' => e = .returned (.bool rb) ∧ W = w') := zzh fun W => hrb ▸ may5_ok b W
  have hcs := addN_cases a b
  rw [hra, hrb, hrs] at hcs
  have HW := zzh (fun (h : mayI a = true) (k : mayI b = true) => may_wrap_add h k)
  have HI := zzh (fun (h : mayI (a + b) = true) => may_id h)
  obtain ⟨q, hq⟩ : ∃ q, addN a b = q := ⟨_, rfl⟩
  rw [hq] at hcs ⊢
  have HCS := zzh hcs
  have HRA := zzh hra
  have HRB := zzh hrb
  have HRS := zzh hrs
  clear hcs hra hrb hrs hq
  cases ra with
  | false =>
    obtain rfl : q = (0, 10) := by rcases HCS.out with ⟨h, _⟩ | ⟨_, h⟩; cases h; exact h
    go_enter Tryz.func112, Tryz.ntmps112
    go_wp2_with fail
    refine (K1.out _).mono ?_
    rintro e w1 ⟨rfl, rfl⟩
    go_wp2_with fail
    go_ret2
    exact ⟨rfl, rfl⟩
  | true =>
    cases rb with
    | false =>
      obtain rfl : q = (0, 10) := by rcases HCS.out with ⟨_, h, _⟩ | ⟨_, h⟩; cases h; exact h
      go_enter Tryz.func112, Tryz.ntmps112
      go_wp2_with fail
      refine (K1.out _).mono ?_
      rintro e w1 ⟨rfl, rfl⟩
      go_wp2_with fail
      refine (K2.out _).mono ?_
      rintro e w1 ⟨rfl, rfl⟩
      go_wp2_with fail
      go_ret2
      exact ⟨rfl, rfl⟩
    | true =>
      have K3 : Hid (∀ W, Calls Tryz.prog 111 #[.int .i64 (wrap64 (a + b))] W fun e w' => e = .returned (.bool rs) ∧ W = w') := zzh fun W => by
        have := may5_ok (wrap64 (a + b)) W
        rwa [HW.out HRA.out HRB.out, HRS.out] at this
      cases rs with
      | false =>
        obtain rfl : q = (0, 10) := by rcases HCS.out with ⟨_, _, h, _⟩ | ⟨_, h⟩; cases h; exact h
        go_enter Tryz.func112, Tryz.ntmps112
        go_wp2_with fail
        refine (K1.out _).mono ?_
        rintro e w1 ⟨rfl, rfl⟩
        go_wp2_with fail
        refine (K2.out _).mono ?_
        rintro e w1 ⟨rfl, rfl⟩
        go_wp2_with fail
        refine (K3.out _).mono ?_
        rintro e w1 ⟨rfl, rfl⟩
        go_wp2_with fail
        go_ret2
        exact ⟨rfl, rfl⟩
      | true =>
        obtain rfl : q = (a + b, 0) := by rcases HCS.out with ⟨_, _, _, h⟩ | ⟨h, _⟩; exact h; cases h
        have hid := HI.out HRS.out
        go_enter Tryz.func112, Tryz.ntmps112
        go_wp2_with fail
        refine (K1.out _).mono ?_
        rintro e w1 ⟨rfl, rfl⟩
        go_wp2_with fail
        refine (K2.out _).mono ?_
        rintro e w1 ⟨rfl, rfl⟩
        rw [hid] at K3
        go_wp2_with fail
        refine (K3.out _).mono ?_
        rintro e w1 ⟨rfl, rfl⟩
        go_wp2_with fail
        go_ret2
        refine ⟨?_, rfl⟩
        show Ending.returned (.tuple #[.int .i64 (wrap64 (a + b)), .int .i64 0]) = Ending.returned (.tuple #[.int .i64 (a + b), .int .i64 0])
        rw [hid]
theorem rsub_ok (a b : Int) (w : World) : Calls Tryz.prog 163 #[.int .i64 a, .int .i64 b] w fun e w' => e = .returned (.tuple #[.int .i64 (subN a b).1, .int .i64 (subN a b).2]) ∧ w = w' := by
  obtain ⟨ra, hra⟩ : ∃ r, mayI a = r := ⟨_, rfl⟩
  obtain ⟨rb, hrb⟩ : ∃ r, mayI b = r := ⟨_, rfl⟩
  obtain ⟨rs, hrs⟩ : ∃ r, mayI (a - b) = r := ⟨_, rfl⟩
  have K1 : Hid (∀ W, Calls Tryz.prog 111 #[.int .i64 a] W fun e w' => e = .returned (.bool ra) ∧ W = w') := zzh fun W => hra ▸ may5_ok a W
  have K2 : Hid (∀ W, Calls Tryz.prog 111 #[.int .i64 b] W fun e w' => e = .returned (.bool rb) ∧ W = w') := zzh fun W => hrb ▸ may5_ok b W
  have hcs := subN_cases a b
  rw [hra, hrb, hrs] at hcs
  have HW := zzh (fun (h : mayI a = true) (k : mayI b = true) => may_wrap_sub h k)
  have HI := zzh (fun (h : mayI (a - b) = true) => may_id h)
  obtain ⟨q, hq⟩ : ∃ q, subN a b = q := ⟨_, rfl⟩
  rw [hq] at hcs ⊢
  have HCS := zzh hcs
  have HRA := zzh hra
  have HRB := zzh hrb
  have HRS := zzh hrs
  clear hcs hra hrb hrs hq
  cases ra with
  | false =>
    obtain rfl : q = (0, 10) := by rcases HCS.out with ⟨h, _⟩ | ⟨_, h⟩; cases h; exact h
    go_enter Tryz.func163, Tryz.ntmps163
    go_wp2_with fail
    refine (K1.out _).mono ?_
    rintro e w1 ⟨rfl, rfl⟩
    go_wp2_with fail
    go_ret2
    exact ⟨rfl, rfl⟩
  | true =>
    cases rb with
    | false =>
      obtain rfl : q = (0, 10) := by rcases HCS.out with ⟨_, h, _⟩ | ⟨_, h⟩; cases h; exact h
      go_enter Tryz.func163, Tryz.ntmps163
      go_wp2_with fail
      refine (K1.out _).mono ?_
      rintro e w1 ⟨rfl, rfl⟩
      go_wp2_with fail
      refine (K2.out _).mono ?_
      rintro e w1 ⟨rfl, rfl⟩
      go_wp2_with fail
      go_ret2
      exact ⟨rfl, rfl⟩
    | true =>
      have K3 : Hid (∀ W, Calls Tryz.prog 111 #[.int .i64 (wrap64 (a - b))] W fun e w' => e = .returned (.bool rs) ∧ W = w') := zzh fun W => by
        have := may5_ok (wrap64 (a - b)) W
        rwa [HW.out HRA.out HRB.out, HRS.out] at this
      cases rs with
      | false =>
        obtain rfl : q = (0, 10) := by rcases HCS.out with ⟨_, _, h, _⟩ | ⟨_, h⟩; cases h; exact h
        go_enter Tryz.func163, Tryz.ntmps163
        go_wp2_with fail
        refine (K1.out _).mono ?_
        rintro e w1 ⟨rfl, rfl⟩
        go_wp2_with fail
        refine (K2.out _).mono ?_
        rintro e w1 ⟨rfl, rfl⟩
        go_wp2_with fail
        refine (K3.out _).mono ?_
        rintro e w1 ⟨rfl, rfl⟩
        go_wp2_with fail
        go_ret2
        exact ⟨rfl, rfl⟩
      | true =>
        obtain rfl : q = (a - b, 0) := by rcases HCS.out with ⟨_, _, _, h⟩ | ⟨h, _⟩; exact h; cases h
        have hid := HI.out HRS.out
        go_enter Tryz.func163, Tryz.ntmps163
        go_wp2_with fail
        refine (K1.out _).mono ?_
        rintro e w1 ⟨rfl, rfl⟩
        go_wp2_with fail
        refine (K2.out _).mono ?_
        rintro e w1 ⟨rfl, rfl⟩
        rw [hid] at K3
        go_wp2_with fail
        refine (K3.out _).mono ?_
        rintro e w1 ⟨rfl, rfl⟩
        go_wp2_with fail
        go_ret2
        refine ⟨?_, rfl⟩
        show Ending.returned (.tuple #[.int .i64 (wrap64 (a - b)), .int .i64 0]) = Ending.returned (.tuple #[.int .i64 (a - b), .int .i64 0])
        rw [hid]
def WithIs (n a b : Int) (w : World) (e : Ending) (w' : World) : Prop := ∃ r : Bool, e = .returned (.tuple #[.int .i64 (if r = true then n else 0), .int .i64 (if r = true then 0 else 10)]) ∧ (r = true ↔ mayI a = true ∧ mayI b = true ∧ mayI n = true) ∧ Below w.heap.size w w'
set_option maxRecDepth 100000 in
set_option maxHeartbeats 2000000 in
theorem within_ok {w : World} {g : Nat} (n a b : Int) (h : Blk w g 3 #[.int .i64 a, .int .i64 b]) :
    Calls Tryz.prog 172 #[.int .i64 n, .slice (some ⟨g, 0, none⟩) 2 2] w (WithIs n a b w) := by
  have H := zzh h
  have HX : Hid (Blk (w.alloc (.cells #[.int .i64 n] 3)) g 3 ([a, b].map (Value.int .i64)).toArray) := zzh (h.alloc _)
  have HN := zzh (Blk.new w 3 #[.int .i64 n])
  clear h
  go_enter Tryz.func172, Tryz.ntmps172
  go_wp2_with (at_builtin; refine list_grow_int _ rfl (.tmp 8) (.tmp 10) rfl g [a, b] rfl HX.out (by simp) (by simp) w.heap.size n rfl HN.out ?_; intro A3 c3 w3 hr3 hc3 hb3; have HR3 := zzh hr3; have HB3 := zzh (((Below.refl _ w).alloc (Nat.le_refl _) (.cells #[.int .i64 n] 3)).trans (hb3.mono (by simp))); clear hr3 hc3 hb3)
  have HZ : Hid ((∀ x ∈ [a, b] ++ [n], mayI x = true) ↔ mayI a = true ∧ mayI b = true ∧ mayI n = true) := zzh (by simp)
  have HL : Hid (([a, b] ++ [n]).length = 3) := zzh rfl
  obtain ⟨zs, hzs⟩ : ∃ zs, [a, b] ++ [n] = zs := ⟨_, rfl⟩
  rw [hzs] at HR3 HZ HL
  clear hzs
  go_loopg [13] 3 (fun gk v wr => ∃ i : Nat, i + gk = 3 ∧ v = .int .i64 i ∧ (∀ x ∈ zs.take i, mayI x = true) ∧ Below w.heap.size w wr ∧ Below w3.heap.size w3 wr)
  case atStart => exact ⟨0, by omega, rfl, (fun x hx => by simp at hx), HB3.out, Below.refl _ _⟩
  case round =>
    obtain ⟨i, hig, rfl, hall, hb, hb3⟩ := hrel
    have HA := zzh hall
    have HB := zzh hb
    have HV := zzh hb3
    clear hall hb hb3
    cases gk with
    | zero =>
      obtain rfl : i = 3 := by omega
      have hdone : mayI a = true ∧ mayI b = true ∧ mayI n = true := HZ.out.1 (by have := HA.out; rwa [List.take_of_length_le (by rw [HL.out]; decide)] at this)
      have HD := zzh hdone
      clear hdone
      go_wp2
      go_ret2
      exact ⟨true, rfl, ⟨fun _ => HD.out, fun _ => rfl⟩, HB.out⟩
    | succ gk =>
      have hlt : i < zs.length := by rw [HL.out]; omega
      have hl3 : i < 3 := by omega
      have d1 : decide ((i : Int) < 3) = true := by simp; omega
      have t1 : (0 : Int) ≤ (i : Int) := by omega
      have t2 : (i : Int) < 3 := by omega
      obtain ⟨b3, off, hA, hbb, hcell⟩ := (HR3.out.below HV.out).at_.resolve_left (by omega)
      subst hA
      have y0 := hcell i hlt
      have HS : Hid (zs.take (i + 1) = zs.take i ++ [zs[i]]) := zzh (by rw [List.take_add_one, List.getElem?_eq_getElem hlt]; rfl)
      have HM : Hid (zs[i] ∈ zs) := zzh (List.getElem_mem hlt)
      clear hcell
      generalize zs[i] = x at *
      obtain ⟨mx, hmx⟩ : ∃ mx, mayI x = mx := ⟨_, rfl⟩
      have K : Hid (∀ W, Calls Tryz.prog 125 #[.int .i64 x] W fun e w' => e = .returned (.bool mx) ∧ W = w') := zzh fun W => hmx ▸ may_ok1 x W
      have HMX := zzh hmx
      clear hmx
      go_wp2_with fail
      refine (K.out _).mono ?_
      rintro e w5 ⟨rfl, rfl⟩
      cases mx with
      | false =>
        go_wp2
        go_ret2
        exact ⟨false, rfl, ⟨fun e => (by cases e), fun h => by have := HZ.out.2 h x HM.out; rw [HMX.out] at this; cases this⟩, HB.out⟩
      | true =>
        go_wp2
        go_roundg gk
        case measure => omega
        case rel =>
          refine ⟨i + 1, by omega, by go_num, fun y hy => ?_, HB.out, HV.out⟩
          rw [HS.out] at hy
          rcases List.mem_append.1 hy with hy | hy
          · exact HA.out y hy
          · rw [List.mem_singleton.1 hy]
            exact HMX.out
def AddIs (a b : Int) (w : World) (e : Ending) (w' : World) : Prop := e = .returned (.tuple #[.int .i64 (addN a b).1, .int .i64 (addN a b).2]) ∧ Below w.heap.size w w'
set_option maxRecDepth 100000 in
theorem padd_ok (a b : Int) (w : World) : Calls Tryz.prog 161 #[.int .i64 a, .int .i64 b] w (AddIs a b w) := by
  have HN := zzh (Blk.new w 3 #[.int .i64 a, .int .i64 b])
  have HB := zzh (show Below w.heap.size w (w.alloc (.cells #[.int .i64 a, .int .i64 b] 3)) from (Below.refl _ w).alloc (Nat.le_refl _) _)
  have HC := zzh (addN_cases a b)
  have HW := zzh (fun (h : mayI a = true) (k : mayI b = true) => may_wrap_add h k)
  go_enter Tryz.func161, Tryz.ntmps161
  go_wp2_with fail
  refine (within_ok _ a b HN.out).mono ?_
  rintro e w1 ⟨r, rfl, hr, hb⟩
  have HR := zzh hr
  have HB1 := zzh (HB.out.trans (hb.mono HB.out.size))
  clear hr hb
  cases r with
  | false =>
    have hq : addN a b = (0, 10) := by
      rcases HC.out with ⟨h1, h2, h3, _⟩ | ⟨_, h⟩
      · have := HR.out.2 ⟨h1, h2, by rw [HW.out h1 h2]; exact h3⟩
        cases this
      · exact h
    have HQ := zzh hq
    clear hq
    go_wp2
    go_ret2
    exact ⟨by rw [HQ.out]; rfl, HB1.out⟩
  | true =>
    have h0 := HR.out.1 rfl
    have hq : addN a b = (a + b, 0) ∧ wrap64 (a + b) = a + b := by
      rcases HC.out with ⟨_, _, h3, h⟩ | ⟨h, _⟩
      · exact ⟨h, may_id h3⟩
      · have h3 := h0.2.2
        rw [HW.out h0.1 h0.2.1] at h3
        rw [h0.1, h0.2.1, h3] at h
        cases h
    have HQ := zzh hq
    clear hq h0
    go_wp2
    go_ret2
    refine ⟨?_, HB1.out⟩
    show Ending.returned (.tuple #[.int .i64 (wrap64 (a + b)), .int .i64 0]) = _
    rw [HQ.out.1, HQ.out.2]
def SubIs (a b : Int) (w : World) (e : Ending) (w' : World) : Prop := e = .returned (.tuple #[.int .i64 (subN a b).1, .int .i64 (subN a b).2]) ∧ Below w.heap.size w w'
set_option maxRecDepth 100000 in
theorem psub_ok (a b : Int) (w : World) : Calls Tryz.prog 151 #[.int .i64 a, .int .i64 b] w (SubIs a b w) := by
  have HN := zzh (Blk.new w 3 #[.int .i64 a, .int .i64 b])
  have HB := zzh (show Below w.heap.size w (w.alloc (.cells #[.int .i64 a, .int .i64 b] 3)) from (Below.refl _ w).alloc (Nat.le_refl _) _)
  have HC := zzh (subN_cases a b)
  have HW := zzh (fun (h : mayI a = true) (k : mayI b = true) => may_wrap_sub h k)
  go_enter Tryz.func151, Tryz.ntmps151
  go_wp2_with fail
  refine (within_ok _ a b HN.out).mono ?_
  rintro e w1 ⟨r, rfl, hr, hb⟩
  have HR := zzh hr
  have HB1 := zzh (HB.out.trans (hb.mono HB.out.size))
  clear hr hb
  cases r with
  | false =>
    have hq : subN a b = (0, 10) := by
      rcases HC.out with ⟨h1, h2, h3, _⟩ | ⟨_, h⟩
      · have := HR.out.2 ⟨h1, h2, by rw [HW.out h1 h2]; exact h3⟩
        cases this
      · exact h
    have HQ := zzh hq
    clear hq
    go_wp2
    go_ret2
    exact ⟨by rw [HQ.out]; rfl, HB1.out⟩
  | true =>
    have h0 := HR.out.1 rfl
    have hq : subN a b = (a - b, 0) ∧ wrap64 (a - b) = a - b := by
      rcases HC.out with ⟨_, _, h3, h⟩ | ⟨h, _⟩
      · exact ⟨h, may_id h3⟩
      · have h3 := h0.2.2
        rw [HW.out h0.1 h0.2.1] at h3
        rw [h0.1, h0.2.1, h3] at h
        cases h
    have HQ := zzh hq
    clear hq h0
    go_wp2
    go_ret2
    refine ⟨?_, HB1.out⟩
    show Ending.returned (.tuple #[.int .i64 (wrap64 (a - b)), .int .i64 0]) = _
    rw [HQ.out.1, HQ.out.2]
def stepA (n e x : Int) : Int × Int := if e = 0 then addN n x else (n, e)
set_option maxRecDepth 100000 in
theorem sadd_ok {w : World} {s : Nat} (n er x : Int) (h : Blk w s 184 #[.int .i64 n, .int .i64 er]) :
    Calls Tryz.prog 138 #[.pointer (some ⟨s, 0, none⟩), .int .i64 x] w fun e w' => e = .returned (.tuple #[]) ∧ Blk w' s 184 #[.int .i64 (stepA n er x).1, .int .i64 (stepA n er x).2] ∧ Kept (fun b => b = s) w w' := by
  have c0 := h.cell 0
  have c1 := h.cell 1
  have hl := h.lt
  simp only [zzg, zzi, zzj] at c0 c1
  have H := zzh h
  clear h
  by_cases he : er = 0
  · subst he
    have HS : Hid (stepA n 0 x = addN n x) := zzh (if_pos rfl)
    go_enter Tryz.func138, Tryz.ntmps138
    go_wp2_with fail
    refine (padd_ok n x _).mono ?_
    rintro e w1 ⟨rfl, hb⟩
    have hb1 := H.out.below hb hl
    have f0 := hb1.frozen 0
    have f1 := hb1.frozen 1
    have c2 := hb1.cell 0
    have c3 := hb1.cell 1
    have hl1 := hb1.lt
    simp only [zzg, zzi, zzj] at c2 c3
    have HB1 := zzh hb1
    have HK := zzh (Kept.of_below (S := fun b => b = s) hb)
    obtain ⟨⟨q1, q2⟩, hq⟩ : ∃ q, addN n x = q := ⟨_, rfl⟩
    rw [hq] at HS ⊢
    clear hb hb1 c0 c1 hq
    go_wp2
    refine bodyPost_end (results_none rfl _ _ _) rfl ?_
    rw [HS.out]
    refine ⟨rfl, ?_, (HK.out.setCell (.inl rfl) _).setCell (.inl rfl) _⟩
    exact (HB1.out.set_ 0 (.int .i64 q1)).set_ 1 (.int .i64 q2)
  · have d0 : (er == 0) = false := by simp [he]
    have HS : Hid (stepA n er x = (n, er)) := zzh (if_neg he)
    clear he
    go_enter Tryz.func138, Tryz.ntmps138
    go_wp2
    refine bodyPost_end (results_none rfl _ _ _) rfl ?_
    rw [HS.out]
    exact ⟨rfl, H.out, Kept.refl _ _⟩
def stepS (n e x : Int) : Int × Int := if e = 0 then subN n x else (n, e)
set_option maxRecDepth 100000 in
theorem ssub_ok {w : World} {s : Nat} (n er x : Int) (h : Blk w s 184 #[.int .i64 n, .int .i64 er]) :
    Calls Tryz.prog 137 #[.pointer (some ⟨s, 0, none⟩), .int .i64 x] w fun e w' => e = .returned (.tuple #[]) ∧ Blk w' s 184 #[.int .i64 (stepS n er x).1, .int .i64 (stepS n er x).2] ∧ Kept (fun b => b = s) w w' := by
  have c0 := h.cell 0
  have c1 := h.cell 1
  have hl := h.lt
  simp only [zzg, zzi, zzj] at c0 c1
  have H := zzh h
  clear h
  by_cases he : er = 0
  · subst he
    have HS : Hid (stepS n 0 x = subN n x) := zzh (if_pos rfl)
    go_enter Tryz.func137, Tryz.ntmps137
    go_wp2_with fail
    refine (psub_ok n x _).mono ?_
    rintro e w1 ⟨rfl, hb⟩
    have hb1 := H.out.below hb hl
    have f0 := hb1.frozen 0
    have f1 := hb1.frozen 1
    have c2 := hb1.cell 0
    have c3 := hb1.cell 1
    have hl1 := hb1.lt
    simp only [zzg, zzi, zzj] at c2 c3
    have HB1 := zzh hb1
    have HK := zzh (Kept.of_below (S := fun b => b = s) hb)
    obtain ⟨⟨q1, q2⟩, hq⟩ : ∃ q, subN n x = q := ⟨_, rfl⟩
    rw [hq] at HS ⊢
    clear hb hb1 c0 c1 hq
    go_wp2
    refine bodyPost_end (results_none rfl _ _ _) rfl ?_
    rw [HS.out]
    refine ⟨rfl, ?_, (HK.out.setCell (.inl rfl) _).setCell (.inl rfl) _⟩
    exact (HB1.out.set_ 0 (.int .i64 q1)).set_ 1 (.int .i64 q2)
  · have d0 : (er == 0) = false := by simp [he]
    have HS : Hid (stepS n er x = (n, er)) := zzh (if_neg he)
    clear he
    go_enter Tryz.func137, Tryz.ntmps137
    go_wp2
    refine bodyPost_end (results_none rfl _ _ _) rfl ?_
    rw [HS.out]
    exact ⟨rfl, H.out, Kept.refl _ _⟩
end Go.Proofs.YtlipnnibagidiaaGreat
namespace Go.Proofs.YtlipnnibagidiaaGreat
open Go.ChangeMaps Go.RowKit
open Go.Maps (Keyed)
def heldV (v : Value) : Option (DataW Value × List MemPlace) := some (.held v, [])
def MapAt (P : Program) (k : TypeId) (w : World) (b n : Nat) (f : Value → Option Value) : Prop :=
  ∃ D, w.ownsMap P k heldV b n D ∧ ∀ key kl, keyOf P k key = some kl → ∀ zd, D.atKey kl zd = match f key with | some v => .held v | none => zd
section
variable {P : Program} {k : TypeId} {w w' : World} {b n : Nat} {f : Value → Option Value}
theorem MapAt.lt (h : MapAt P k w b n f) : b < w.heap.size := by
  obtain ⟨D, h, _⟩ := h
  exact h.lt
theorem MapAt.obj (h : MapAt P k w b n f) : ∃ es clock, w.heap[b]? = some (.map es clock) := by
  obtain ⟨D, ⟨es, clock, hb, _⟩, _⟩ := h
  exact ⟨es, clock, hb⟩
theorem MapAt.same (h : MapAt P k w b n f) (hb : w'.heap[b]? = w.heap[b]?) : MapAt P k w' b n f := by
  obtain ⟨D, ⟨es, clock, h1, h2⟩, h3⟩ := h
  exact ⟨D, ⟨es, clock, hb.trans h1, h2⟩, h3⟩
theorem MapAt.kept {S : Nat → Prop} (h : MapAt P k w b n f) (hk : Kept S w w') (hn : ¬ S b) : MapAt P k w' b n f := h.same (hk.block b h.lt hn)
theorem MapAt.alloc (h : MapAt P k w b n f) (o : Obj) : MapAt P k (w.alloc o) b n f := h.same (Below.heap_alloc w o b h.lt)
theorem MapAt.drew (h : MapAt P k w b n f) : MapAt P k w.drew b n f := h
theorem MapAt.drewN (h : MapAt P k w b n f) (i : Nat) : MapAt P k (w.drewN i) b n f := h
theorem MapAt.far (h : MapAt P k w b n f) {p : Addr} (hp : b ≠ p.block) (u : Value) : MapAt P k (w.setCell p u) b n f := h.same (Below.heap_setCell w p u b hp)
theorem MapAt.grown {row : Option Nat} (h : MapAt P k w b n f) (hg : w.grownBy w' row) (hn : some b ≠ row) : MapAt P k w' b n f := h.same (hg.block b h.lt hn)
theorem MapAt.below {B : Nat} (h : MapAt P k w b n f) (hb : Below B w w') (hl : b < B) : MapAt P k w' b n f := h.same (hb.block b hl)
theorem MapAt.made (P : Program) (k : TypeId) (w : World) : MapAt P k (w.alloc (.map #[] 0)) w.heap.size 0 (fun _ => none) :=
  ⟨_, World.ownsMap_made w P k heldV, fun _ _ _ _ => rfl⟩
theorem MapAt.mono (h : MapAt P k w b n f) {m : Nat} (hm : n ≤ m) : MapAt P k w b m f := by
  obtain ⟨D, h1, h2⟩ := h
  exact ⟨D, h1.mono hm, h2⟩
theorem MapAt.congr (h : MapAt P k w b n f) {g : Value → Option Value} (hg : ∀ key kl, keyOf P k key = some kl → g key = f key) : MapAt P k w b n g := by
  obtain ⟨D, h1, h2⟩ := h
  exact ⟨D, h1, fun key kl hkey zd => by rw [hg key kl hkey]; exact h2 key kl hkey zd⟩
theorem MapAt.look {t e : TypeId} (h : MapAt P k w b n f) (K : Keyed P k) (ht : P.underlying t = some (.map k e)) {z : Value} (hz : (zeroValue e).run P w = .ok z w) {key : Value} {kl : Lit} (hkey : keyOf P k key = some kl) (c : Bool) :
    (Instr.lookup t (.map (some b)) key c).run P w = .ok (match f key with | some v => (if c then .tuple #[v, .bool true] else v) | none => (if c then .tuple #[z, .bool false] else z)) w := by
  obtain ⟨D, ⟨es, clock, hb, F, _, rfl⟩, hf⟩ := h
  have hf0 := hf key kl hkey .nil
  rcases Go.Maps.fit_look c K ht hz hb F hkey with ⟨hrun, _, hat⟩ | ⟨e0, y, _, _, hrun, hRv, hat, _⟩
  · rw [hat] at hf0
    cases hfk : f key with
    | none => exact hrun
    | some v => rw [hfk] at hf0; cases hf0
  · rw [hat] at hf0
    injection hRv with hRv
    subst hRv
    cases hfk : f key with
    | none => rw [hfk] at hf0; cases hf0
    | some v =>
      rw [hfk] at hf0
      injection hf0 with hf0
      subst hf0
      exact hrun
theorem MapAt.store {t e : TypeId} (h : MapAt P k w b n f) (K : Keyed P k) (ht : P.underlying t = some (.map k e)) (hn : n < maxLen) {key : Value} {kl : Lit} (hkey : keyOf P k key = some kl) (val : Value) {g : Value → Option Value}
    (hg : g key = some val) (hg' : ∀ x, x ≠ key → g x = f x) :
    ∃ w', (Instr.mapUpdate t (.map (some b)) key val).run P w = .ok () w' ∧ MapAt P k w' b (n + 1) g ∧ w.grownBy w' (some b) := by
  obtain ⟨D, h1, hf⟩ := h
  obtain ⟨w', hrun, h2, hgr⟩ := h1.update K ht hn hkey (d := .held val) (ps := []) rfl
  refine ⟨w', hrun, ⟨_, h2, fun x xl hx zd => ?_⟩, hgr⟩
  by_cases hxk : x = key
  · subst hxk
    rw [hkey] at hx
    injection hx with hx
    subst hx
    rw [hg, Go.Maps.atKey_put_same h1.isMap (K.key hkey)]
  · have hne : xl ≠ kl := by
      rintro rfl
      exact hxk (K.inj hx hkey)
    rw [hg' x hxk, Go.Maps.atKey_put_other hne, hf x xl hx]
end
end Go.Proofs.YtlipnnibagidiaaGreat
namespace Go.Proofs.YtlipnnibagidiaaGreat
open Go.RowKit
open Go.Maps (Keyed)
def pairKey (x y : Int) : Value := .agg #[.int .i64 x, .int .i64 y]
theorem laidOut : laidOutB Tryz.prog = true := by kernel_rfl
theorem pair_key : Keyed Tryz.prog 122 := Go.Maps.Keyed.of_law (deep_law_laid laidOut (m := 3) (by decide) (of_decide_eq_true (by kernel_rfl)) (by kernel_rfl) (by kernel_rfl))
theorem pair_arr : Go.WideMaps.ArrKey Tryz.prog 122 3 2 := ⟨Tryz.underlying122, by kernel_rfl, by kernel_rfl, by kernel_rfl⟩
theorem int_wf {x : Int} (h0 : -9223372036854775808 ≤ x) (h1 : x ≤ 9223372036854775807) : (Lit.int .i64 x).wf = true := by
  simp [Lit.wf, IntKind.min, IntKind.max, IntKind.bits, IntKind.signed]; omega
theorem types_size : ∃ m, Tryz.prog.types.size = m + 1 := ⟨Tryz.prog.types.size - 1, by kernel_rfl⟩
open Classical in
noncomputable def putFn (q : Value → Option Value) (k u : Value) (v : Value) : Option Value := if v = k then some u else q v
theorem putFn_at (q : Value → Option Value) (k u : Value) : putFn q k u k = some u := if_pos rfl
theorem putFn_far (q : Value → Option Value) (k u v : Value) (h : v ≠ k) : putFn q k u v = q v := if_neg h
theorem pairKey_inj {a b x y : Int} (h : pairKey a b = pairKey x y) : a = x ∧ b = y := by
  unfold pairKey at h
  simpa using h
end Go.Proofs.YtlipnnibagidiaaGreat

/- Rows of ints as they lie; append to a row that has no room. -/
import Derived.Test.YtlipnnibagidiaaGreatEuB
import Derived.Laws.AppendOwn
import Derived.Test.YtlipnnibagidiaaGreatEuA
import Derived.Test.YtlipnnibagidiaaGreatShS
import Derived.Deep.CutRange
namespace Go.Proofs.YtlipnnibagidiaaGreat
open Go.RowKit

structure Row (w : World) (A : Option Addr) (zs : List Int) : Prop where
  len : zs.length ≤ 100000
  at_ : zs.length = 0 ∨ ∃ b off, A = some ⟨b, off, none⟩ ∧ b < w.heap.size ∧ ∀ i (h : i < zs.length), w.cell? ⟨b, off + i, none⟩ = some (.int .i64 zs[i])
theorem Row.below {w w' : World} {A : Option Addr} {zs : List Int} (h : Row w A zs) (hb : Below w.heap.size w w') : Row w' A zs := by
  refine ⟨h.len, h.at_.imp id fun ⟨b, off, h1, h2, h3⟩ => ⟨b, off, h1, Nat.lt_of_lt_of_le h2 hb.size, fun i hi => ?_⟩⟩
  rw [hb.cell (p := ⟨b, off + i, none⟩) h2]
  exact h3 i hi
theorem int_info : (Tryz.prog.info? 3).map (fun i => (i.zero, i.size, i.bytes)) = some (some (.int .i64 0), 1, 8) := by kernel_rfl
/-- append of one to a row that has no room. -/
theorem wp_grow_int {o : Oper} {a : Act} {K : Act → World → Prop} {Q : Exit → Act → World → Prop} (w : World) (s x : Operand)
    (ho : o.op = .call { callee := .builtin .append, args := #[s, x], argTypes := #[27, 27] })
    (b : Nat) (zs : List Int) (hs : a.eval s = .slice (some ⟨b, 0, none⟩) zs.length zs.length) (hz : Blk w b 3 (zs.map (Value.int .i64)).toArray) (hp : 0 < zs.length) (hl : zs.length ≤ 1000)
    (g : Nat) (n : Int) (hx : a.eval x = .slice (some ⟨g, 0, none⟩) 1 1) (hg : Blk w g 3 #[.int .i64 n])
    (h : ∀ A' c' w', Row w' A' (zs ++ [n]) → (zs ++ [n]).length ≤ c' → Below w.heap.size w w' → K (a.put o.dst (.slice A' (zs ++ [n]).length c')) w') : o.wp Tryz.prog a w K Q := by
  obtain ⟨i0, hi, hz0, hz1, hz2⟩ := info_parts int_info
  have addp : ∀ c j, (⟨c, 0, none⟩ : Addr).add j = ⟨c, j, none⟩ := fun c j => by unfold Addr.add; split <;> simp_all
  have hr := run_append_grow (P := Tryz.prog) w 27 o.type 3 i0 (.int .i64 0) Tryz.underlying27 hi hz0 ⟨b, 0, none⟩ zs.length zs.length (zs.map (Value.int .i64)) (by rw [List.length_map, hz1]; omega) (fun j v hj => by rw [addp, hz.cell, List.getElem?_toArray]; exact hj) ⟨g, 0, none⟩ 1 1 [.int .i64 n] (by rw [hz1]; rfl) (fun j v hj => by rw [addp, hg.cell, List.getElem?_toArray]; exact hj) (by omega) (by omega) (by
    have := nextslicecap_le (need := zs.length + 1) (old := zs.length) (by omega)
    rw [hz2]
    omega)
  have hge := grownCap_ge w (zs.length + 1) zs.length 3
  generalize grownCap w (zs.length + 1) zs.length 3 = gc at *
  have hlen : (zs ++ [n]).length = zs.length + 1 := by simp
  have hblk : Blk (w.drew.alloc (.cells ((zs.map (Value.int .i64)).toArray ++ [Value.int .i64 n].toArray ++ Builtin.zeroCells (Value.int .i64 0).cells (gc - (zs.length + 1))) 3)) w.heap.size 3 ((zs.map (Value.int .i64)).toArray ++ [Value.int .i64 n].toArray ++ Builtin.zeroCells (Value.int .i64 0).cells (gc - (zs.length + 1))) := Blk.new w.drew _ _
  have h1 := h (some ⟨w.heap.size, 0, none⟩) gc _ ⟨by rw [hlen]; omega, .inr ⟨w.heap.size, 0, rfl, hblk.lt, fun i hi' => ?_⟩⟩ (by rw [hlen]; exact hge) ((below_drewN (Below.refl _ w) 1).alloc (Nat.le_refl _) _)
  · unfold Oper.wp execOp
    simp only [ho, resolve, invoke, builtin, Sem.run_bind, Sem.run_pure, Result.andThen_ok, List.map_toArray, List.map_cons, List.map_nil, hs, hx]
    rw [hr]
    rw [hlen] at h1
    exact h1
  · rw [Nat.zero_add, hblk.cell, ← Array.getElem?_toList]
    simp only [Array.toList_append]
    rw [List.getElem?_append_left (by simp; omega)]
    have e : zs.map (Value.int .i64) ++ [Value.int .i64 n] = (zs ++ [n]).map (Value.int .i64) := by simp
    rw [e, List.getElem?_map, List.getElem?_eq_getElem hi']
    rfl
theorem list_grow_int {ops : Array Oper} {rest : List Oper} {o : Oper} {a : Act} {Q : Exit → Act → World → Prop} (w : World) (hw : Region.wanted o (yielded ops a.tmps) = true) (s x : Operand)
    (ho : o.op = .call { callee := .builtin .append, args := #[s, x], argTypes := #[27, 27] })
    (b : Nat) (zs : List Int) (hs : a.eval s = .slice (some ⟨b, 0, none⟩) zs.length zs.length) (hz : Blk w b 3 (zs.map (Value.int .i64)).toArray) (hp : 0 < zs.length) (hl : zs.length ≤ 1000)
    (g : Nat) (n : Int) (hx : a.eval x = .slice (some ⟨g, 0, none⟩) 1 1) (hg : Blk w g 3 #[.int .i64 n])
    (h : ∀ A' c' w', Row w' A' (zs ++ [n]) → (zs ++ [n]).length ≤ c' → Below w.heap.size w w' → wpList Tryz.prog ops Q rest (a.put o.dst (.slice A' (zs ++ [n]).length c')) w') : wpList Tryz.prog ops Q (o :: rest) a w :=
  wpList_step fun K hK => by
    rw [if_pos hw]
    exact wp_grow_int w s x ho b zs hs hz hp hl g n hx hg fun A' c' w' h1 h2 h3 => hK _ _ (h A' c' w' h1 h2 h3)
end Go.Proofs.YtlipnnibagidiaaGreat

/- Sums and differences that may be: the reference's, the program's. -/
namespace Go.Proofs.YtlipnnibagidiaaGreat
open Go.RowKit

theorem numB_may (x : Int) : numB x = mayI x := rfl
theorem may_wrap_add {a b : Int} (ha : mayI a = true) (hb : mayI b = true) : mayI (wrap64 (a + b)) = mayI (a + b) := by
  rw [mayI_iff] at ha hb
  rw [Bool.eq_iff_iff, mayI_iff, mayI_iff]
  unfold wrap64
  omega
theorem may_wrap_sub {a b : Int} (ha : mayI a = true) (hb : mayI b = true) : mayI (wrap64 (a - b)) = mayI (a - b) := by
  rw [mayI_iff] at ha hb
  rw [Bool.eq_iff_iff, mayI_iff, mayI_iff]
  unfold wrap64
  omega
theorem may_id {x : Int} (h : mayI x = true) : wrap64 x = x := by
  rw [mayI_iff] at h
  unfold wrap64
  omega
theorem addN_cases (a b : Int) : (mayI a = true ∧ mayI b = true ∧ mayI (a + b) = true ∧ addN a b = (a + b, 0)) ∨ ((mayI a && mayI b && mayI (a + b)) = false ∧ addN a b = (0, 10)) := by
  unfold addN
  cases h : (mayI a && mayI b && mayI (a + b)) with
  | true =>
    rw [Bool.and_eq_true, Bool.and_eq_true] at h
    exact .inl ⟨h.1.1, h.1.2, h.2, rfl⟩
  | false => exact .inr ⟨rfl, rfl⟩
theorem subN_cases (a b : Int) : (mayI a = true ∧ mayI b = true ∧ mayI (a - b) = true ∧ subN a b = (a - b, 0)) ∨ ((mayI a && mayI b && mayI (a - b)) = false ∧ subN a b = (0, 10)) := by
  unfold subN
  cases h : (mayI a && mayI b && mayI (a - b)) with
  | true =>
    rw [Bool.and_eq_true, Bool.and_eq_true] at h
    exact .inl ⟨h.1.1, h.1.2, h.2, rfl⟩
  | false => exact .inr ⟨rfl, rfl⟩
theorem may5_ok (n : Int) (w : World) : Calls Tryz.prog 111 #[.int .i64 n] w fun e w' => e = .returned (.bool (mayI n)) ∧ w = w' := by
  have := num5_ok n w
  rwa [numB_may] at this
theorem may_ok1 (n : Int) (w : World) : Calls Tryz.prog 125 #[.int .i64 n] w fun e w' => e = .returned (.bool (mayI n)) ∧ w = w' := by
  have := num_ok n w
  rwa [numB_may] at this
theorem radd_ok (a b : Int) (w : World) : Calls Tryz.prog 112 #[.int .i64 a, .int .i64 b] w fun e w' => e = .returned (.tuple #[.int .i64 (addN a b).1, .int .i64 (addN a b).2]) ∧ w = w' := by
  obtain ⟨ra, hra⟩ : ∃ r, mayI a = r := ⟨_, rfl⟩
  obtain ⟨rb, hrb⟩ : ∃ r, mayI b = r := ⟨_, rfl⟩
  obtain ⟨rs, hrs⟩ : ∃ r, mayI (a + b) = r := ⟨_, rfl⟩
  have K1 : Hid (∀ W, Calls Tryz.prog 111 #[.int .i64 a] W fun e w' => e = .returned (.bool ra) ∧ W = w') := Lib.hid fun W => hra ▸ may5_ok a W
  have K2 : Hid (∀ W, Calls Tryz.prog 111 #[.int .i64 b] W fun e w' => e = .returned (.bool rb) ∧ W = w') := Lib.hid fun W => hrb ▸ may5_ok b W
  have hcs := addN_cases a b
  rw [hra, hrb, hrs] at hcs
  have HW := Lib.hid (fun (h : mayI a = true) (k : mayI b = true) => may_wrap_add h k)
  have HI := Lib.hid (fun (h : mayI (a + b) = true) => may_id h)
  obtain ⟨q, hq⟩ : ∃ q, addN a b = q := ⟨_, rfl⟩
  rw [hq] at hcs ⊢
  have HCS := Lib.hid hcs
  have HRA := Lib.hid hra
  have HRB := Lib.hid hrb
  have HRS := Lib.hid hrs
  clear hcs hra hrb hrs hq
  cases ra with
  | false =>
    obtain rfl : q = (0, 10) := by rcases HCS.out with ⟨h, _⟩ | ⟨_, h⟩; cases h; exact h
    go_enter Tryz.func112, Tryz.ntmps112
    go_wp2_with fail
    refine (K1.out _).mono ?_
    rintro e w1 ⟨rfl, rfl⟩
    go_wp2_with fail
    go_ret2
    exact ⟨rfl, rfl⟩
  | true =>
    cases rb with
    | false =>
      obtain rfl : q = (0, 10) := by rcases HCS.out with ⟨_, h, _⟩ | ⟨_, h⟩; cases h; exact h
      go_enter Tryz.func112, Tryz.ntmps112
      go_wp2_with fail
      refine (K1.out _).mono ?_
      rintro e w1 ⟨rfl, rfl⟩
      go_wp2_with fail
      refine (K2.out _).mono ?_
      rintro e w1 ⟨rfl, rfl⟩
      go_wp2_with fail
      go_ret2
      exact ⟨rfl, rfl⟩
    | true =>
      have K3 : Hid (∀ W, Calls Tryz.prog 111 #[.int .i64 (wrap64 (a + b))] W fun e w' => e = .returned (.bool rs) ∧ W = w') := Lib.hid fun W => by
        have := may5_ok (wrap64 (a + b)) W
        rwa [HW.out HRA.out HRB.out, HRS.out] at this
      cases rs with
      | false =>
        obtain rfl : q = (0, 10) := by rcases HCS.out with ⟨_, _, h, _⟩ | ⟨_, h⟩; cases h; exact h
        go_enter Tryz.func112, Tryz.ntmps112
        go_wp2_with fail
        refine (K1.out _).mono ?_
        rintro e w1 ⟨rfl, rfl⟩
        go_wp2_with fail
        refine (K2.out _).mono ?_
        rintro e w1 ⟨rfl, rfl⟩
        go_wp2_with fail
        refine (K3.out _).mono ?_
        rintro e w1 ⟨rfl, rfl⟩
        go_wp2_with fail
        go_ret2
        exact ⟨rfl, rfl⟩
      | true =>
        obtain rfl : q = (a + b, 0) := by rcases HCS.out with ⟨_, _, _, h⟩ | ⟨h, _⟩; exact h; cases h
        have hid := HI.out HRS.out
        go_enter Tryz.func112, Tryz.ntmps112
        go_wp2_with fail
        refine (K1.out _).mono ?_
        rintro e w1 ⟨rfl, rfl⟩
        go_wp2_with fail
        refine (K2.out _).mono ?_
        rintro e w1 ⟨rfl, rfl⟩
        rw [hid] at K3
        go_wp2_with fail
        refine (K3.out _).mono ?_
        rintro e w1 ⟨rfl, rfl⟩
        go_wp2_with fail
        go_ret2
        refine ⟨?_, rfl⟩
        show Ending.returned (.tuple #[.int .i64 (wrap64 (a + b)), .int .i64 0]) = Ending.returned (.tuple #[.int .i64 (a + b), .int .i64 0])
        rw [hid] 
theorem rsub_ok (a b : Int) (w : World) : Calls Tryz.prog 163 #[.int .i64 a, .int .i64 b] w fun e w' => e = .returned (.tuple #[.int .i64 (subN a b).1, .int .i64 (subN a b).2]) ∧ w = w' := by
  obtain ⟨ra, hra⟩ : ∃ r, mayI a = r := ⟨_, rfl⟩
  obtain ⟨rb, hrb⟩ : ∃ r, mayI b = r := ⟨_, rfl⟩
  obtain ⟨rs, hrs⟩ : ∃ r, mayI (a - b) = r := ⟨_, rfl⟩
  have K1 : Hid (∀ W, Calls Tryz.prog 111 #[.int .i64 a] W fun e w' => e = .returned (.bool ra) ∧ W = w') := Lib.hid fun W => hra ▸ may5_ok a W
  have K2 : Hid (∀ W, Calls Tryz.prog 111 #[.int .i64 b] W fun e w' => e = .returned (.bool rb) ∧ W = w') := Lib.hid fun W => hrb ▸ may5_ok b W
  have hcs := subN_cases a b
  rw [hra, hrb, hrs] at hcs
  have HW := Lib.hid (fun (h : mayI a = true) (k : mayI b = true) => may_wrap_sub h k)
  have HI := Lib.hid (fun (h : mayI (a - b) = true) => may_id h)
  obtain ⟨q, hq⟩ : ∃ q, subN a b = q := ⟨_, rfl⟩
  rw [hq] at hcs ⊢
  have HCS := Lib.hid hcs
  have HRA := Lib.hid hra
  have HRB := Lib.hid hrb
  have HRS := Lib.hid hrs
  clear hcs hra hrb hrs hq
  cases ra with
  | false =>
    obtain rfl : q = (0, 10) := by rcases HCS.out with ⟨h, _⟩ | ⟨_, h⟩; cases h; exact h
    go_enter Tryz.func163, Tryz.ntmps163
    go_wp2_with fail
    refine (K1.out _).mono ?_
    rintro e w1 ⟨rfl, rfl⟩
    go_wp2_with fail
    go_ret2
    exact ⟨rfl, rfl⟩
  | true =>
    cases rb with
    | false =>
      obtain rfl : q = (0, 10) := by rcases HCS.out with ⟨_, h, _⟩ | ⟨_, h⟩; cases h; exact h
      go_enter Tryz.func163, Tryz.ntmps163
      go_wp2_with fail
      refine (K1.out _).mono ?_
      rintro e w1 ⟨rfl, rfl⟩
      go_wp2_with fail
      refine (K2.out _).mono ?_
      rintro e w1 ⟨rfl, rfl⟩
      go_wp2_with fail
      go_ret2
      exact ⟨rfl, rfl⟩
    | true =>
      have K3 : Hid (∀ W, Calls Tryz.prog 111 #[.int .i64 (wrap64 (a - b))] W fun e w' => e = .returned (.bool rs) ∧ W = w') := Lib.hid fun W => by
        have := may5_ok (wrap64 (a - b)) W
        rwa [HW.out HRA.out HRB.out, HRS.out] at this
      cases rs with
      | false =>
        obtain rfl : q = (0, 10) := by rcases HCS.out with ⟨_, _, h, _⟩ | ⟨_, h⟩; cases h; exact h
        go_enter Tryz.func163, Tryz.ntmps163
        go_wp2_with fail
        refine (K1.out _).mono ?_
        rintro e w1 ⟨rfl, rfl⟩
        go_wp2_with fail
        refine (K2.out _).mono ?_
        rintro e w1 ⟨rfl, rfl⟩
        go_wp2_with fail
        refine (K3.out _).mono ?_
        rintro e w1 ⟨rfl, rfl⟩
        go_wp2_with fail
        go_ret2
        exact ⟨rfl, rfl⟩
      | true =>
        obtain rfl : q = (a - b, 0) := by rcases HCS.out with ⟨_, _, _, h⟩ | ⟨h, _⟩; exact h; cases h
        have hid := HI.out HRS.out
        go_enter Tryz.func163, Tryz.ntmps163
        go_wp2_with fail
        refine (K1.out _).mono ?_
        rintro e w1 ⟨rfl, rfl⟩
        go_wp2_with fail
        refine (K2.out _).mono ?_
        rintro e w1 ⟨rfl, rfl⟩
        rw [hid] at K3
        go_wp2_with fail
        refine (K3.out _).mono ?_
        rintro e w1 ⟨rfl, rfl⟩
        go_wp2_with fail
        go_ret2
        refine ⟨?_, rfl⟩
        show Ending.returned (.tuple #[.int .i64 (wrap64 (a - b)), .int .i64 0]) = Ending.returned (.tuple #[.int .i64 (a - b), .int .i64 0])
        rw [hid] 
end Go.Proofs.YtlipnnibagidiaaGreat

/- Sums and differences that may be: the program's. -/
namespace Go.Proofs.YtlipnnibagidiaaGreat
open Go.RowKit

def WithIs (n a b : Int) (w : World) (e : Ending) (w' : World) : Prop := ∃ r : Bool, e = .returned (.tuple #[.int .i64 (if r = true then n else 0), .int .i64 (if r = true then 0 else 10)]) ∧ (r = true ↔ mayI a = true ∧ mayI b = true ∧ mayI n = true) ∧ Below w.heap.size w w'
set_option maxRecDepth 100000 in
set_option maxHeartbeats 2000000 in
theorem within_ok {w : World} {g : Nat} (n a b : Int) (h : Blk w g 3 #[.int .i64 a, .int .i64 b]) :
    Calls Tryz.prog 172 #[.int .i64 n, .slice (some ⟨g, 0, none⟩) 2 2] w (WithIs n a b w) := by
  have H := Lib.hid h
  have HX : Hid (Blk (w.alloc (.cells #[.int .i64 n] 3)) g 3 ([a, b].map (Value.int .i64)).toArray) := Lib.hid (h.alloc _)
  have HN := Lib.hid (Blk.new w 3 #[.int .i64 n])
  clear h
  go_enter Tryz.func172, Tryz.ntmps172
  go_wp2_with (at_builtin; refine list_grow_int _ rfl (.tmp 8) (.tmp 10) rfl g [a, b] rfl HX.out (by simp) (by simp) w.heap.size n rfl HN.out ?_; intro A3 c3 w3 hr3 hc3 hb3; have HR3 := Lib.hid hr3; have HB3 := Lib.hid (((Below.refl _ w).alloc (Nat.le_refl _) (.cells #[.int .i64 n] 3)).trans (hb3.mono (by simp))); clear hr3 hc3 hb3)
  have HZ : Hid ((∀ x ∈ [a, b] ++ [n], mayI x = true) ↔ mayI a = true ∧ mayI b = true ∧ mayI n = true) := Lib.hid (by simp)
  have HL : Hid (([a, b] ++ [n]).length = 3) := Lib.hid rfl
  obtain ⟨zs, hzs⟩ : ∃ zs, [a, b] ++ [n] = zs := ⟨_, rfl⟩
  rw [hzs] at HR3 HZ HL
  clear hzs
  go_loopg [13] 3 (fun gk v wr => ∃ i : Nat, i + gk = 3 ∧ v = .int .i64 i ∧ (∀ x ∈ zs.take i, mayI x = true) ∧ Below w.heap.size w wr ∧ Below w3.heap.size w3 wr)
  case atStart => exact ⟨0, by omega, rfl, (fun x hx => by simp at hx), HB3.out, Below.refl _ _⟩
  case round =>
    obtain ⟨i, hig, rfl, hall, hb, hb3⟩ := hrel
    have HA := Lib.hid hall
    have HB := Lib.hid hb
    have HV := Lib.hid hb3
    clear hall hb hb3
    cases gk with
    | zero =>
      obtain rfl : i = 3 := by omega
      have hdone : mayI a = true ∧ mayI b = true ∧ mayI n = true := HZ.out.1 (by have := HA.out; rwa [List.take_of_length_le (by rw [HL.out]; decide)] at this)
      have HD := Lib.hid hdone
      clear hdone
      go_wp2
      go_ret2
      exact ⟨true, rfl, ⟨fun _ => HD.out, fun _ => rfl⟩, HB.out⟩
    | succ gk =>
      have hlt : i < zs.length := by rw [HL.out]; omega
      have hl3 : i < 3 := by omega
      have d1 : decide ((i : Int) < 3) = true := by simp; omega
      have t1 : (0 : Int) ≤ (i : Int) := by omega
      have t2 : (i : Int) < 3 := by omega
      obtain ⟨b3, off, hA, hbb, hcell⟩ := (HR3.out.below HV.out).at_.resolve_left (by omega)
      subst hA
      have y0 := hcell i hlt
      have HS : Hid (zs.take (i + 1) = zs.take i ++ [zs[i]]) := Lib.hid (by rw [List.take_add_one, List.getElem?_eq_getElem hlt]; rfl)
      have HM : Hid (zs[i] ∈ zs) := Lib.hid (List.getElem_mem hlt)
      clear hcell
      generalize zs[i] = x at *
      obtain ⟨mx, hmx⟩ : ∃ mx, mayI x = mx := ⟨_, rfl⟩
      have K : Hid (∀ W, Calls Tryz.prog 125 #[.int .i64 x] W fun e w' => e = .returned (.bool mx) ∧ W = w') := Lib.hid fun W => hmx ▸ may_ok1 x W
      have HMX := Lib.hid hmx
      clear hmx
      go_wp2_with fail
      refine (K.out _).mono ?_
      rintro e w5 ⟨rfl, rfl⟩
      cases mx with
      | false =>
        go_wp2
        go_ret2
        exact ⟨false, rfl, ⟨fun e => (by cases e), fun h => by have := HZ.out.2 h x HM.out; rw [HMX.out] at this; cases this⟩, HB.out⟩
      | true =>
        go_wp2
        go_roundg gk
        case measure => omega
        case rel =>
          refine ⟨i + 1, by omega, by go_num, fun y hy => ?_, HB.out, HV.out⟩
          rw [HS.out] at hy
          rcases List.mem_append.1 hy with hy | hy
          · exact HA.out y hy
          · rw [List.mem_singleton.1 hy]
            exact HMX.out
def AddIs (a b : Int) (w : World) (e : Ending) (w' : World) : Prop := e = .returned (.tuple #[.int .i64 (addN a b).1, .int .i64 (addN a b).2]) ∧ Below w.heap.size w w'
set_option maxRecDepth 100000 in
theorem padd_ok (a b : Int) (w : World) : Calls Tryz.prog 161 #[.int .i64 a, .int .i64 b] w (AddIs a b w) := by
  have HN := Lib.hid (Blk.new w 3 #[.int .i64 a, .int .i64 b])
  have HB := Lib.hid (show Below w.heap.size w (w.alloc (.cells #[.int .i64 a, .int .i64 b] 3)) from (Below.refl _ w).alloc (Nat.le_refl _) _)
  have HC := Lib.hid (addN_cases a b)
  have HW := Lib.hid (fun (h : mayI a = true) (k : mayI b = true) => may_wrap_add h k)
  go_enter Tryz.func161, Tryz.ntmps161
  go_wp2_with fail
  refine (within_ok _ a b HN.out).mono ?_
  rintro e w1 ⟨r, rfl, hr, hb⟩
  have HR := Lib.hid hr
  have HB1 := Lib.hid (HB.out.trans (hb.mono HB.out.size))
  clear hr hb
  cases r with
  | false =>
    have hq : addN a b = (0, 10) := by
      rcases HC.out with ⟨h1, h2, h3, _⟩ | ⟨_, h⟩
      · have := HR.out.2 ⟨h1, h2, by rw [HW.out h1 h2]; exact h3⟩
        cases this
      · exact h
    have HQ := Lib.hid hq
    clear hq
    go_wp2
    go_ret2
    exact ⟨by rw [HQ.out]; rfl, HB1.out⟩
  | true =>
    have h0 := HR.out.1 rfl
    have hq : addN a b = (a + b, 0) ∧ wrap64 (a + b) = a + b := by
      rcases HC.out with ⟨_, _, h3, h⟩ | ⟨h, _⟩
      · exact ⟨h, may_id h3⟩
      · have h3 := h0.2.2
        rw [HW.out h0.1 h0.2.1] at h3
        rw [h0.1, h0.2.1, h3] at h
        cases h
    have HQ := Lib.hid hq
    clear hq h0
    go_wp2
    go_ret2
    refine ⟨?_, HB1.out⟩
    show Ending.returned (.tuple #[.int .i64 (wrap64 (a + b)), .int .i64 0]) = _
    rw [HQ.out.1, HQ.out.2]
def SubIs (a b : Int) (w : World) (e : Ending) (w' : World) : Prop := e = .returned (.tuple #[.int .i64 (subN a b).1, .int .i64 (subN a b).2]) ∧ Below w.heap.size w w'
set_option maxRecDepth 100000 in
theorem psub_ok (a b : Int) (w : World) : Calls Tryz.prog 151 #[.int .i64 a, .int .i64 b] w (SubIs a b w) := by
  have HN := Lib.hid (Blk.new w 3 #[.int .i64 a, .int .i64 b])
  have HB := Lib.hid (show Below w.heap.size w (w.alloc (.cells #[.int .i64 a, .int .i64 b] 3)) from (Below.refl _ w).alloc (Nat.le_refl _) _)
  have HC := Lib.hid (subN_cases a b)
  have HW := Lib.hid (fun (h : mayI a = true) (k : mayI b = true) => may_wrap_sub h k)
  go_enter Tryz.func151, Tryz.ntmps151
  go_wp2_with fail
  refine (within_ok _ a b HN.out).mono ?_
  rintro e w1 ⟨r, rfl, hr, hb⟩
  have HR := Lib.hid hr
  have HB1 := Lib.hid (HB.out.trans (hb.mono HB.out.size))
  clear hr hb
  cases r with
  | false =>
    have hq : subN a b = (0, 10) := by
      rcases HC.out with ⟨h1, h2, h3, _⟩ | ⟨_, h⟩
      · have := HR.out.2 ⟨h1, h2, by rw [HW.out h1 h2]; exact h3⟩
        cases this
      · exact h
    have HQ := Lib.hid hq
    clear hq
    go_wp2
    go_ret2
    exact ⟨by rw [HQ.out]; rfl, HB1.out⟩
  | true =>
    have h0 := HR.out.1 rfl
    have hq : subN a b = (a - b, 0) ∧ wrap64 (a - b) = a - b := by
      rcases HC.out with ⟨_, _, h3, h⟩ | ⟨h, _⟩
      · exact ⟨h, may_id h3⟩
      · have h3 := h0.2.2
        rw [HW.out h0.1 h0.2.1] at h3
        rw [h0.1, h0.2.1, h3] at h
        cases h
    have HQ := Lib.hid hq
    clear hq h0
    go_wp2
    go_ret2
    refine ⟨?_, HB1.out⟩
    show Ending.returned (.tuple #[.int .i64 (wrap64 (a - b)), .int .i64 0]) = _
    rw [HQ.out.1, HQ.out.2]
end Go.Proofs.YtlipnnibagidiaaGreat

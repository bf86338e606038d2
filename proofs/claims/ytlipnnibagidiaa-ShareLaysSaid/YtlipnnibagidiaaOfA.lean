/- Rows of ints as they lie; append to a row that has no room. -/
import Derived.Test.YtlipnnibagidiaaEuB
import Derived.Laws.AppendOwn
import Derived.Test.YtlipnnibagidiaaNuA
import Derived.Deep.CutRange
namespace Go.Proofs.Ytlipnnibagidiaa
open Go.RowKit

structure Row (w : World) (A : Option Addr) (zs : List Int) : Prop where
  len : zs.length ≤ 100000
  at_ : zs.length = 0 ∨ ∃ b off, A = some ⟨b, off, none⟩ ∧ b < w.heap.size ∧ ∀ i (h : i < zs.length), w.cell? ⟨b, off + i, none⟩ = some (.int .i64 zs[i])
theorem Row.below {w w' : World} {A : Option Addr} {zs : List Int} (h : Row w A zs) (hb : Below w.heap.size w w') : Row w' A zs := by
  refine ⟨h.len, h.at_.imp id fun ⟨b, off, h1, h2, h3⟩ => ⟨b, off, h1, Nat.lt_of_lt_of_le h2 hb.size, fun i hi => ?_⟩⟩
  rw [hb.cell (p := ⟨b, off + i, none⟩) h2]
  exact h3 i hi
theorem int_info : (Try.prog.info? 3).map (fun i => (i.zero, i.size, i.bytes)) = some (some (.int .i64 0), 1, 8) := by kernel_rfl
/-- append of one to a row that has no room. -/
theorem wp_grow_int {o : Oper} {a : Act} {K : Act → World → Prop} {Q : Exit → Act → World → Prop} (w : World) (s x : Operand)
    (ho : o.op = .call { callee := .builtin .append, args := #[s, x], argTypes := #[37, 37] })
    (b : Nat) (zs : List Int) (hs : a.eval s = .slice (some ⟨b, 0, none⟩) zs.length zs.length) (hz : Blk w b 3 (zs.map (Value.int .i64)).toArray) (hp : 0 < zs.length) (hl : zs.length ≤ 1000)
    (g : Nat) (n : Int) (hx : a.eval x = .slice (some ⟨g, 0, none⟩) 1 1) (hg : Blk w g 3 #[.int .i64 n])
    (h : ∀ A' c' w', Row w' A' (zs ++ [n]) → (zs ++ [n]).length ≤ c' → Below w.heap.size w w' → K (a.put o.dst (.slice A' (zs ++ [n]).length c')) w') : o.wp Try.prog a w K Q := by
  obtain ⟨i0, hi, hz0, hz1, hz2⟩ := info_parts int_info
  have addp : ∀ c j, (⟨c, 0, none⟩ : Addr).add j = ⟨c, j, none⟩ := fun c j => by unfold Addr.add; split <;> simp_all
  have hr := run_append_grow (P := Try.prog) w 37 o.type 3 i0 (.int .i64 0) Try.underlying37 hi hz0 ⟨b, 0, none⟩ zs.length zs.length (zs.map (Value.int .i64)) (by rw [List.length_map, hz1]; omega) (fun j v hj => by rw [addp, hz.cell, List.getElem?_toArray]; exact hj) ⟨g, 0, none⟩ 1 1 [.int .i64 n] (by rw [hz1]; rfl) (fun j v hj => by rw [addp, hg.cell, List.getElem?_toArray]; exact hj) (by omega) (by omega) (by
    have := nextslicecap_le (need := zs.length + 1) (old := zs.length) (by omega)
    rw [hz2]
    omega)
  have hge := grownCap_ge w (zs.length + 1) zs.length 3
  generalize grownCap w (zs.length + 1) zs.length 3 = gc at *
  have hlen : (zs ++ [n]).length = zs.length + 1 := by simp
  have hblk : Blk (w.drew.alloc (.cells ((zs.map (Value.int .i64)).toArray ++ [Value.int .i64 n].toArray ++ Builtin.zeroCells (Value.int .i64 0).cells (gc - (zs.length + 1))) 3)) w.heap.size 3 ((zs.map (Value.int .i64)).toArray ++ [Value.int .i64 n].toArray ++ Builtin.zeroCells (Value.int .i64 0).cells (gc - (zs.length + 1))) := Blk.new w.drew _ _
  have h1 := h (some ⟨w.heap.size, 0, none⟩) gc _ ⟨by rw [hlen]; omega, .inr ⟨w.heap.size, 0, rfl, hblk.lt, fun i hi' => ?_⟩⟩ (by rw [hlen]; exact hge) ((below_drewN (Below.refl _ w) 1).alloc (Nat.le_refl _) _)
  · unfold Oper.wp execOp
    simp only [ho, resolve, invoke, builtin, Sem.run_bind, Sem.run_pure, Result.andThen_ok, List.map_toArray, List.map_cons, List.map_nil, hs, hx]
    rw [hr]
    rw [hlen] at h1
    exact h1
  · rw [Nat.zero_add, hblk.cell, ← Array.getElem?_toList]
    simp only [Array.toList_append]
    rw [List.getElem?_append_left (by simp; omega)]
    have e : zs.map (Value.int .i64) ++ [Value.int .i64 n] = (zs ++ [n]).map (Value.int .i64) := by simp
    rw [e, List.getElem?_map, List.getElem?_eq_getElem hi']
    rfl
theorem list_grow_int {ops : Array Oper} {rest : List Oper} {o : Oper} {a : Act} {Q : Exit → Act → World → Prop} (w : World) (hw : Region.wanted o (yielded ops a.tmps) = true) (s x : Operand)
    (ho : o.op = .call { callee := .builtin .append, args := #[s, x], argTypes := #[37, 37] })
    (b : Nat) (zs : List Int) (hs : a.eval s = .slice (some ⟨b, 0, none⟩) zs.length zs.length) (hz : Blk w b 3 (zs.map (Value.int .i64)).toArray) (hp : 0 < zs.length) (hl : zs.length ≤ 1000)
    (g : Nat) (n : Int) (hx : a.eval x = .slice (some ⟨g, 0, none⟩) 1 1) (hg : Blk w g 3 #[.int .i64 n])
    (h : ∀ A' c' w', Row w' A' (zs ++ [n]) → (zs ++ [n]).length ≤ c' → Below w.heap.size w w' → wpList Try.prog ops Q rest (a.put o.dst (.slice A' (zs ++ [n]).length c')) w') : wpList Try.prog ops Q (o :: rest) a w :=
  wpList_step fun K hK => by
    rw [if_pos hw]
    exact wp_grow_int w s x ho b zs hs hz hp hl g n hx hg fun A' c' w' h1 h2 h3 => hK _ _ (h A' c' w' h1 h2 h3)
end Go.Proofs.Ytlipnnibagidiaa

/- Sums and differences that may be: the program's. -/
namespace Go.Proofs.Ytlipnnibagidiaa
open Go.RowKit

def WithIs (n a b : Int) (w : World) (e : Ending) (w' : World) : Prop := ∃ r : Bool, e = .returned (.tuple #[.int .i64 (if r = true then n else 0), .int .i64 (if r = true then 0 else 10)]) ∧ (r = true ↔ mayI a = true ∧ mayI b = true ∧ mayI n = true) ∧ Below w.heap.size w w'
set_option maxRecDepth 100000 in
set_option maxHeartbeats 2000000 in
theorem within_ok {w : World} {g : Nat} (n a b : Int) (h : Blk w g 3 #[.int .i64 a, .int .i64 b]) :
    Calls Try.prog 70 #[.int .i64 n, .slice (some ⟨g, 0, none⟩) 2 2] w (WithIs n a b w) := by
  have H := Lib.hid h
  have HX : Hid (Blk (w.alloc (.cells #[.int .i64 n] 3)) g 3 ([a, b].map (Value.int .i64)).toArray) := Lib.hid (h.alloc _)
  have HN := Lib.hid (Blk.new w 3 #[.int .i64 n])
  clear h
  go_enter Try.func70, Try.ntmps70
  go_wp2_with (at_builtin; refine list_grow_int _ rfl (.tmp 8) (.tmp 10) rfl g [a, b] rfl HX.out (by simp) (by simp) w.heap.size n rfl HN.out ?_; intro A3 c3 w3 hr3 hc3 hb3; have HR3 := Lib.hid hr3; have HB3 := Lib.hid (((Below.refl _ w).alloc (Nat.le_refl _) (.cells #[.int .i64 n] 3)).trans (hb3.mono (by simp))); clear hr3 hc3 hb3)
  have HZ : Hid ((∀ x ∈ [a, b] ++ [n], mayI x = true) ↔ mayI a = true ∧ mayI b = true ∧ mayI n = true) := Lib.hid (by simp)
  have HL : Hid (([a, b] ++ [n]).length = 3) := Lib.hid rfl
  obtain ⟨zs, hzs⟩ : ∃ zs, [a, b] ++ [n] = zs := ⟨_, rfl⟩
  rw [hzs] at HR3 HZ HL
  clear hzs
  go_loopg [13] 3 (fun gk v wr => ∃ i : Nat, i + gk = 3 ∧ v = .int .i64 i ∧ (∀ x ∈ zs.take i, mayI x = true) ∧ Below w.heap.size w wr ∧ Below w3.heap.size w3 wr)
  case atStart => exact ⟨0, by omega, rfl, (fun x hx => by simp at hx), HB3.out, Below.refl _ _⟩
  case round =>
    obtain ⟨i, hig, rfl, hall, hb, hb3⟩ := hrel
    have HA := Lib.hid hall
    have HB := Lib.hid hb
    have HV := Lib.hid hb3
    clear hall hb hb3
    cases gk with
    | zero =>
      obtain rfl : i = 3 := by omega
      have hdone : mayI a = true ∧ mayI b = true ∧ mayI n = true := HZ.out.1 (by have := HA.out; rwa [List.take_of_length_le (by rw [HL.out]; decide)] at this)
      have HD := Lib.hid hdone
      clear hdone
      go_wp2
      go_ret2
      exact ⟨true, rfl, ⟨fun _ => HD.out, fun _ => rfl⟩, HB.out⟩
    | succ gk =>
      have hlt : i < zs.length := by rw [HL.out]; omega
      have hl3 : i < 3 := by omega
      have d1 : decide ((i : Int) < 3) = true := by simp; omega
      have t1 : (0 : Int) ≤ (i : Int) := by omega
      have t2 : (i : Int) < 3 := by omega
      obtain ⟨b3, off, hA, hbb, hcell⟩ := (HR3.out.below HV.out).at_.resolve_left (by omega)
      subst hA
      have y0 := hcell i hlt
      have HS : Hid (zs.take (i + 1) = zs.take i ++ [zs[i]]) := Lib.hid (by rw [List.take_add_one, List.getElem?_eq_getElem hlt]; rfl)
      have HM : Hid (zs[i] ∈ zs) := Lib.hid (List.getElem_mem hlt)
      clear hcell
      generalize zs[i] = x at *
      obtain ⟨mx, hmx⟩ : ∃ mx, mayI x = mx := ⟨_, rfl⟩
      have K : Hid (∀ W, Calls Try.prog 53 #[.int .i64 x] W fun e w' => e = .returned (.bool mx) ∧ W = w') := Lib.hid fun W => hmx ▸ may_ok1 x W
      have HMX := Lib.hid hmx
      clear hmx
      go_wp2_with fail
      refine (K.out _).mono ?_
      rintro e w5 ⟨rfl, rfl⟩
      cases mx with
      | false =>
        go_wp2
        go_ret2
        exact ⟨false, rfl, ⟨fun e => (by cases e), fun h => by have := HZ.out.2 h x HM.out; rw [HMX.out] at this; cases this⟩, HB.out⟩
      | true =>
        go_wp2
        go_roundg gk
        case measure => omega
        case rel =>
          refine ⟨i + 1, by omega, by go_num, fun y hy => ?_, HB.out, HV.out⟩
          rw [HS.out] at hy
          rcases List.mem_append.1 hy with hy | hy
          · exact HA.out y hy
          · rw [List.mem_singleton.1 hy]
            exact HMX.out
def AddIs (a b : Int) (w : World) (e : Ending) (w' : World) : Prop := e = .returned (.tuple #[.int .i64 (addN a b).1, .int .i64 (addN a b).2]) ∧ Below w.heap.size w w'
set_option maxRecDepth 100000 in
theorem padd_ok (a b : Int) (w : World) : Calls Try.prog 65 #[.int .i64 a, .int .i64 b] w (AddIs a b w) := by
  have HN := Lib.hid (Blk.new w 3 #[.int .i64 a, .int .i64 b])
  have HB := Lib.hid (show Below w.heap.size w (w.alloc (.cells #[.int .i64 a, .int .i64 b] 3)) from (Below.refl _ w).alloc (Nat.le_refl _) _)
  have HC := Lib.hid (addN_cases a b)
  have HW := Lib.hid (fun (h : mayI a = true) (k : mayI b = true) => may_wrap_add h k)
  go_enter Try.func65, Try.ntmps65
  go_wp2_with fail
  refine (within_ok _ a b HN.out).mono ?_
  rintro e w1 ⟨r, rfl, hr, hb⟩
  have HR := Lib.hid hr
  have HB1 := Lib.hid (HB.out.trans (hb.mono HB.out.size))
  clear hr hb
  cases r with
  | false =>
    have hq : addN a b = (0, 10) := by
      rcases HC.out with ⟨h1, h2, h3, _⟩ | ⟨_, h⟩
      · have := HR.out.2 ⟨h1, h2, by rw [HW.out h1 h2]; exact h3⟩
        cases this
      · exact h
    have HQ := Lib.hid hq
    clear hq
    go_wp2
    go_ret2
    exact ⟨by rw [HQ.out]; rfl, HB1.out⟩
  | true =>
    have h0 := HR.out.1 rfl
    have hq : addN a b = (a + b, 0) ∧ wrap64 (a + b) = a + b := by
      rcases HC.out with ⟨_, _, h3, h⟩ | ⟨h, _⟩
      · exact ⟨h, may_id h3⟩
      · have h3 := h0.2.2
        rw [HW.out h0.1 h0.2.1] at h3
        rw [h0.1, h0.2.1, h3] at h
        cases h
    have HQ := Lib.hid hq
    clear hq h0
    go_wp2
    go_ret2
    refine ⟨?_, HB1.out⟩
    show Ending.returned (.tuple #[.int .i64 (wrap64 (a + b)), .int .i64 0]) = _
    rw [HQ.out.1, HQ.out.2]
def SubIs (a b : Int) (w : World) (e : Ending) (w' : World) : Prop := e = .returned (.tuple #[.int .i64 (subN a b).1, .int .i64 (subN a b).2]) ∧ Below w.heap.size w w'
set_option maxRecDepth 100000 in
theorem psub_ok (a b : Int) (w : World) : Calls Try.prog 62 #[.int .i64 a, .int .i64 b] w (SubIs a b w) := by
  have HN := Lib.hid (Blk.new w 3 #[.int .i64 a, .int .i64 b])
  have HB := Lib.hid (show Below w.heap.size w (w.alloc (.cells #[.int .i64 a, .int .i64 b] 3)) from (Below.refl _ w).alloc (Nat.le_refl _) _)
  have HC := Lib.hid (subN_cases a b)
  have HW := Lib.hid (fun (h : mayI a = true) (k : mayI b = true) => may_wrap_sub h k)
  go_enter Try.func62, Try.ntmps62
  go_wp2_with fail
  refine (within_ok _ a b HN.out).mono ?_
  rintro e w1 ⟨r, rfl, hr, hb⟩
  have HR := Lib.hid hr
  have HB1 := Lib.hid (HB.out.trans (hb.mono HB.out.size))
  clear hr hb
  cases r with
  | false =>
    have hq : subN a b = (0, 10) := by
      rcases HC.out with ⟨h1, h2, h3, _⟩ | ⟨_, h⟩
      · have := HR.out.2 ⟨h1, h2, by rw [HW.out h1 h2]; exact h3⟩
        cases this
      · exact h
    have HQ := Lib.hid hq
    clear hq
    go_wp2
    go_ret2
    exact ⟨by rw [HQ.out]; rfl, HB1.out⟩
  | true =>
    have h0 := HR.out.1 rfl
    have hq : subN a b = (a - b, 0) ∧ wrap64 (a - b) = a - b := by
      rcases HC.out with ⟨_, _, h3, h⟩ | ⟨h, _⟩
      · exact ⟨h, may_id h3⟩
      · have h3 := h0.2.2
        rw [HW.out h0.1 h0.2.1] at h3
        rw [h0.1, h0.2.1, h3] at h
        cases h
    have HQ := Lib.hid hq
    clear hq h0
    go_wp2
    go_ret2
    refine ⟨?_, HB1.out⟩
    show Ending.returned (.tuple #[.int .i64 (wrap64 (a - b)), .int .i64 0]) = _
    rw [HQ.out.1, HQ.out.2]
end Go.Proofs.Ytlipnnibagidiaa

/- Sums that keep the first error. -/
namespace Go.Proofs.Ytlipnnibagidiaa
open Go.RowKit

def stepA (n e x : Int) : Int × Int := if e = 0 then addN n x else (n, e)
set_option maxRecDepth 100000 in
theorem sadd_ok {w : World} {s : Nat} (n er x : Int) (h : Blk w s 86 #[.int .i64 n, .int .i64 er]) :
    Calls Try.prog 51 #[.pointer (some ⟨s, 0, none⟩), .int .i64 x] w fun e w' => e = .returned (.tuple #[]) ∧ Blk w' s 86 #[.int .i64 (stepA n er x).1, .int .i64 (stepA n er x).2] ∧ Kept (fun b => b = s) w w' := by
  have c0 := h.cell 0
  have c1 := h.cell 1
  have hl := h.lt
  simp only [List.getElem?_toArray, List.getElem?_cons_zero, List.getElem?_cons_succ] at c0 c1
  have H := Lib.hid h
  clear h
  by_cases he : er = 0
  · subst he
    have HS : Hid (stepA n 0 x = addN n x) := Lib.hid (if_pos rfl)
    go_enter Try.func51, Try.ntmps51
    go_wp2_with fail
    refine (padd_ok n x _).mono ?_
    rintro e w1 ⟨rfl, hb⟩
    have hb1 := H.out.below hb hl
    have f0 := hb1.frozen 0
    have f1 := hb1.frozen 1
    have c2 := hb1.cell 0
    have c3 := hb1.cell 1
    have hl1 := hb1.lt
    simp only [List.getElem?_toArray, List.getElem?_cons_zero, List.getElem?_cons_succ] at c2 c3
    have HB1 := Lib.hid hb1
    have HK := Lib.hid (Kept.of_below (S := fun b => b = s) hb)
    obtain ⟨⟨q1, q2⟩, hq⟩ : ∃ q, addN n x = q := ⟨_, rfl⟩
    rw [hq] at HS ⊢
    clear hb hb1 c0 c1 hq
    go_wp2
    refine bodyPost_end (results_none rfl _ _ _) rfl ?_
    rw [HS.out]
    refine ⟨rfl, ?_, (HK.out.setCell (.inl rfl) _).setCell (.inl rfl) _⟩
    exact (HB1.out.set_ 0 (.int .i64 q1)).set_ 1 (.int .i64 q2)
  · have d0 : (er == 0) = false := by simp [he]
    have HS : Hid (stepA n er x = (n, er)) := Lib.hid (if_neg he)
    clear he
    go_enter Try.func51, Try.ntmps51
    go_wp2
    refine bodyPost_end (results_none rfl _ _ _) rfl ?_
    rw [HS.out]
    exact ⟨rfl, H.out, Kept.refl _ _⟩
def stepS (n e x : Int) : Int × Int := if e = 0 then subN n x else (n, e)
set_option maxRecDepth 100000 in
theorem ssub_ok {w : World} {s : Nat} (n er x : Int) (h : Blk w s 86 #[.int .i64 n, .int .i64 er]) :
    Calls Try.prog 50 #[.pointer (some ⟨s, 0, none⟩), .int .i64 x] w fun e w' => e = .returned (.tuple #[]) ∧ Blk w' s 86 #[.int .i64 (stepS n er x).1, .int .i64 (stepS n er x).2] ∧ Kept (fun b => b = s) w w' := by
  have c0 := h.cell 0
  have c1 := h.cell 1
  have hl := h.lt
  simp only [List.getElem?_toArray, List.getElem?_cons_zero, List.getElem?_cons_succ] at c0 c1
  have H := Lib.hid h
  clear h
  by_cases he : er = 0
  · subst he
    have HS : Hid (stepS n 0 x = subN n x) := Lib.hid (if_pos rfl)
    go_enter Try.func50, Try.ntmps50
    go_wp2_with fail
    refine (psub_ok n x _).mono ?_
    rintro e w1 ⟨rfl, hb⟩
    have hb1 := H.out.below hb hl
    have f0 := hb1.frozen 0
    have f1 := hb1.frozen 1
    have c2 := hb1.cell 0
    have c3 := hb1.cell 1
    have hl1 := hb1.lt
    simp only [List.getElem?_toArray, List.getElem?_cons_zero, List.getElem?_cons_succ] at c2 c3
    have HB1 := Lib.hid hb1
    have HK := Lib.hid (Kept.of_below (S := fun b => b = s) hb)
    obtain ⟨⟨q1, q2⟩, hq⟩ : ∃ q, subN n x = q := ⟨_, rfl⟩
    rw [hq] at HS ⊢
    clear hb hb1 c0 c1 hq
    go_wp2
    refine bodyPost_end (results_none rfl _ _ _) rfl ?_
    rw [HS.out]
    refine ⟨rfl, ?_, (HK.out.setCell (.inl rfl) _).setCell (.inl rfl) _⟩
    exact (HB1.out.set_ 0 (.int .i64 q1)).set_ 1 (.int .i64 q2)
  · have d0 : (er == 0) = false := by simp [he]
    have HS : Hid (stepS n er x = (n, er)) := Lib.hid (if_neg he)
    clear he
    go_enter Try.func50, Try.ntmps50
    go_wp2
    refine bodyPost_end (results_none rfl _ _ _) rfl ?_
    rw [HS.out]
    exact ⟨rfl, H.out, Kept.refl _ _⟩
end Go.Proofs.Ytlipnnibagidiaa

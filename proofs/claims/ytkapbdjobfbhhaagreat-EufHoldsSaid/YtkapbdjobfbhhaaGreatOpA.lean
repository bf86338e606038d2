/- gantryref06: Many, alike, Op. -/
import Derived.Test.YtkapbdjobfbhhaaGreatEuN
import Derived.Laws.AppendOwn
namespace Go.Proofs.YtkapbdjobfbhhaaGreat
open Go.RowKit Go.Lib
def ndAt (T : List Nd) (i : Int) : Nd := if i < 0 then ⟨-1, 0, 0, 0, 0, -1, 0, 0⟩ else T.getD i.toNat ⟨-1, 0, 0, 0, 0, -1, 0, 0⟩
theorem ndAt_nat {T : List Nd} {i : Nat} (h : i < T.length) : ndAt T i = T[i] := by
  unfold ndAt
  rw [if_neg (by omega), Int.toNat_natCast, List.getD_eq_getElem?_getD, List.getElem?_eq_getElem h]
  rfl
theorem TabOk.stands {T : List Nd} (h : TabOk T) {n : Nd} (hn : n ∈ T) : ∃ i : Nat, i < T.length ∧ T[i]? = some n ∧ Stands n i := by
  obtain ⟨i, hi, rfl⟩ := List.mem_iff_getElem.1 hn
  exact ⟨i, hi, List.getElem?_eq_getElem hi, h.st i _ (List.getElem?_eq_getElem hi)⟩
theorem ndAt_mem {T : List Nd} {i : Int} (h0 : 0 ≤ i) (h : i < T.length) : ndAt T i ∈ T := by
  obtain ⟨k, rfl⟩ : ∃ k : Nat, i = k := ⟨i.toNat, by omega⟩
  rw [ndAt_nat (by omega)]
  exact List.getElem_mem _
theorem Stands.arg_lt {n : Nd} {a : Int} (h : Stands n a) (j : Nat) (hj : j < 3) (hl : (j : Int) < n.len) : 0 ≤ n.arg j ∧ n.arg j < a := (h.args j hj).1 hl
theorem Stands.len_of {n : Nd} {a lo : Int} (h : Stands n a) (hA : arityM n.op = some (lo, lo)) : n.len = lo := by
  obtain ⟨x, y, e, h1, h2⟩ := h.ar
  rw [hA] at e
  injection e with e
  injection e with e1 e2
  omega
def opSort (op s0 s1 s2 : Int) : Option Int :=
  if op = 0 then some 0 else if op = 10 then some 1 else if op = 11 then (if s0 = 1 then some 1 else none) else if op = 1 then (if s0 = 0 then some 0 else none)
  else if op = 2 ∨ op = 3 ∨ op = 4 ∨ op = 5 then (if s0 = 0 ∧ s1 = 0 then some 0 else none) else if op = 8 ∨ op = 9 ∨ op = 12 then (if s0 = 1 ∧ s1 = 1 then some 0 else none)
  else if op = 6 then (if s0 = s1 then some 0 else none) else if op = 7 then (if s0 = 0 ∧ s1 = s2 then some s1 else none) else none
theorem arity_ops {n : Nd} {a : Int} (h : Stands n a) : n.op = 0 ∨ n.op = 1 ∨ n.op = 2 ∨ n.op = 3 ∨ n.op = 4 ∨ n.op = 5 ∨ n.op = 6 ∨ n.op = 7 ∨ n.op = 8 ∨ n.op = 9 ∨ n.op = 10 ∨ n.op = 11 ∨ n.op = 12 ∨ n.op = 13 := by
  obtain ⟨lo, hi, e, _⟩ := h.ar
  unfold arityM at e
  repeat' split at e
  all_goals first
    | omega
    | cases e
def manyM (op : Int) : Int := if op = 0 ∨ op = 10 then 0 else if op = 1 ∨ op = 11 then 1 else if op = 7 then 3 else if 2 ≤ op ∧ op ≤ 12 then 2 else -1
def opL (op : Int) (L : List Int) : Option Int := if (L.length : Int) = manyM op then opSort op (L[0]?.getD 0) (L[1]?.getD 0) (L[2]?.getD 0) else none
def argSorts (T : List Nd) (n : Nd) : List Int := (List.range n.len.toNat).map fun j => (ndAt T (n.arg j)).sort
theorem many_len {n : Nd} {a : Int} (h : Stands n a) (h13 : n.op ≠ 13) : n.len = manyM n.op := by
  have hl := fun lo => h.len_of (lo := lo)
  rcases arity_ops h with e | e | e | e | e | e | e | e | e | e | e | e | e | e
  all_goals rw [e] at hl ⊢
  · exact (hl 0 (by decide)).trans rfl
  · exact (hl 1 (by decide)).trans rfl
  · exact (hl 2 (by decide)).trans rfl
  · exact (hl 2 (by decide)).trans rfl
  · exact (hl 2 (by decide)).trans rfl
  · exact (hl 2 (by decide)).trans rfl
  · exact (hl 2 (by decide)).trans rfl
  · exact (hl 3 (by decide)).trans rfl
  · exact (hl 2 (by decide)).trans rfl
  · exact (hl 2 (by decide)).trans rfl
  · exact (hl 0 (by decide)).trans rfl
  · exact (hl 1 (by decide)).trans rfl
  · exact (hl 2 (by decide)).trans rfl
  · exact absurd e h13
def bitI (p : Prop) [Decidable p] : Int := if p then 1 else 0
theorem Tab.lt {w : World} {b : Addr} {T : List Nd} (h : Tab w (some b) T) (hp : 0 < T.length) : b.block < w.heap.size := by
  obtain ⟨c, off, e, h1, _⟩ := h.at_.resolve_left (by omega)
  injection e with e
  rw [e]
  exact h1
theorem Tab.alloc {w : World} {A : Option Addr} {T : List Nd} (h : Tab w A T) (o : Obj) : Tab (w.alloc o) A T := h.below ((Below.refl _ w).alloc (Nat.le_refl _) o)
theorem OwnL.rowS {w : World} {B : Nat} {A : Option Addr} {n c : Nat} {zs : List Int} (h : OwnL w B (.slice A n c) zs) (hl : zs.length ≤ 100000) : Row w A zs ∧ (∀ b, A = some b → 0 < zs.length → B ≤ b.block ∧ b.block < w.heap.size) ∧ zs.length ≤ c ∧ n = zs.length := by
  rcases Nat.eq_zero_or_pos zs.length with h0 | h0
  · refine ⟨⟨hl, .inl h0⟩, fun b _ hp => by omega, by omega, ?_⟩
    rcases h.2 with ⟨e, _⟩ | ⟨g', cap, cur, e, _⟩
    · injection e with _ e _
      omega
    · injection e with _ e _
  · obtain ⟨g, cap, e, h1, h2, h3⟩ := own_form h h0
    injection e with e1 e2 e3
    subst e1 e2 e3
    refine ⟨⟨hl, .inr ⟨g, 0, rfl, h2, fun k hk => ?_⟩⟩, fun b e _ => by injection e with e; subst e; exact ⟨h1, h2⟩, h3, rfl⟩
    have := h.cells (g := g) rfl k (.int .i64 zs[k]) (by rw [List.getElem?_map, List.getElem?_eq_getElem hk]; rfl)
    rw [addr_add] at this
    rw [Nat.zero_add]
    exact this
def Op12 (op : Int) : Prop := op = 0 ∨ op = 1 ∨ op = 2 ∨ op = 3 ∨ op = 4 ∨ op = 5 ∨ op = 6 ∨ op = 7 ∨ op = 8 ∨ op = 9 ∨ op = 10 ∨ op = 11 ∨ op = 12
set_option maxRecDepth 100000 in
set_option maxHeartbeats 2000000 in
theorem many_ok {op : Int} (h : Op12 op) (w : World) : Calls Tryz.prog 83 #[.int .i8 op] w fun e w' => e = .returned (.int .i64 (manyM op)) ∧ w' = w := by
  rcases h with rfl | rfl | rfl | rfl | rfl | rfl | rfl | rfl | rfl | rfl | rfl | rfl | rfl
  all_goals
    go_enter Tryz.func83, Tryz.ntmps83
    go_wp2
    go_ret
    exact ⟨rfl, rfl⟩
set_option maxRecDepth 100000 in
set_option maxHeartbeats 2000000 in
theorem alike_ok {L : List Int} {w : World} {A : Option Addr} (c : Nat) (n s : Int) (h : Row w A L) :
    Calls Tryz.prog 84 #[.slice A L.length c, .int .i64 n, .int .i64 s] w fun e w' => e = .returned (.bool (L.all (fun x => decide (x = s)) && decide ((L.length : Int) = n))) ∧ Below w.heap.size w w' := by
  have hlen := h.len
  have H := Lib.hid h
  clear h
  go_enter Tryz.func84, Tryz.ntmps84
  go_wp2
  go_loopg [7] L.length (fun g v wr => ∃ i : Nat, i + g = L.length ∧ v = .int .i64 i ∧ (∀ x ∈ L.take i, x = s) ∧ Below w.heap.size w wr)
  case atStart => exact ⟨0, by omega, rfl, by simp, Below.refl _ _⟩
  case round =>
    obtain ⟨i, hig, rfl, hall, hb⟩ := hrel
    have HA := Lib.hid hall
    have HB := Lib.hid hb
    clear hall hb
    cases gk with
    | zero =>
      obtain rfl : i = L.length := by omega
      have d1 : decide ((L.length : Int) < L.length) = false := by simp
      go_wp2
      go_ret
      refine ⟨?_, HB.out⟩
      have e : (L.all fun x => decide (x = s)) = true := by
        rw [List.all_eq_true]
        intro x hx
        have := HA.out x (by rw [List.take_length]; exact hx)
        simp [this]
      rw [e]
      exact ret_bool (by rw [Bool.eq_iff_iff]; simp)
    | succ gk =>
      have hlt : i < L.length := by omega
      have d1 : decide ((i : Int) < L.length) = true := by simp; omega
      have t1 : (0 : Int) ≤ (i : Int) := by omega
      have t2 : (i : Int) < (L.length : Int) := by omega
      obtain ⟨b, off, rfl, hbb, hcell⟩ := (H.out.below HB.out).at_.resolve_left (by omega)
      have y0 := hcell i hlt
      have HNxt : Hid (L[i] = s → ∀ x ∈ L.take (i + 1), x = s) := Lib.hid (fun e x hx => by
        rw [List.take_add_one, List.getElem?_eq_getElem hlt] at hx
        rcases List.mem_append.1 hx with hx | hx
        · exact HA.out x hx
        · simp at hx
          rw [hx, e])
      have HNo : Hid (L[i] ≠ s → (L.all fun x => decide (x = s)) = false) := Lib.hid (fun e => by
        rw [List.all_eq_false]
        exact ⟨L[i], List.getElem_mem hlt, by simp [e]⟩)
      clear hcell
      generalize L[i] = m at *
      by_cases hm : m = s
      · have HM := Lib.hid (HNxt.out hm)
        have d2 : (m != s) = false := by simp [hm]
        clear hm HNxt HNo
        go_wp2
        go_roundg gk
        case measure => omega
        case rel => exact ⟨i + 1, by omega, by go_num, HM.out, HB.out⟩
      · have HM := Lib.hid (HNo.out hm)
        have d2 : (m != s) = true := by simp [hm]
        clear HNxt HNo
        go_wp2
        go_ret
        refine ⟨?_, HB.out⟩
        rw [HM.out]
        rfl
def OpIs (op : Int) (L : List Int) (w : World) (e : Ending) (w' : World) : Prop :=
  ∃ s er, e = .returned (.tuple #[.int .i64 s, .int .i64 er]) ∧ (∀ s0, opL op L = some s0 → s = s0 ∧ er = 0) ∧ (opL op L = none → er ≠ 0) ∧ Below w.heap.size w w'
theorem OpIs.some {op : Int} {L : List Int} {w w' : World} {s : Int} (h : opL op L = some s) (hb : Below w.heap.size w w') : OpIs op L w (.returned (.tuple #[.int .i64 s, .int .i64 0])) w' :=
  ⟨s, 0, rfl, fun s0 e => (by rw [h] at e; injection e with e; exact ⟨e, rfl⟩), fun e => (by rw [h] at e; cases e), hb⟩
theorem OpIs.none {op : Int} {L : List Int} {w w' : World} {er : Int} (h : opL op L = none) (he : er ≠ 0) (hb : Below w.heap.size w w') : OpIs op L w (.returned (.tuple #[.int .i64 0, .int .i64 er])) w' :=
  ⟨0, er, rfl, fun s0 e => by (rw [h] at e; cases e), fun _ => he, hb⟩
theorem Row.c1 {w : World} {A : Option Addr} {a : Int} (h : Row w A [a]) : ∃ b off, A = some ⟨b, off, none⟩ ∧ w.cell? ⟨b, off, none⟩ = some (.int .i64 a) := by
  obtain ⟨b, off, e, _, hc⟩ := h.at_.resolve_left (by simp)
  exact ⟨b, off, e, hc 0 (by simp)⟩
theorem Row.c2 {w : World} {A : Option Addr} {a a1 : Int} (h : Row w A [a, a1]) : ∃ b off, A = some ⟨b, off, none⟩ ∧ w.cell? ⟨b, off, none⟩ = some (.int .i64 a) ∧ w.cell? ⟨b, off + 1, none⟩ = some (.int .i64 a1) := by
  obtain ⟨b, off, e, _, hc⟩ := h.at_.resolve_left (by simp)
  exact ⟨b, off, e, hc 0 (by simp), hc 1 (by simp)⟩
theorem Row.c3 {w : World} {A : Option Addr} {a a1 a2 : Int} (h : Row w A [a, a1, a2]) : ∃ b off, A = some ⟨b, off, none⟩ ∧ w.cell? ⟨b, off, none⟩ = some (.int .i64 a) ∧ w.cell? ⟨b, off + 1, none⟩ = some (.int .i64 a1) ∧ w.cell? ⟨b, off + 2, none⟩ = some (.int .i64 a2) := by
  obtain ⟨b, off, e, _, hc⟩ := h.at_.resolve_left (by simp)
  exact ⟨b, off, e, hc 0 (by simp), hc 1 (by simp), hc 2 (by simp)⟩
theorem len_one {L : List Int} (h : (L.length : Int) = 1) : ∃ a, L = [a] := by
  match L, h with
  | [a], _ => exact ⟨a, rfl⟩
theorem len_two {L : List Int} (h : (L.length : Int) = 2) : ∃ a b, L = [a, b] := by
  match L, h with
  | [a, b], _ => exact ⟨a, b, rfl⟩
theorem len_three {L : List Int} (h : (L.length : Int) = 3) : ∃ a b d, L = [a, b, d] := by
  match L, h with
  | [a, b, d], _ => exact ⟨a, b, d, rfl⟩
theorem opL_one {op s r : Int} {L : List Int} (hop : (op = 1 ∧ s = 0 ∧ r = 0) ∨ (op = 11 ∧ s = 1 ∧ r = 1)) (h : (L.length : Int) = 1) (n : Int) (hn : n = 1) : opL op L = if (L.all (fun x => decide (x = s)) && decide ((L.length : Int) = n)) = true then some r else none := by
  obtain ⟨a, rfl⟩ := len_one h
  subst hn
  rcases hop with ⟨rfl, rfl, rfl⟩ | ⟨rfl, rfl, rfl⟩ <;> simp [opL, manyM, opSort]
theorem opL_two {op s : Int} {L : List Int} (hop : ((op = 2 ∨ op = 3 ∨ op = 4 ∨ op = 5) ∧ s = 0) ∨ ((op = 8 ∨ op = 9 ∨ op = 12) ∧ s = 1)) (h : (L.length : Int) = 2) (n : Int) (hn : n = 2) : opL op L = if (L.all (fun x => decide (x = s)) && decide ((L.length : Int) = n)) = true then some 0 else none := by
  obtain ⟨a, b, rfl⟩ := len_two h
  subst hn
  rcases hop with ⟨rfl | rfl | rfl | rfl, rfl⟩ | ⟨rfl | rfl | rfl, rfl⟩ <;> simp [opL, manyM, opSort]
set_option maxRecDepth 100000 in
set_option maxHeartbeats 8000000 in
theorem op_ok {op : Int} {L : List Int} {w : World} {A : Option Addr} (c : Nat) (hop : Op12 op) (h : Row w A L) (hn : ∀ x ∈ L, 0 ≤ x) :
    Calls Tryz.prog 64 #[.int .i8 op, .slice A L.length c] w (OpIs op L w) := by
  have hlen := h.len
  have HB0 := Lib.hid (Below.refl w.heap.size w)
  have H := Lib.hid h
  have HN := Lib.hid hn
  clear h hn
  have HOp := Lib.hid hop
  obtain ⟨m, hm⟩ : ∃ m, manyM op = m := ⟨_, rfl⟩
  have HM := Lib.hid hm
  have KM := Lib.hid (many_ok hop w)
  rw [hm] at KM
  clear hm
  have hm3 : 0 ≤ m ∧ m ≤ 3 := by
    rw [← HM.out]
    rcases hop with rfl | rfl | rfl | rfl | rfl | rfl | rfl | rfl | rfl | rfl | rfl | rfl | rfl <;> decide
  clear hop
  by_cases hl : (L.length : Int) = m
  rotate_left
  · have d1 : decide (m < 0) = false := by simp; omega
    have d2 : ((L.length : Int) != m) = true := by simpa using hl
    have HS : Hid (opL op L = none) := Lib.hid (by unfold opL; rw [HM.out, if_neg hl])
    clear hl
    go_enter Tryz.func64, Tryz.ntmps64
    go_wp2_with fail
    refine KM.out.mono ?_
    rintro e w1 ⟨rfl, rfl⟩
    go_wp2
    refine bodyPost_ret (v := .tuple #[.int .i64 0, .int .i64 2]) (by simp [results, Tryz.results64, go_sem]) rfl ?_
    exact OpIs.none HS.out (by decide) HB0.out
  · have HL := Lib.hid hl
    rw [← hl] at KM
    have HM2 : Hid (manyM op = L.length) := Lib.hid (by rw [HM.out, hl])
    have d1 : decide ((L.length : Int) < 0) = false := by simp
    clear hl hm3
    go_enter Tryz.func64, Tryz.ntmps64
    go_wp2_with fail
    refine KM.out.mono ?_
    rintro e w1 ⟨rfl, rfl⟩
    go_wp2
    go_loopg [7] L.length (fun g v wr => ∃ i : Nat, i + g = L.length ∧ v = .int .i64 i ∧ Below w1.heap.size w1 wr)
    case atStart => exact ⟨0, by omega, rfl, Below.refl _ _⟩
    case round =>
      obtain ⟨i, hig, rfl, hb⟩ := hrel
      have HB := Lib.hid hb
      clear hb
      cases gk with
      | zero =>
        obtain rfl : i = L.length := by omega
        have d3 : decide ((L.length : Int) < (L.length : Int)) = false := by simp
        have HR := Lib.hid (H.out.below HB.out)
        rcases HOp.out with rfl | rfl | rfl | rfl | rfl | rfl | rfl | rfl | rfl | rfl | rfl | rfl | rfl
        · have HL2 : Hid ((L.length : Int) = 0) := Lib.hid (by have := HM2.out; simp [manyM] at this; omega)
          have HS : Hid (opL 0 L = some 0) := Lib.hid (by unfold opL; rw [HM.out, if_pos (by have := HL2.out; have := HM.out; have := HL.out; omega)]; rfl)
          go_wp2
          refine bodyPost_ret (v := .tuple #[.int .i64 0, .int .i64 0]) (by simp [results, Tryz.results64, go_sem]) rfl ?_
          exact OpIs.some HS.out HB.out
        · have HL2 : Hid ((L.length : Int) = 1) := Lib.hid (by have := HM2.out; simp [manyM] at this; omega)
          have HS := Lib.hid (opL_one (.inl ⟨rfl, rfl, rfl⟩) (L := L) HL2.out L.length HL2.out)
          have KA := Lib.hid (alike_ok c L.length 0 HR.out)
          obtain ⟨r, hr⟩ : ∃ r, (L.all (fun x => decide (x = 0)) && decide ((L.length : Int) = L.length)) = r := ⟨_, rfl⟩
          rw [hr] at HS KA
          clear hr
          go_wp2_with fail
          refine KA.out.mono ?_
          rintro e w2 ⟨rfl, hb2⟩
          have HB2 := Lib.hid (HB.out.trans (hb2.mono HB.out.size))
          clear hb2 KA
          cases r with
          | false =>
            go_wp2
            refine bodyPost_ret (v := .tuple #[.int .i64 0, .int .i64 33]) (by simp [results, Tryz.results64, go_sem]) rfl ?_
            exact OpIs.none (by rw [HS.out]; rfl) (by decide) HB2.out
          | true =>
            go_wp2
            refine bodyPost_ret (v := .tuple #[.int .i64 0, .int .i64 0]) (by simp [results, Tryz.results64, go_sem]) rfl ?_
            exact OpIs.some (by rw [HS.out]; rfl) HB2.out
        · have HL2 : Hid ((L.length : Int) = 2) := Lib.hid (by have := HM2.out; simp [manyM] at this; omega)
          have HS := Lib.hid (opL_two (.inl ⟨.inl rfl, rfl⟩) (L := L) HL2.out L.length HL2.out)
          have KA := Lib.hid (alike_ok c L.length 0 HR.out)
          obtain ⟨r, hr⟩ : ∃ r, (L.all (fun x => decide (x = 0)) && decide ((L.length : Int) = L.length)) = r := ⟨_, rfl⟩
          rw [hr] at HS KA
          clear hr
          go_wp2_with fail
          refine KA.out.mono ?_
          rintro e w2 ⟨rfl, hb2⟩
          have HB2 := Lib.hid (HB.out.trans (hb2.mono HB.out.size))
          clear hb2 KA
          cases r with
          | false =>
            go_wp2
            refine bodyPost_ret (v := .tuple #[.int .i64 0, .int .i64 33]) (by simp [results, Tryz.results64, go_sem]) rfl ?_
            exact OpIs.none (by rw [HS.out]; rfl) (by decide) HB2.out
          | true =>
            go_wp2
            refine bodyPost_ret (v := .tuple #[.int .i64 0, .int .i64 0]) (by simp [results, Tryz.results64, go_sem]) rfl ?_
            exact OpIs.some (by rw [HS.out]; rfl) HB2.out
        · have HL2 : Hid ((L.length : Int) = 2) := Lib.hid (by have := HM2.out; simp [manyM] at this; omega)
          have HS := Lib.hid (opL_two (.inl ⟨.inr (.inl rfl), rfl⟩) (L := L) HL2.out L.length HL2.out)
          have KA := Lib.hid (alike_ok c L.length 0 HR.out)
          obtain ⟨r, hr⟩ : ∃ r, (L.all (fun x => decide (x = 0)) && decide ((L.length : Int) = L.length)) = r := ⟨_, rfl⟩
          rw [hr] at HS KA
          clear hr
          go_wp2_with fail
          refine KA.out.mono ?_
          rintro e w2 ⟨rfl, hb2⟩
          have HB2 := Lib.hid (HB.out.trans (hb2.mono HB.out.size))
          clear hb2 KA
          cases r with
          | false =>
            go_wp2
            refine bodyPost_ret (v := .tuple #[.int .i64 0, .int .i64 33]) (by simp [results, Tryz.results64, go_sem]) rfl ?_
            exact OpIs.none (by rw [HS.out]; rfl) (by decide) HB2.out
          | true =>
            go_wp2
            refine bodyPost_ret (v := .tuple #[.int .i64 0, .int .i64 0]) (by simp [results, Tryz.results64, go_sem]) rfl ?_
            exact OpIs.some (by rw [HS.out]; rfl) HB2.out
        · have HL2 : Hid ((L.length : Int) = 2) := Lib.hid (by have := HM2.out; simp [manyM] at this; omega)
          have HS := Lib.hid (opL_two (.inl ⟨.inr (.inr (.inl rfl)), rfl⟩) (L := L) HL2.out L.length HL2.out)
          have KA := Lib.hid (alike_ok c L.length 0 HR.out)
          obtain ⟨r, hr⟩ : ∃ r, (L.all (fun x => decide (x = 0)) && decide ((L.length : Int) = L.length)) = r := ⟨_, rfl⟩
          rw [hr] at HS KA
          clear hr
          go_wp2_with fail
          refine KA.out.mono ?_
          rintro e w2 ⟨rfl, hb2⟩
          have HB2 := Lib.hid (HB.out.trans (hb2.mono HB.out.size))
          clear hb2 KA
          cases r with
          | false =>
            go_wp2
            refine bodyPost_ret (v := .tuple #[.int .i64 0, .int .i64 33]) (by simp [results, Tryz.results64, go_sem]) rfl ?_
            exact OpIs.none (by rw [HS.out]; rfl) (by decide) HB2.out
          | true =>
            go_wp2
            refine bodyPost_ret (v := .tuple #[.int .i64 0, .int .i64 0]) (by simp [results, Tryz.results64, go_sem]) rfl ?_
            exact OpIs.some (by rw [HS.out]; rfl) HB2.out
        · have HL2 : Hid ((L.length : Int) = 2) := Lib.hid (by have := HM2.out; simp [manyM] at this; omega)
          have HS := Lib.hid (opL_two (.inl ⟨.inr (.inr (.inr rfl)), rfl⟩) (L := L) HL2.out L.length HL2.out)
          have KA := Lib.hid (alike_ok c L.length 0 HR.out)
          obtain ⟨r, hr⟩ : ∃ r, (L.all (fun x => decide (x = 0)) && decide ((L.length : Int) = L.length)) = r := ⟨_, rfl⟩
          rw [hr] at HS KA
          clear hr
          go_wp2_with fail
          refine KA.out.mono ?_
          rintro e w2 ⟨rfl, hb2⟩
          have HB2 := Lib.hid (HB.out.trans (hb2.mono HB.out.size))
          clear hb2 KA
          cases r with
          | false =>
            go_wp2
            refine bodyPost_ret (v := .tuple #[.int .i64 0, .int .i64 33]) (by simp [results, Tryz.results64, go_sem]) rfl ?_
            exact OpIs.none (by rw [HS.out]; rfl) (by decide) HB2.out
          | true =>
            go_wp2
            refine bodyPost_ret (v := .tuple #[.int .i64 0, .int .i64 0]) (by simp [results, Tryz.results64, go_sem]) rfl ?_
            exact OpIs.some (by rw [HS.out]; rfl) HB2.out
        · have HL2 : Hid ((L.length : Int) = 2) := Lib.hid (by have := HM2.out; simp [manyM] at this; omega)
          obtain ⟨a, b, hab⟩ := len_two HL2.out
          have hr := HR.out
          rw [hab] at hr
          obtain ⟨p, off, hA, y0, y1⟩ := hr.c2
          clear hr
          have t1 : (0 : Int) < (L.length : Int) := by have := HL2.out; omega
          have t2 : (1 : Int) < (L.length : Int) := by have := HL2.out; omega
          have HS : Hid (opL 6 L = if a = b then some 0 else none) := Lib.hid (by rw [hab]; simp [opL, manyM, opSort])
          subst hA
          clear hab
          by_cases hq : a = b
          · have d4 : (a == b) = true := by simp [hq]
            rw [if_pos hq] at HS
            clear hq
            go_wp2_with fail
            go_quiet (fail)
            go_wp2
            refine bodyPost_ret (v := .tuple #[.int .i64 0, .int .i64 0]) (by simp [results, Tryz.results64, go_sem]) rfl ?_
            exact OpIs.some HS.out (below_drewN HB.out _)
          · have d4 : (a == b) = false := by simp [hq]
            rw [if_neg hq] at HS
            clear hq
            go_wp2_with fail
            go_quiet (fail)
            go_wp2
            refine bodyPost_ret (v := .tuple #[.int .i64 0, .int .i64 33]) (by simp [results, Tryz.results64, go_sem]) rfl ?_
            exact OpIs.none HS.out (by decide) (below_drewN HB.out _)
        · have HL2 : Hid ((L.length : Int) = 3) := Lib.hid (by have := HM2.out; simp [manyM] at this; omega)
          obtain ⟨a, b, d, hab⟩ := len_three HL2.out
          have hr := HR.out
          rw [hab] at hr
          obtain ⟨p, off, hA, y0, y1, y2⟩ := hr.c3
          clear hr
          have t1 : (0 : Int) < (L.length : Int) := by have := HL2.out; omega
          have t2 : (1 : Int) < (L.length : Int) := by have := HL2.out; omega
          have t3 : (2 : Int) < (L.length : Int) := by have := HL2.out; omega
          have HS : Hid (opL 7 L = if a = 0 ∧ b = d then some b else none) := Lib.hid (by rw [hab]; simp [opL, manyM, opSort])
          subst hA
          clear hab
          by_cases hq : a = 0
          · have d4 : (a == 0) = true := by simp [hq]
            by_cases hp : b = d
            · have d5 : (b == d) = true := by simp [hp]
              rw [if_pos ⟨hq, hp⟩] at HS
              clear hq hp
              go_wp2_with fail
              go_quiet (fail)
              go_wp2
              refine bodyPost_ret (v := .tuple #[.int .i64 b, .int .i64 0]) (by simp [results, Tryz.results64, go_sem]) rfl ?_
              exact OpIs.some HS.out (below_drewN HB.out _)
            · have d5 : (b == d) = false := by simp [hp]
              rw [if_neg (fun h => hp h.2)] at HS
              clear hq hp
              go_wp2_with fail
              go_quiet (fail)
              go_wp2
              refine bodyPost_ret (v := .tuple #[.int .i64 0, .int .i64 33]) (by simp [results, Tryz.results64, go_sem]) rfl ?_
              exact OpIs.none HS.out (by decide) (below_drewN HB.out _)
          · have d4 : (a == 0) = false := by simp [hq]
            rw [if_neg (fun h => hq h.1)] at HS
            clear hq
            go_wp2_with fail
            go_quiet (fail)
            go_wp2
            refine bodyPost_ret (v := .tuple #[.int .i64 0, .int .i64 33]) (by simp [results, Tryz.results64, go_sem]) rfl ?_
            exact OpIs.none HS.out (by decide) (below_drewN HB.out _)
        · have HL2 : Hid ((L.length : Int) = 2) := Lib.hid (by have := HM2.out; simp [manyM] at this; omega)
          have HS := Lib.hid (opL_two (.inr ⟨.inl rfl, rfl⟩) (L := L) (by have := HL2.out; omega) 2 rfl)
          have KA := Lib.hid (alike_ok c 2 1 HR.out)
          obtain ⟨r, hr⟩ : ∃ r, (L.all (fun x => decide (x = 1)) && decide ((L.length : Int) = 2)) = r := ⟨_, rfl⟩
          rw [hr] at HS KA
          clear hr
          go_wp2_with fail
          refine KA.out.mono ?_
          rintro e w2 ⟨rfl, hb2⟩
          have HB2 := Lib.hid (HB.out.trans (hb2.mono HB.out.size))
          clear hb2 KA
          cases r with
          | false =>
            go_wp2
            refine bodyPost_ret (v := .tuple #[.int .i64 0, .int .i64 33]) (by simp [results, Tryz.results64, go_sem]) rfl ?_
            exact OpIs.none (by rw [HS.out]; rfl) (by decide) HB2.out
          | true =>
            go_wp2
            refine bodyPost_ret (v := .tuple #[.int .i64 0, .int .i64 0]) (by simp [results, Tryz.results64, go_sem]) rfl ?_
            exact OpIs.some (by rw [HS.out]; rfl) HB2.out
        · have HL2 : Hid ((L.length : Int) = 2) := Lib.hid (by have := HM2.out; simp [manyM] at this; omega)
          have HS := Lib.hid (opL_two (.inr ⟨.inr (.inl rfl), rfl⟩) (L := L) (by have := HL2.out; omega) 2 rfl)
          have KA := Lib.hid (alike_ok c 2 1 HR.out)
          obtain ⟨r, hr⟩ : ∃ r, (L.all (fun x => decide (x = 1)) && decide ((L.length : Int) = 2)) = r := ⟨_, rfl⟩
          rw [hr] at HS KA
          clear hr
          go_wp2_with fail
          refine KA.out.mono ?_
          rintro e w2 ⟨rfl, hb2⟩
          have HB2 := Lib.hid (HB.out.trans (hb2.mono HB.out.size))
          clear hb2 KA
          cases r with
          | false =>
            go_wp2
            refine bodyPost_ret (v := .tuple #[.int .i64 0, .int .i64 33]) (by simp [results, Tryz.results64, go_sem]) rfl ?_
            exact OpIs.none (by rw [HS.out]; rfl) (by decide) HB2.out
          | true =>
            go_wp2
            refine bodyPost_ret (v := .tuple #[.int .i64 0, .int .i64 0]) (by simp [results, Tryz.results64, go_sem]) rfl ?_
            exact OpIs.some (by rw [HS.out]; rfl) HB2.out
        · have HL2 : Hid ((L.length : Int) = 0) := Lib.hid (by have := HM2.out; simp [manyM] at this; omega)
          have HS : Hid (opL 10 L = some 1) := Lib.hid (by unfold opL; rw [HM.out, if_pos (by have := HL2.out; have := HM.out; have := HL.out; omega)]; rfl)
          go_wp2
          refine bodyPost_ret (v := .tuple #[.int .i64 1, .int .i64 0]) (by simp [results, Tryz.results64, go_sem]) rfl ?_
          exact OpIs.some HS.out HB.out
        · have HL2 : Hid ((L.length : Int) = 1) := Lib.hid (by have := HM2.out; simp [manyM] at this; omega)
          have HS := Lib.hid (opL_one (.inr ⟨rfl, rfl, rfl⟩) (L := L) (by have := HL2.out; omega) 1 rfl)
          have KA := Lib.hid (alike_ok c 1 1 HR.out)
          obtain ⟨r, hr⟩ : ∃ r, (L.all (fun x => decide (x = 1)) && decide ((L.length : Int) = 1)) = r := ⟨_, rfl⟩
          rw [hr] at HS KA
          clear hr
          go_wp2_with fail
          refine KA.out.mono ?_
          rintro e w2 ⟨rfl, hb2⟩
          have HB2 := Lib.hid (HB.out.trans (hb2.mono HB.out.size))
          clear hb2 KA
          cases r with
          | false =>
            go_wp2
            refine bodyPost_ret (v := .tuple #[.int .i64 0, .int .i64 33]) (by simp [results, Tryz.results64, go_sem]) rfl ?_
            exact OpIs.none (by rw [HS.out]; rfl) (by decide) HB2.out
          | true =>
            go_wp2
            refine bodyPost_ret (v := .tuple #[.int .i64 1, .int .i64 0]) (by simp [results, Tryz.results64, go_sem]) rfl ?_
            exact OpIs.some (by rw [HS.out]; rfl) HB2.out
        · have HL2 : Hid ((L.length : Int) = 2) := Lib.hid (by have := HM2.out; simp [manyM] at this; omega)
          have HS := Lib.hid (opL_two (.inr ⟨.inr (.inr rfl), rfl⟩) (L := L) (by have := HL2.out; omega) 2 rfl)
          have KA := Lib.hid (alike_ok c 2 1 HR.out)
          obtain ⟨r, hr⟩ : ∃ r, (L.all (fun x => decide (x = 1)) && decide ((L.length : Int) = 2)) = r := ⟨_, rfl⟩
          rw [hr] at HS KA
          clear hr
          go_wp2_with fail
          refine KA.out.mono ?_
          rintro e w2 ⟨rfl, hb2⟩
          have HB2 := Lib.hid (HB.out.trans (hb2.mono HB.out.size))
          clear hb2 KA
          cases r with
          | false =>
            go_wp2
            refine bodyPost_ret (v := .tuple #[.int .i64 0, .int .i64 33]) (by simp [results, Tryz.results64, go_sem]) rfl ?_
            exact OpIs.none (by rw [HS.out]; rfl) (by decide) HB2.out
          | true =>
            go_wp2
            refine bodyPost_ret (v := .tuple #[.int .i64 0, .int .i64 0]) (by simp [results, Tryz.results64, go_sem]) rfl ?_
            exact OpIs.some (by rw [HS.out]; rfl) HB2.out
      | succ gk =>
        have hlt : i < L.length := by omega
        have d3 : decide ((i : Int) < (L.length : Int)) = true := by simp; omega
        have t1 : (0 : Int) ≤ (i : Int) := by omega
        have t2 : (i : Int) < (L.length : Int) := by omega
        obtain ⟨b, off, rfl, hbb, hcell⟩ := (H.out.below HB.out).at_.resolve_left (by omega)
        have y0 := hcell i hlt
        have hnn := HN.out _ (List.getElem_mem hlt)
        have d4 : decide (L[i] < 0) = false := by simp; omega
        clear hcell
        generalize L[i] = q at *
        go_wp2
        go_roundg gk
        case measure => omega
        case rel => exact ⟨i + 1, by omega, by go_num, HB.out⟩
end Go.Proofs.YtkapbdjobfbhhaaGreat

/- gantryref06: Many, alike, Op. -/
import Derived.Test.YtlipnnibagidiaaGreatCoT
import Derived.Test.YtlipnnibagidiaaGreatSwA
namespace Go.Proofs.YtlipnnibagidiaaGreat
open Go.RowKit Go.Lib
def Op12 (op : Int) : Prop := op = 0 ∨ op = 1 ∨ op = 2 ∨ op = 3 ∨ op = 4 ∨ op = 5 ∨ op = 6 ∨ op = 7 ∨ op = 8 ∨ op = 9 ∨ op = 10 ∨ op = 11 ∨ op = 12
set_option maxRecDepth 100000 in
set_option maxHeartbeats 2000000 in
theorem many_ok {op : Int} (h : Op12 op) (w : World) : Calls Tryz.prog 113 #[.int .i8 op] w fun e w' => e = .returned (.int .i64 (manyM op)) ∧ w' = w := by
  rcases h with rfl | rfl | rfl | rfl | rfl | rfl | rfl | rfl | rfl | rfl | rfl | rfl | rfl
  all_goals
    go_enter Tryz.func113, Tryz.ntmps113
    go_wp2
    go_ret
    exact ⟨rfl, rfl⟩
set_option maxRecDepth 100000 in
set_option maxHeartbeats 2000000 in
theorem alike_ok {L : List Int} {w : World} {A : Option Addr} (c : Nat) (n s : Int) (h : Row w A L) :
    Calls Tryz.prog 114 #[.slice A L.length c, .int .i64 n, .int .i64 s] w fun e w' => e = .returned (.bool (L.all (fun x => decide (x = s)) && decide ((L.length : Int) = n))) ∧ Below w.heap.size w w' := by
  have hlen := h.len
  have H := zzh h
  clear h
  go_enter Tryz.func114, Tryz.ntmps114
  go_wp2
  go_loopg [7] L.length (fun g v wr => ∃ i : Nat, i + g = L.length ∧ v = .int .i64 i ∧ (∀ x ∈ L.take i, x = s) ∧ Below w.heap.size w wr)
  case atStart => exact ⟨0, by omega, rfl, by simp, Below.refl _ _⟩
  case round =>
    obtain ⟨i, hig, rfl, hall, hb⟩ := hrel
    have HA := zzh hall
    have HB := zzh hb
    clear hall hb
    cases gk with
    | zero =>
      obtain rfl : i = L.length := by omega
      have d1 : decide ((L.length : Int) < L.length) = false := by simp
      go_wp2
      go_ret
      refine ⟨?_, HB.out⟩
      have e : (L.all fun x => decide (x = s)) = true := by
        rw [List.all_eq_true]
        intro x hx
        have := HA.out x (by rw [List.take_length]; exact hx)
        simp [this]
      rw [e]
      exact ret_bool (by rw [Bool.eq_iff_iff]; simp)
    | succ gk =>
      have hlt : i < L.length := by omega
      have d1 : decide ((i : Int) < L.length) = true := by simp; omega
      have t1 : (0 : Int) ≤ (i : Int) := by omega
      have t2 : (i : Int) < (L.length : Int) := by omega
      obtain ⟨b, off, rfl, hbb, hcell⟩ := (H.out.below HB.out).at_.resolve_left (by omega)
      have y0 := hcell i hlt
      have HNxt : Hid (L[i] = s → ∀ x ∈ L.take (i + 1), x = s) := zzh (fun e x hx => by
        rw [List.take_add_one, List.getElem?_eq_getElem hlt] at hx
        rcases List.mem_append.1 hx with hx | hx
        · exact HA.out x hx
        · simp at hx
          rw [hx, e])
      have HNo : Hid (L[i] ≠ s → (L.all fun x => decide (x = s)) = false) := zzh (fun e => by
        rw [List.all_eq_false]
        exact ⟨L[i], List.getElem_mem hlt, by simp [e]⟩)
      clear hcell
      generalize L[i] = m at *
      by_cases hm : m = s
      · have HM := zzh (HNxt.out hm)
        have d2 : (m != s) = false := by simp [hm]
        clear hm HNxt HNo
        go_wp2
        go_roundg gk
        case measure => omega
        case rel => exact ⟨i + 1, by omega, by go_num, HM.out, HB.out⟩
      · have HM := zzh (HNo.out hm)
        have d2 : (m != s) = true := by simp [hm]
        clear HNxt HNo
        go_wp2
        go_ret
        refine ⟨?_, HB.out⟩
        rw [HM.out]
        rfl
def OpIs (op : Int) (L : List Int) (w : World) (e : Ending) (w' : World) : Prop :=
  ∃ s er, e = .returned (.tuple #[.int .i64 s, .int .i64 er]) ∧ (∀ s0, opL op L = some s0 → s = s0 ∧ er = 0) ∧ (opL op L = none → er ≠ 0) ∧ Below w.heap.size w w'
theorem OpIs.some {op : Int} {L : List Int} {w w' : World} {s : Int} (h : opL op L = some s) (hb : Below w.heap.size w w') : OpIs op L w (.returned (.tuple #[.int .i64 s, .int .i64 0])) w' :=
  ⟨s, 0, rfl, fun s0 e => (by rw [h] at e; injection e with e; exact ⟨e, rfl⟩), fun e => (by rw [h] at e; cases e), hb⟩
theorem OpIs.none {op : Int} {L : List Int} {w w' : World} {er : Int} (h : opL op L = none) (he : er ≠ 0) (hb : Below w.heap.size w w') : OpIs op L w (.returned (.tuple #[.int .i64 0, .int .i64 er])) w' :=
  ⟨0, er, rfl, fun s0 e => by (rw [h] at e; cases e), fun _ => he, hb⟩
theorem Row.c1 {w : World} {A : Option Addr} {a : Int} (h : Row w A [a]) : ∃ b off, A = some ⟨b, off, none⟩ ∧ w.cell? ⟨b, off, none⟩ = some (.int .i64 a) := by
  obtain ⟨b, off, e, _, hc⟩ := h.at_.resolve_left (by simp)
  exact ⟨b, off, e, hc 0 (by simp)⟩
theorem Row.c2 {w : World} {A : Option Addr} {a a1 : Int} (h : Row w A [a, a1]) : ∃ b off, A = some ⟨b, off, none⟩ ∧ w.cell? ⟨b, off, none⟩ = some (.int .i64 a) ∧ w.cell? ⟨b, off + 1, none⟩ = some (.int .i64 a1) := by
  obtain ⟨b, off, e, _, hc⟩ := h.at_.resolve_left (by simp)
  exact ⟨b, off, e, hc 0 (by simp), hc 1 (by simp)⟩
theorem Row.c3 {w : World} {A : Option Addr} {a a1 a2 : Int} (h : Row w A [a, a1, a2]) : ∃ b off, A = some ⟨b, off, none⟩ ∧ w.cell? ⟨b, off, none⟩ = some (.int .i64 a) ∧ w.cell? ⟨b, off + 1, none⟩ = some (.int .i64 a1) ∧ w.cell? ⟨b, off + 2, none⟩ = some (.int .i64 a2) := by
  obtain ⟨b, off, e, _, hc⟩ := h.at_.resolve_left (by simp)
  exact ⟨b, off, e, hc 0 (by simp), hc 1 (by simp), hc 2 (by simp)⟩
theorem len_one {L : List Int} (h : (L.length : Int) = 1) : ∃ a, L = [a] := by
  match L, h with
  | [a], _ => exact ⟨a, rfl⟩
theorem len_two {L : List Int} (h : (L.length : Int) = 2) : ∃ a b, L = [a, b] := by
  match L, h with
  | [a, b], _ => exact ⟨a, b, rfl⟩
theorem len_three {L : List Int} (h : (L.length : Int) = 3) : ∃ a b d, L = [a, b, d] := by
  match L, h with
  | [a, b, d], _ => exact ⟨a, b, d, rfl⟩
theorem opL_one {op s r : Int} {L : List Int} (hop : (op = 1 ∧ s = 0 ∧ r = 0) ∨ (op = 11 ∧ s = 1 ∧ r = 1)) (h : (L.length : Int) = 1) (n : Int) (hn : n = 1) : opL op L = if (L.all (fun x => decide (x = s)) && decide ((L.length : Int) = n)) = true then some r else none := by
  obtain ⟨a, rfl⟩ := len_one h
  subst hn
  rcases hop with ⟨rfl, rfl, rfl⟩ | ⟨rfl, rfl, rfl⟩ <;> simp [opL, manyM, opSort]
theorem opL_two {op s : Int} {L : List Int} (hop : ((op = 2 ∨ op = 3 ∨ op = 4 ∨ op = 5) ∧ s = 0) ∨ ((op = 8 ∨ op = 9 ∨ op = 12) ∧ s = 1)) (h : (L.length : Int) = 2) (n : Int) (hn : n = 2) : opL op L = if (L.all (fun x => decide (x = s)) && decide ((L.length : Int) = n)) = true then some 0 else none := by
  obtain ⟨a, b, rfl⟩ := len_two h
  subst hn
  rcases hop with ⟨rfl | rfl | rfl | rfl, rfl⟩ | ⟨rfl | rfl | rfl, rfl⟩ <;> simp [opL, manyM, opSort]
set_option maxRecDepth 100000 in
set_option maxHeartbeats 8000000 in
theorem op_ok {op : Int} {L : List Int} {w : World} {A : Option Addr} (c : Nat) (hop : Op12 op) (h : Row w A L) (hn : ∀ x ∈ L, 0 ≤ x) :
    Calls Tryz.prog 73 #[.int .i8 op, .slice A L.length c] w (OpIs op L w) := by
  have hlen := h.len
  have HB0 := zzh (Below.refl w.heap.size w)
  have H := zzh h
  have HN := zzh hn
  clear h hn
  have HOp := zzh hop
  obtain ⟨m, hm⟩ : ∃ m, manyM op = m := ⟨_, rfl⟩
  have HM := zzh hm
  have KM := zzh (many_ok hop w)
  rw [hm] at KM
  clear hm
  have hm3 : 0 ≤ m ∧ m ≤ 3 := by
    rw [← HM.out]
    rcases hop with rfl | rfl | rfl | rfl | rfl | rfl | rfl | rfl | rfl | rfl | rfl | rfl | rfl <;> decide
  clear hop
  by_cases hl : (L.length : Int) = m
  rotate_left
  · have d1 : decide (m < 0) = false := by simp; omega
    have d2 : ((L.length : Int) != m) = true := by simpa using hl
    have HS : Hid (opL op L = none) := zzh (by unfold opL; rw [HM.out, if_neg hl])
    clear hl
    go_enter Tryz.func73, Tryz.ntmps73
    go_wp2_with fail
    refine KM.out.mono ?_
    rintro e w1 ⟨rfl, rfl⟩
    go_wp2
    refine bodyPost_ret (v := .tuple #[.int .i64 0, .int .i64 2]) (by simp [results, Tryz.results73, go_sem]) rfl ?_
    exact OpIs.none HS.out (by decide) HB0.out
  · have HL := zzh hl
    rw [← hl] at KM
    have HM2 : Hid (manyM op = L.length) := zzh (by rw [HM.out, hl])
    have d1 : decide ((L.length : Int) < 0) = false := by simp
    clear hl hm3
    go_enter Tryz.func73, Tryz.ntmps73
    go_wp2_with fail
    refine KM.out.mono ?_
    rintro e w1 ⟨rfl, rfl⟩
    go_wp2
    go_loopg [7] L.length (fun g v wr => ∃ i : Nat, i + g = L.length ∧ v = .int .i64 i ∧ Below w1.heap.size w1 wr)
    case atStart => exact ⟨0, by omega, rfl, Below.refl _ _⟩
    case round =>
      obtain ⟨i, hig, rfl, hb⟩ := hrel
      have HB := zzh hb
      clear hb
      cases gk with
      | zero =>
        obtain rfl : i = L.length := by omega
        have d3 : decide ((L.length : Int) < (L.length : Int)) = false := by simp
        have HR := zzh (H.out.below HB.out)
        rcases HOp.out with rfl | rfl | rfl | rfl | rfl | rfl | rfl | rfl | rfl | rfl | rfl | rfl | rfl
        · have HL2 : Hid ((L.length : Int) = 0) := zzh (by have := HM2.out; simp [manyM] at this; omega)
          have HS : Hid (opL 0 L = some 0) := zzh (by unfold opL; rw [HM.out, if_pos (by have := HL2.out; have := HM.out; have := HL.out; omega)]; rfl)
          go_wp2
          refine bodyPost_ret (v := .tuple #[.int .i64 0, .int .i64 0]) (by simp [results, Tryz.results73, go_sem]) rfl ?_
          exact OpIs.some HS.out HB.out
        · have HL2 : Hid ((L.length : Int) = 1) := zzh (by have := HM2.out; simp [manyM] at this; omega)
          have HS := zzh (opL_one (.inl ⟨rfl, rfl, rfl⟩) (L := L) HL2.out L.length HL2.out)
          have KA := zzh (alike_ok c L.length 0 HR.out)
          obtain ⟨r, hr⟩ : ∃ r, (L.all (fun x => decide (x = 0)) && decide ((L.length : Int) = L.length)) = r := ⟨_, rfl⟩
          rw [hr] at HS KA
          clear hr
          go_wp2_with fail
          refine KA.out.mono ?_
          rintro e w2 ⟨rfl, hb2⟩
          have HB2 := zzh (HB.out.trans (hb2.mono HB.out.size))
          clear hb2 KA
          cases r with
          | false =>
            go_wp2
            refine bodyPost_ret (v := .tuple #[.int .i64 0, .int .i64 33]) (by simp [results, Tryz.results73, go_sem]) rfl ?_
            exact OpIs.none (by rw [HS.out]; rfl) (by decide) HB2.out
          | true =>
            go_wp2
            refine bodyPost_ret (v := .tuple #[.int .i64 0, .int .i64 0]) (by simp [results, Tryz.results73, go_sem]) rfl ?_
            exact OpIs.some (by rw [HS.out]; rfl) HB2.out
        · have HL2 : Hid ((L.length : Int) = 2) := zzh (by have := HM2.out; simp [manyM] at this; omega)
          have HS := zzh (opL_two (.inl ⟨.inl rfl, rfl⟩) (L := L) HL2.out L.length HL2.out)
          have KA := zzh (alike_ok c L.length 0 HR.out)
          obtain ⟨r, hr⟩ : ∃ r, (L.all (fun x => decide (x = 0)) && decide ((L.length : Int) = L.length)) = r := ⟨_, rfl⟩
          rw [hr] at HS KA
          clear hr
          go_wp2_with fail
          refine KA.out.mono ?_
          rintro e w2 ⟨rfl, hb2⟩
          have HB2 := zzh (HB.out.trans (hb2.mono HB.out.size))
          clear hb2 KA
          cases r with
          | false =>
            go_wp2
            refine bodyPost_ret (v := .tuple #[.int .i64 0, .int .i64 33]) (by simp [results, Tryz.results73, go_sem]) rfl ?_
            exact OpIs.none (by rw [HS.out]; rfl) (by decide) HB2.out
          | true =>
            go_wp2
            refine bodyPost_ret (v := .tuple #[.int .i64 0, .int .i64 0]) (by simp [results, Tryz.results73, go_sem]) rfl ?_
            exact OpIs.some (by rw [HS.out]; rfl) HB2.out
        · have HL2 : Hid ((L.length : Int) = 2) := zzh (by have := HM2.out; simp [manyM] at this; omega)
          have HS := zzh (opL_two (.inl ⟨.inr (.inl rfl), rfl⟩) (L := L) HL2.out L.length HL2.out)
          have KA := zzh (alike_ok c L.length 0 HR.out)
          obtain ⟨r, hr⟩ : ∃ r, (L.all (fun x => decide (x = 0)) && decide ((L.length : Int) = L.length)) = r := ⟨_, rfl⟩
          rw [hr] at HS KA
          clear hr
          go_wp2_with fail
          refine KA.out.mono ?_
          rintro e w2 ⟨rfl, hb2⟩
          have HB2 := zzh (HB.out.trans (hb2.mono HB.out.size))
          clear hb2 KA
          cases r with
          | false =>
            go_wp2
            refine bodyPost_ret (v := .tuple #[.int .i64 0, .int .i64 33]) (by simp [results, Tryz.results73, go_sem]) rfl ?_
            exact OpIs.none (by rw [HS.out]; rfl) (by decide) HB2.out
          | true =>
            go_wp2
            refine bodyPost_ret (v := .tuple #[.int .i64 0, .int .i64 0]) (by simp [results, Tryz.results73, go_sem]) rfl ?_
            exact OpIs.some (by rw [HS.out]; rfl) HB2.out
        · have HL2 : Hid ((L.length : Int) = 2) := zzh (by have := HM2.out; simp [manyM] at this; omega)
          have HS := zzh (opL_two (.inl ⟨.inr (.inr (.inl rfl)), rfl⟩) (L := L) HL2.out L.length HL2.out)
          have KA := zzh (alike_ok c L.length 0 HR.out)
          obtain ⟨r, hr⟩ : ∃ r, (L.all (fun x => decide (x = 0)) && decide ((L.length : Int) = L.length)) = r := ⟨_, rfl⟩
          rw [hr] at HS KA
          clear hr
          go_wp2_with fail
          refine KA.out.mono ?_
          rintro e w2 ⟨rfl, hb2⟩
          have HB2 := zzh (HB.out.trans (hb2.mono HB.out.size))
          clear hb2 KA
          cases r with
          | false =>
            go_wp2
            refine bodyPost_ret (v := .tuple #[.int .i64 0, .int .i64 33]) (by simp [results, Tryz.results73, go_sem]) rfl ?_
            exact OpIs.none (by rw [HS.out]; rfl) (by decide) HB2.out
          | true =>
            go_wp2
            refine bodyPost_ret (v := .tuple #[.int .i64 0, .int .i64 0]) (by simp [results, Tryz.results73, go_sem]) rfl ?_
            exact OpIs.some (by rw [HS.out]; rfl) HB2.out
        · have HL2 : Hid ((L.length : Int) = 2) := zzh (by have := HM2.out; simp [manyM] at this; omega)
          have HS := zzh (opL_two (.inl ⟨.inr (.inr (.inr rfl)), rfl⟩) (L := L) HL2.out L.length HL2.out)
          have KA := zzh (alike_ok c L.length 0 HR.out)
          obtain ⟨r, hr⟩ : ∃ r, (L.all (fun x => decide (x = 0)) && decide ((L.length : Int) = L.length)) = r := ⟨_, rfl⟩
          rw [hr] at HS KA
          clear hr
          go_wp2_with fail
          refine KA.out.mono ?_
          rintro e w2 ⟨rfl, hb2⟩
          have HB2 := zzh (HB.out.trans (hb2.mono HB.out.size))
          clear hb2 KA
          cases r with
          | false =>
            go_wp2
            refine bodyPost_ret (v := .tuple #[.int .i64 0, .int .i64 33]) (by simp [results, Tryz.results73, go_sem]) rfl ?_
            exact OpIs.none (by rw [HS.out]; rfl) (by decide) HB2.out
          | true =>
            go_wp2
            refine bodyPost_ret (v := .tuple #[.int .i64 0, .int .i64 0]) (by simp [results, Tryz.results73, go_sem]) rfl ?_
            exact OpIs.some (by rw [HS.out]; rfl) HB2.out
        · have HL2 : Hid ((L.length : Int) = 2) := zzh (by have := HM2.out; simp [manyM] at this; omega)
          obtain ⟨a, b, hab⟩ := len_two HL2.out
          have hr := HR.out
          rw [hab] at hr
          obtain ⟨p, off, hA, y0, y1⟩ := hr.c2
          clear hr
          have t1 : (0 : Int) < (L.length : Int) := by have := HL2.out; omega
          have t2 : (1 : Int) < (L.length : Int) := by have := HL2.out; omega
          have HS : Hid (opL 6 L = if a = b then some 0 else none) := zzh (by rw [hab]; simp [opL, manyM, opSort])
          subst hA
          clear hab
          by_cases hq : a = b
          · have d4 : (a == b) = true := by simp [hq]
            rw [if_pos hq] at HS
            clear hq
            go_wp2_with fail
            go_quiet (fail)
            go_wp2
            refine bodyPost_ret (v := .tuple #[.int .i64 0, .int .i64 0]) (by simp [results, Tryz.results73, go_sem]) rfl ?_
            exact OpIs.some HS.out (below_drewN HB.out _)
          · have d4 : (a == b) = false := by simp [hq]
            rw [if_neg hq] at HS
            clear hq
            go_wp2_with fail
            go_quiet (fail)
            go_wp2
            refine bodyPost_ret (v := .tuple #[.int .i64 0, .int .i64 33]) (by simp [results, Tryz.results73, go_sem]) rfl ?_
            exact OpIs.none HS.out (by decide) (below_drewN HB.out _)
        · have HL2 : Hid ((L.length : Int) = 3) := zzh (by have := HM2.out; simp [manyM] at this; omega)
          obtain ⟨a, b, d, hab⟩ := len_three HL2.out
          have hr := HR.out
          rw [hab] at hr
          obtain ⟨p, off, hA, y0, y1, y2⟩ := hr.c3
          clear hr
          have t1 : (0 : Int) < (L.length : Int) := by have := HL2.out; omega
          have t2 : (1 : Int) < (L.length : Int) := by have := HL2.out; omega
          have t3 : (2 : Int) < (L.length : Int) := by have := HL2.out; omega
          have HS : Hid (opL 7 L = if a = 0 ∧ b = d then some b else none) := zzh (by rw [hab]; simp [opL, manyM, opSort])
          subst hA
          clear hab
          by_cases hq : a = 0
          · have d4 : (a == 0) = true := by simp [hq]
            by_cases hp : b = d
            · have d5 : (b == d) = true := by simp [hp]
              rw [if_pos ⟨hq, hp⟩] at HS
              clear hq hp
              go_wp2_with fail
              go_quiet (fail)
              go_wp2
              refine bodyPost_ret (v := .tuple #[.int .i64 b, .int .i64 0]) (by simp [results, Tryz.results73, go_sem]) rfl ?_
              exact OpIs.some HS.out (below_drewN HB.out _)
            · have d5 : (b == d) = false := by simp [hp]
              rw [if_neg (fun h => hp h.2)] at HS
              clear hq hp
              go_wp2_with fail
              go_quiet (fail)
              go_wp2
              refine bodyPost_ret (v := .tuple #[.int .i64 0, .int .i64 33]) (by simp [results, Tryz.results73, go_sem]) rfl ?_
              exact OpIs.none HS.out (by decide) (below_drewN HB.out _)
          · have d4 : (a == 0) = false := by simp [hq]
            rw [if_neg (fun h => hq h.1)] at HS
            clear hq
            go_wp2_with fail
            go_quiet (fail)
            go_wp2
            refine bodyPost_ret (v := .tuple #[.int .i64 0, .int .i64 33]) (by simp [results, Tryz.results73, go_sem]) rfl ?_
            exact OpIs.none HS.out (by decide) (below_drewN HB.out _)
        · have HL2 : Hid ((L.length : Int) = 2) := zzh (by have := HM2.out; simp [manyM] at this; omega)
          have HS := zzh (opL_two (.inr ⟨.inl rfl, rfl⟩) (L := L) (by have := HL2.out; omega) 2 rfl)
          have KA := zzh (alike_ok c 2 1 HR.out)
          obtain ⟨r, hr⟩ : ∃ r, (L.all (fun x => decide (x = 1)) && decide ((L.length : Int) = 2)) = r := ⟨_, rfl⟩
          rw [hr] at HS KA
          clear hr
          go_wp2_with fail
          refine KA.out.mono ?_
          rintro e w2 ⟨rfl, hb2⟩
          have HB2 := zzh (HB.out.trans (hb2.mono HB.out.size))
          clear hb2 KA
          cases r with
          | false =>
            go_wp2
            refine bodyPost_ret (v := .tuple #[.int .i64 0, .int .i64 33]) (by simp [results, Tryz.results73, go_sem]) rfl ?_
            exact OpIs.none (by rw [HS.out]; rfl) (by decide) HB2.out
          | true =>
            go_wp2
            refine bodyPost_ret (v := .tuple #[.int .i64 0, .int .i64 0]) (by simp [results, Tryz.results73, go_sem]) rfl ?_
            exact OpIs.some (by rw [HS.out]; rfl) HB2.out
        · have HL2 : Hid ((L.length : Int) = 2) := zzh (by have := HM2.out; simp [manyM] at this; omega)
          have HS := zzh (opL_two (.inr ⟨.inr (.inl rfl), rfl⟩) (L := L) (by have := HL2.out; omega) 2 rfl)
          have KA := zzh (alike_ok c 2 1 HR.out)
          obtain ⟨r, hr⟩ : ∃ r, (L.all (fun x => decide (x = 1)) && decide ((L.length : Int) = 2)) = r := ⟨_, rfl⟩
          rw [hr] at HS KA
          clear hr
          go_wp2_with fail
          refine KA.out.mono ?_
          rintro e w2 ⟨rfl, hb2⟩
          have HB2 := zzh (HB.out.trans (hb2.mono HB.out.size))
          clear hb2 KA
          cases r with
          | false =>
            go_wp2
            refine bodyPost_ret (v := .tuple #[.int .i64 0, .int .i64 33]) (by simp [results, Tryz.results73, go_sem]) rfl ?_
            exact OpIs.none (by rw [HS.out]; rfl) (by decide) HB2.out
          | true =>
            go_wp2
            refine bodyPost_ret (v := .tuple #[.int .i64 0, .int .i64 0]) (by simp [results, Tryz.results73, go_sem]) rfl ?_
            exact OpIs.some (by rw [HS.out]; rfl) HB2.out
        · have HL2 : Hid ((L.length : Int) = 0) := zzh (by have := HM2.out; simp [manyM] at this; omega)
          have HS : Hid (opL 10 L = some 1) := zzh (by unfold opL; rw [HM.out, if_pos (by have := HL2.out; have := HM.out; have := HL.out; omega)]; rfl)
          go_wp2
          refine bodyPost_ret (v := .tuple #[.int .i64 1, .int .i64 0]) (by simp [results, Tryz.results73, go_sem]) rfl ?_
          exact OpIs.some HS.out HB.out
        · have HL2 : Hid ((L.length : Int) = 1) := zzh (by have := HM2.out; simp [manyM] at this; omega)
          have HS := zzh (opL_one (.inr ⟨rfl, rfl, rfl⟩) (L := L) (by have := HL2.out; omega) 1 rfl)
          have KA := zzh (alike_ok c 1 1 HR.out)
          obtain ⟨r, hr⟩ : ∃ r, (L.all (fun x => decide (x = 1)) && decide ((L.length : Int) = 1)) = r := ⟨_, rfl⟩
          rw [hr] at HS KA
          clear hr
          go_wp2_with fail
          refine KA.out.mono ?_
          rintro e w2 ⟨rfl, hb2⟩
          have HB2 := zzh (HB.out.trans (hb2.mono HB.out.size))
          clear hb2 KA
          cases r with
          | false =>
            go_wp2
            refine bodyPost_ret (v := .tuple #[.int .i64 0, .int .i64 33]) (by simp [results, Tryz.results73, go_sem]) rfl ?_
            exact OpIs.none (by rw [HS.out]; rfl) (by decide) HB2.out
          | true =>
            go_wp2
            refine bodyPost_ret (v := .tuple #[.int .i64 1, .int .i64 0]) (by simp [results, Tryz.results73, go_sem]) rfl ?_
            exact OpIs.some (by rw [HS.out]; rfl) HB2.out
        · have HL2 : Hid ((L.length : Int) = 2) := zzh (by have := HM2.out; simp [manyM] at this; omega)
          have HS := zzh (opL_two (.inr ⟨.inr (.inr rfl), rfl⟩) (L := L) (by have := HL2.out; omega) 2 rfl)
          have KA := zzh (alike_ok c 2 1 HR.out)
          obtain ⟨r, hr⟩ : ∃ r, (L.all (fun x => decide (x = 1)) && decide ((L.length : Int) = 2)) = r := ⟨_, rfl⟩
          rw [hr] at HS KA
          clear hr
          go_wp2_with fail
          refine KA.out.mono ?_
          rintro e w2 ⟨rfl, hb2⟩
          have HB2 := zzh (HB.out.trans (hb2.mono HB.out.size))
          clear hb2 KA
          cases r with
          | false =>
            go_wp2
            refine bodyPost_ret (v := .tuple #[.int .i64 0, .int .i64 33]) (by simp [results, Tryz.results73, go_sem]) rfl ?_
            exact OpIs.none (by rw [HS.out]; rfl) (by decide) HB2.out
          | true =>
            go_wp2
            refine bodyPost_ret (v := .tuple #[.int .i64 0, .int .i64 0]) (by simp [results, Tryz.results73, go_sem]) rfl ?_
            exact OpIs.some (by rw [HS.out]; rfl) HB2.out
      | succ gk =>
        have hlt : i < L.length := by omega
        have d3 : decide ((i : Int) < (L.length : Int)) = true := by simp; omega
        have t1 : (0 : Int) ≤ (i : Int) := by omega
        have t2 : (i : Int) < (L.length : Int) := by omega
        obtain ⟨b, off, rfl, hbb, hcell⟩ := (H.out.below HB.out).at_.resolve_left (by omega)
        have y0 := hcell i hlt
        have hnn := HN.out _ (List.getElem_mem hlt)
        have d4 : decide (L[i] < 0) = false := by simp; omega
        clear hcell
        generalize L[i] = q at *
        go_wp2
        go_roundg gk
        case measure => omega
        case rel => exact ⟨i + 1, by omega, by go_num, HB.out⟩
end Go.Proofs.YtlipnnibagidiaaGreat

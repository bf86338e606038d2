/- Clauses that came in; Great. -/
import Derived.Test.YtnfeggeahnjdeaaLrnF
import Derived.Test.YtnfeggeahnjdeaaOpen
import Derived.Deep.Matrix
namespace Go.Proofs.Ytnfeggeahnjdeaa
open Go.RowKit Go.Lib

/-- What a walk is told of a slice of slices of integers that came in. -/
def IsGrid (w : World) (a : Option Addr) (len cap : Nat) (A : Nat → Option Addr) (L C : Nat → Nat) (Z : Nat → List Int) : Prop :=
  (a = none ∧ len = 0 ∧ cap = 0) ∨
  ∃ x, a = some x ∧ len ≤ cap ∧ cap ≤ maxLen ∧ ∀ r, r < cap → w.cell? (x.add r) = some (.slice (A r) (L r) (C r)) ∧ L r ≤ C r ∧ C r ≤ maxLen ∧ (Z r).length = C r ∧ (∀ n ∈ Z r, (Lit.int .i64 n).wf = true) ∧ (A r = none → C r = 0) ∧
    ∀ a', A r = some a' → ∀ c, c < C r → w.cell? (a'.add c) = some (.int .i64 ((Z r).getD c 0))

theorem isGrid_of {H : Type} {enc : TypeId × Value → H} {P : Program} {W : World} {b : Nat} {hd : Bool} {t e q : TypeId} {a : Option Addr} {len cap : Nat} {d : DataW H} {p : List MemPlace}
    (ht : P.underlying t = some (.slice e)) (he : P.underlying e = some (.slice q)) (hq : P.underlying q = some (.int .i64)) (ce : P.cellsOf e = 1) (cq : P.cellsOf q = 1) (h : DataW.Trod enc P W b (fun _ => true) hd t (.slice a len cap) d p) : ∃ A L C Z, IsGrid W a len cap A L C Z := by
  obtain ⟨fuel, hf⟩ := h
  rcases Go.Deep.open_int_rows ht he hq ce cq hf with ⟨hcs, _⟩ | ⟨x, l, c, A, L, C, Z, hcs, _, hl, hm, _, hcell⟩
  · simp [Value.cells] at hcs
    obtain ⟨rfl, rfl, rfl⟩ := hcs
    exact ⟨fun _ => none, fun _ => 0, fun _ => 0, fun _ => [], .inl ⟨rfl, rfl, rfl⟩⟩
  · simp [Value.cells] at hcs
    obtain ⟨rfl, rfl, rfl⟩ := hcs
    refine ⟨A, L, C, Z, .inr ⟨_, rfl, hl, hm, fun r hr => ?_⟩⟩
    obtain ⟨h1, h2, h3, h4, h5, h6, h7⟩ := hcell r hr
    exact ⟨h1, h2, h3, h4, h5, h6, fun a' ha => (h7 a' ha).2⟩

/-- What is not great. -/
def NotGreat (len : Nat) (L : Nat → Nat) (Z : Nat → List Int) (b : Bool) : Prop := b = false → len ≤ 80 ∧ ∀ r, r < len → L r ≤ 20 ∧ ∀ c, c < L r → (Z r).getD c 0 ≤ 4096
def GreatPost (len : Nat) (L : Nat → Nat) (Z : Nat → List Int) (w : World) (e : Ending) (w' : World) : Prop := ∃ b : Bool, e = .returned (.bool b) ∧ w = w' ∧ NotGreat len L Z b
theorem GreatPost.yes (len : Nat) (L : Nat → Nat) (Z : Nat → List Int) (w : World) : GreatPost len L Z w (.returned (.bool true)) w := ⟨true, rfl, rfl, fun h => by cases h⟩

set_option maxHeartbeats 1000000 in
theorem great15_ok {w : World} {a : Option Addr} {len cap : Nat} {A : Nat → Option Addr} {L C : Nat → Nat} {Z : Nat → List Int} (h : IsGrid w a len cap A L C Z) :
    Calls Try.prog 5 #[.slice a len cap] w (GreatPost len L Z w) := by
  have hlm : len ≤ maxLen := by
    rcases h with ⟨_, rfl, _⟩ | ⟨_, _, h1, h2, _⟩
    · exact Nat.zero_le _
    · omega
  unfold maxLen at hlm
  have H := Lib.hid h
  clear h
  by_cases h80 : 80 < len
  · have d1 : decide ((80 : Int) < (len : Int)) = true := by simp; omega
    clear h80
    go_enter Try.func5, Try.ntmps5
    go_wp2
    go_ret
    exact GreatPost.yes _ _ _ _
  have d1 : decide ((80 : Int) < (len : Int)) = false := by simp; omega
  go_enter Try.func5, Try.ntmps5
  go_wp2
  go_loopg [3] len (fun g v wx => w = wx ∧ ∃ i : Nat, i + g = len ∧ v = .int .i64 i ∧ ∀ r, r < i → L r ≤ 20 ∧ ∀ c, c < L r → (Z r).getD c 0 ≤ 4096)
  case atStart => exact ⟨rfl, 0, by omega, rfl, fun r hr => by omega⟩
  case round =>
    obtain ⟨rfl, i, hig, rfl, hall⟩ := hrel
    have Hall := Lib.hid hall
    clear hall
    cases gk with
    | zero =>
      have d2 : decide ((i : Int) < len) = false := by simp; omega
      obtain rfl : i = len := by omega
      have hfin : GreatPost i L Z w (.returned (.bool false)) w := ⟨false, rfl, rfl, fun _ => ⟨by omega, Hall.out⟩⟩
      have Hfin := Lib.hid hfin
      clear hfin
      go_wp2
      go_ret
      exact Hfin.out
    | succ n =>
      have hin : i < len := by omega
      have d2 : decide ((i : Int) < len) = true := by simp; omega
      obtain ⟨x, rfl, hlc, hcm, hcell⟩ := H.out.resolve_left (by omega)
      obtain ⟨c0, hLC, hCm, hZ, _, hnone, hrow⟩ := hcell i (by omega)
      have t1 : (0 : Int) ≤ (i : Int) := by omega
      have t2 : (i : Int) < (len : Int) := by omega
      have Hrow := Lib.hid hrow
      have Hnone := Lib.hid hnone
      have HZ := Lib.hid hZ
      have HLC := Lib.hid hLC
      clear hcell hrow hnone hZ hlc hcm
      generalize hLi : L i = li at *
      have HLi := Lib.hid hLi
      clear hLi
      by_cases h20 : 20 < li
      · have d3 : decide ((20 : Int) < (li : Int)) = true := by simp; omega
        have hli : li ≤ 9223372036854775807 := by have := HLC.out; unfold maxLen at hCm; omega
        clear h20
        go_wp2
        go_ret
        exact GreatPost.yes _ _ _ _
      have d3 : decide ((20 : Int) < (li : Int)) = false := by simp; omega
      have hfin := fun (h : ∀ c, c < li → (Z i).getD c 0 ≤ 4096) => (show ∀ r, r < i + 1 → L r ≤ 20 ∧ ∀ c, c < L r → (Z r).getD c 0 ≤ 4096 from fun r hr => by
        by_cases e : r = i
        · subst e
          rw [HLi.out]
          exact ⟨by omega, h⟩
        · exact Hall.out r (by omega))
      have Hfin := Lib.hid hfin
      clear hfin
      go_wp2
      go_loopg [4] li (fun g v wx => w = wx ∧ ∃ k : Nat, k + g = li ∧ v = .int .i64 k ∧ ∀ c, c < k → (Z i).getD c 0 ≤ 4096)
      case atStart => exact ⟨rfl, 0, by omega, rfl, fun c hc => by omega⟩
      case round =>
        obtain ⟨rfl, k, hkg, rfl, hks⟩ := hrel
        have Hks := Lib.hid hks
        clear hks
        cases gk with
        | zero =>
          have d4 : decide ((k : Int) < li) = false := by simp; omega
          obtain rfl : k = li := by omega
          go_wp2
          go_roundg n
          case measure => omega
          case rel => exact ⟨rfl, i + 1, by omega, by go_num, Hfin.out Hks.out⟩
        | succ m =>
          have d4 : decide ((k : Int) < li) = true := by simp; omega
          obtain ⟨a', ha⟩ : ∃ a', A i = some a' := by
            cases hA : A i with
            | none => have := Hnone.out hA; have := HLC.out; omega
            | some a' => exact ⟨a', rfl⟩
          have y0 := Hrow.out a' ha k (by have := HLC.out; omega)
          rw [ha] at c0
          have t3 : (0 : Int) ≤ (k : Int) := by omega
          have t4 : (k : Int) < (li : Int) := by omega
          have hstep : (Z i).getD k 0 ≤ 4096 → ∀ c, c < k + 1 → (Z i).getD c 0 ≤ 4096 := fun h c hc => by
            by_cases e : c = k
            · rw [e]; exact h
            · exact Hks.out c (by omega)
          have Hstep := Lib.hid hstep
          clear ha hstep
          generalize (Z i).getD k 0 = z at *
          by_cases hz : 4096 < z
          · have d5 : decide ((4096 : Int) < z) = true := decide_eq_true hz
            clear hz
            go_wp2
            go_ret
            exact GreatPost.yes _ _ _ _
          · have d5 : decide ((4096 : Int) < z) = false := decide_eq_false hz
            have Hz := Lib.hid (show z ≤ 4096 by omega)
            clear hz
            go_wp2
            go_roundg m
            case measure => omega
            case rel => exact ⟨rfl, k + 1, by omega, by go_num, Hstep.out Hz.out⟩
theorem IsRow.row {k : IntKind} {w : World} {A : Option Addr} {l c : Nat} {z : List Int} (h : IsRow k w A l c z) (hl : l ≤ 1000000) :
    (z.take l).length = l ∧ Row k w A (z.take l) ∧ (A = none → c = 0) ∧ ∀ x ∈ z.take l, (Lit.int k x).wf = true := by
  rcases h with ⟨rfl, rfl, rfl, rfl⟩ | ⟨x, rfl, h1, h2, h3, h4, h5⟩
  · exact ⟨rfl, ⟨by simp, .inl rfl⟩, fun _ => rfl, fun x hx => by cases hx⟩
  · have hlen : (z.take l).length = l := by rw [List.length_take]; omega
    refine ⟨hlen, ⟨by rw [hlen]; exact hl, ?_⟩, (fun h => by cases h), fun y hy => h5 y (List.mem_of_mem_take hy)⟩
    rcases Nat.eq_zero_or_pos l with h0 | h0
    · exact .inl (by rw [hlen, h0])
    · have c0 := h4 0 (by omega)
      have hs : x.spot = none := World.cell?_spot (by simpa [Addr.add] using c0)
      obtain ⟨b, off, sp⟩ := x
      cases hs
      refine .inr ⟨b, off, rfl, World.block_lt_of_cell? _ _ (by simpa [Addr.add] using c0), fun i hi => ?_⟩
      have hi' : i < l := by rw [hlen] at hi; exact hi
      have e1 : (⟨b, off, none⟩ : Addr).add i = ⟨b, off + i, none⟩ := by unfold Addr.add; split <;> simp_all
      rw [← e1, h4 i (by omega), List.getElem_take, List.getD_eq_getElem?_getD, List.getElem?_eq_getElem (by omega)]
      rfl
theorem wf_le {x : Int} (h : (Lit.int .i64 x).wf = true) : x ≤ 9223372036854775807 := by
  simp [Lit.wf, IntKind.min, IntKind.max, IntKind.bits, IntKind.signed] at h
  omega
/-- The rows that came in. -/
def gridRows (len : Nat) (A : Nat → Option Addr) (L C : Nat → Nat) (Z : Nat → List Int) : List (Option Addr × Nat × List Int) := (List.range len).map fun r => (A r, C r, (Z r).take (L r))
theorem IsGrid.isRow {w : World} {a : Option Addr} {len cap : Nat} {A : Nat → Option Addr} {L C : Nat → Nat} {Z : Nat → List Int} (h : IsGrid w a len cap A L C Z) {r : Nat} (hr : r < len) : IsRow .i64 w (A r) (L r) (C r) (Z r) := by
  rcases h with ⟨_, rfl, _⟩ | ⟨x, _, h1, h2, h3⟩
  · omega
  · obtain ⟨g1, g2, g3, g4, g5, g6, g7⟩ := h3 r (by omega)
    cases hA : A r with
    | none =>
      have := g6 hA
      exact .inl ⟨rfl, by omega, this, List.eq_nil_of_length_eq_zero (by omega)⟩
    | some a' => exact .inr ⟨a', rfl, g2, g3, g4, fun i hi => g7 a' hA i (by omega), g5⟩
theorem IsGrid.grid {w : World} {a : Option Addr} {len cap : Nat} {A : Nat → Option Addr} {L C : Nat → Nat} {Z : Nat → List Int} (h : IsGrid w a len cap A L C Z) (hl : len ≤ 1000000) (hL : ∀ r, r < len → L r ≤ 1000000) : (gridRows len A L C Z).length = len ∧ Grid w a (gridRows len A L C Z) := by
  have hlen : (gridRows len A L C Z).length = len := by unfold gridRows; rw [List.length_map, List.length_range]
  refine ⟨hlen, ⟨by rw [hlen]; exact hl, ?_⟩⟩
  rcases Nat.eq_zero_or_pos len with h0 | h0
  · exact .inl (by rw [hlen, h0])
  rcases id h with ⟨_, rfl, _⟩ | ⟨x, rfl, h1, h2, h3⟩
  · omega
  have c0 := (h3 0 (by omega)).1
  have hs : x.spot = none := World.cell?_spot (by simpa [Addr.add] using c0)
  obtain ⟨b, off, sp⟩ := x
  cases hs
  refine .inr ⟨b, off, rfl, World.block_lt_of_cell? _ _ (by simpa [Addr.add] using c0), fun k hk => ?_⟩
  have hk' : k < len := by rw [hlen] at hk; exact hk
  have e : (gridRows len A L C Z)[k] = (A k, C k, (Z k).take (L k)) := by simp [gridRows]
  rw [e]
  obtain ⟨r1, r2, r3, _⟩ := (h.isRow hk').row (hL k hk')
  refine ⟨?_, r2, r3⟩
  have e1 : (⟨b, off, none⟩ : Addr).add k = ⟨b, off + k, none⟩ := by unfold Addr.add; split <;> simp_all
  rw [← e1, (h3 k (by omega)).1, r1]
theorem grid_mem {len : Nat} {A : Nat → Option Addr} {L C : Nat → Nat} {Z : Nat → List Int} {r : Option Addr × Nat × List Int} (h : r ∈ gridRows len A L C Z) : ∃ k, k < len ∧ r = (A k, C k, (Z k).take (L k)) := by
  obtain ⟨k, hk, rfl⟩ := List.mem_map.1 h
  exact ⟨k, List.mem_range.1 hk, rfl⟩
theorem take_le {z : List Int} {l : Nat} {m : Int} (h : ∀ i, i < l → z.getD i 0 ≤ m) : ∀ x ∈ z.take l, x ≤ m := by
  intro x hx
  obtain ⟨i, hi, rfl⟩ := List.mem_iff_getElem.1 hx
  rw [List.length_take] at hi
  have := h i (by omega)
  rw [List.getD_eq_getElem?_getD, List.getElem?_eq_getElem (by omega)] at this
  rw [List.getElem_take]
  exact this
/-- Clauses that came in and are not great. -/
structure TameG (w : World) (A : Option Addr) (c : Nat) (R : List (Option Addr × Nat × List Int)) : Prop where
  grid : Grid w A R
  nil : A = none → c = 0
  cap : R.length ≤ c
  r80 : R.length ≤ 80
  each : ∀ r ∈ R, r.2.2.length ≤ 20 ∧ ∀ x ∈ r.2.2, x ≤ 4096
theorem tameG {w : World} {a : Option Addr} {len cap : Nat} {A : Nat → Option Addr} {L C : Nat → Nat} {Z : Nat → List Int} (h : IsGrid w a len cap A L C Z) (hn : len ≤ 80 ∧ ∀ r, r < len → L r ≤ 20 ∧ ∀ c, c < L r → (Z r).getD c 0 ≤ 4096) :
    ∃ R, R.length = len ∧ TameG w a cap R := by
  obtain ⟨hl, hg⟩ := h.grid (by omega) (fun r hr => by have := (hn.2 r hr).1; omega)
  refine ⟨gridRows len A L C Z, hl, ⟨hg, ?_, ?_, by omega, ?_⟩⟩
  · intro ha
    rcases h with ⟨_, _, h2⟩ | ⟨x, h0, _⟩
    · exact h2
    · rw [ha] at h0; cases h0
  · rw [hl]
    rcases h with ⟨_, h1, h2⟩ | ⟨x, h0, h1, _⟩
    · omega
    · exact h1
  · intro r hr
    obtain ⟨k, hk, rfl⟩ := grid_mem hr
    have := hn.2 k hk
    exact ⟨by rw [List.length_take]; omega, take_le this.2⟩
theorem TameG.max {w : World} {A : Option Addr} {c : Nat} {R : List (Option Addr × Nat × List Int)} (h : TameG w A c R) : ∀ r ∈ R, ∀ x ∈ r.2.2, x ≤ 9223372036854775807 := fun r hr x hx => by have := (h.each r hr).2 x hx; omega
theorem TameG.short {w : World} {A : Option Addr} {c : Nat} {R : List (Option Addr × Nat × List Int)} (h : TameG w A c R) : ∀ r ∈ R, r.2.2.length ≤ 1000 := fun r hr => by have := (h.each r hr).1; omega
theorem TameG.below {w w' : World} {A : Option Addr} {c : Nat} {R : List (Option Addr × Nat × List Int)} (h : TameG w A c R) (hb : Below w.heap.size w w') : TameG w' A c R := ⟨h.grid.below hb, h.nil, h.cap, h.r80, h.each⟩

end Go.Proofs.Ytnfeggeahnjdeaa

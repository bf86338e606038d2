/- great; clauses that are not great. -/
import Derived.Test.YtfkjojogkdlcgaaUnF
namespace Go.Proofs.Ytfkjojogkdlcgaa
open Go.RowKit Go.Lib

theorem IsRow.lenMax {k : IntKind} {w : World} {a : Option Addr} {len cap : Nat} {z : List Int} (h : IsRow k w a len cap z) : len ≤ 9223372036854775807 := by
  rcases h with ⟨_, rfl, _⟩ | ⟨_, _, h1, h2, _⟩
  · exact Nat.zero_le _
  · unfold maxLen at h2; omega
theorem IsGrid.lenMax {w : World} {a : Option Addr} {len cap : Nat} {A : Nat → Option Addr} {L C : Nat → Nat} {Z : Nat → List Int} (h : IsGrid w a len cap A L C Z) : len ≤ 9223372036854775807 := by
  rcases h with ⟨_, rfl, _⟩ | ⟨_, _, h1, h2, _⟩
  · exact Nat.zero_le _
  · unfold maxLen at h2; omega
structure Small (len : Nat) (L : Nat → Nat) (Z : Nat → List Int) (gl : Nat) (z : List Int) : Prop where
  l80 : len ≤ 80
  g200 : gl ≤ 200
  rows : ∀ r, r < len → L r ≤ 20 ∧ ∀ c, c < L r → (Z r).getD c 0 ≤ 4000
  given : ∀ i, i < gl → z.getD i 0 ≤ 4000
def Great2Post (len : Nat) (L : Nat → Nat) (Z : Nat → List Int) (gl : Nat) (z : List Int) (w : World) (e : Ending) (w' : World) : Prop := ∃ b : Bool, e = .returned (.bool b) ∧ w = w' ∧ (b = false → Small len L Z gl z)
theorem Great2Post.yes (len : Nat) (L : Nat → Nat) (Z : Nat → List Int) (gl : Nat) (z : List Int) (w : World) : Great2Post len L Z gl z w (.returned (.bool true)) w := ⟨true, rfl, rfl, fun h => by cases h⟩

set_option maxHeartbeats 1000000 in
theorem great16_ok {w : World} {a : Option Addr} {len cap : Nat} {A : Nat → Option Addr} {L C : Nat → Nat} {Z : Nat → List Int} (h : IsGrid w a len cap A L C Z) {ga : Option Addr} {gl gc : Nat} {z : List Int} (k : IsRow .i64 w ga gl gc z) :
    Calls Try.prog 10 #[.slice a len cap, .slice ga gl gc] w (Great2Post len L Z gl z w) := by
  have hlm := h.lenMax
  have hgm := k.lenMax
  have H := Lib.hid h
  have K := Lib.hid k
  clear h k
  go_enter Try.func10, Try.ntmps10
  go_wp2_with (go_at_call 25; (with_reducible refine (great15_ok H.out).mono ?_); rintro e w1 ⟨bb, rfl, rfl, hbb⟩; have HBB := Lib.hid hbb; clear hbb; cases bb)
  · go_ret
    exact Great2Post.yes _ _ _ _ _ _
  rotate_left
  · go_ret
    exact Great2Post.yes _ _ _ _ _ _
  have hg200 : gl ≤ 200 := by
    have : (gl : Int) ≤ 200 := by assumption
    omega
  go_loopg [5] gl (fun g v wx => w = wx ∧ ∃ i : Nat, i + g = gl ∧ v = .int .i64 i ∧ ∀ c, c < i → z.getD c 0 ≤ 4000)
  case atStart => exact ⟨rfl, 0, by omega, rfl, fun c hc => by omega⟩
  case round =>
    obtain ⟨rfl, i, hig, rfl, hgs⟩ := hrel
    have Hgs := Lib.hid hgs
    clear hgs
    cases gk with
    | succ m =>
      have d4 : decide ((i : Int) < gl) = true := by simp; omega
      obtain ⟨x, rfl, h1, h2, h3, h4, h5⟩ := K.out.resolve_left (by omega)
      have y0 := h4 i (by omega)
      have t3 : (0 : Int) ≤ (i : Int) := by omega
      have t4 : (i : Int) < (gl : Int) := by omega
      have hstep : z.getD i 0 ≤ 4000 → ∀ c, c < i + 1 → z.getD c 0 ≤ 4000 := fun h c hc => by
        by_cases e : c = i
        · rw [e]; exact h
        · exact Hgs.out c (by omega)
      have Hstep := Lib.hid hstep
      clear hstep h1 h2 h3 h4 h5
      generalize z.getD i 0 = y at *
      by_cases hz : 4000 < y
      · have d5 : decide ((4000 : Int) < y) = true := decide_eq_true hz
        clear hz
        go_wp2
        go_ret
        exact Great2Post.yes _ _ _ _ _ _
      · have d5 : decide ((4000 : Int) < y) = false := decide_eq_false hz
        have Hz := Lib.hid (show y ≤ 4000 by omega)
        clear hz
        go_wp2
        go_roundg m
        case measure => omega
        case rel => exact ⟨rfl, i + 1, by omega, by go_num, Hstep.out Hz.out⟩
    | zero =>
      have d4 : decide ((i : Int) < gl) = false := by simp; omega
      obtain rfl : i = gl := by omega
      have HN := HBB.out rfl
      have h80 := HN.1
      have HNG := Lib.hid HN
      clear HN
      go_wp2
      go_loopg [6, 7] len (fun g v _ wx => w = wx ∧ ∃ i : Nat, i + g = len ∧ v = .int .i64 i ∧ ∀ r, r < i → L r ≤ 20 ∧ ∀ c, c < L r → (Z r).getD c 0 ≤ 4000)
      case atStart => exact ⟨rfl, 0, by omega, rfl, fun r hr => by omega⟩
      case round =>
        obtain ⟨rfl, r, hrg, rfl, hall⟩ := hrel
        have Hall := Lib.hid hall
        clear hall
        cases gk with
        | zero =>
          have d2 : decide ((r : Int) < len) = false := by simp; omega
          obtain rfl : r = len := by omega
          have hfin : Great2Post r L Z i z w (.returned (.bool false)) w := ⟨false, rfl, rfl, fun _ => ⟨h80, hg200, Hall.out, Hgs.out⟩⟩
          have Hfin := Lib.hid hfin
          clear hfin
          go_wp2
          go_ret
          exact Hfin.out
        | succ n =>
          have hin : r < len := by omega
          have d2 : decide ((r : Int) < len) = true := by simp; omega
          obtain ⟨x, rfl, hlc, hcm, hcell⟩ := H.out.resolve_left (by omega)
          obtain ⟨c0, hLC, hCm, hZ, _, hnone, hrow⟩ := hcell r (by omega)
          have t1 : (0 : Int) ≤ (r : Int) := by omega
          have t2 : (r : Int) < (len : Int) := by omega
          have h20 := (HNG.out.2 r hin).1
          have Hrow := Lib.hid hrow
          have Hnone := Lib.hid hnone
          have HZ := Lib.hid hZ
          have HLC := Lib.hid hLC
          clear hcell hrow hnone hZ hlc hcm
          generalize hLi : L r = li at *
          have HLi := Lib.hid hLi
          clear hLi
          have hfin := fun (h : ∀ c, c < li → (Z r).getD c 0 ≤ 4000) => (show ∀ s, s < r + 1 → L s ≤ 20 ∧ ∀ c, c < L s → (Z s).getD c 0 ≤ 4000 from fun s hs => by
            by_cases e : s = r
            · subst e
              rw [HLi.out]
              exact ⟨by omega, h⟩
            · exact Hall.out s (by omega))
          have Hfin := Lib.hid hfin
          clear hfin
          go_wp2
          go_loopg [7] li (fun g v wx => w = wx ∧ ∃ k : Nat, k + g = li ∧ v = .int .i64 k ∧ ∀ c, c < k → (Z r).getD c 0 ≤ 4000)
          case atStart => exact ⟨rfl, 0, by omega, rfl, fun c hc => by omega⟩
          case round =>
            obtain ⟨rfl, k, hkg, rfl, hks⟩ := hrel
            have Hks := Lib.hid hks
            clear hks
            cases gk with
            | zero =>
              have d4 : decide ((k : Int) < li) = false := by simp; omega
              obtain rfl : k = li := by omega
              go_wp2
              go_roundg n
              case measure => omega
              case rel => exact ⟨rfl, r + 1, by omega, by go_num, Hfin.out Hks.out⟩
            | succ m =>
              have d4 : decide ((k : Int) < li) = true := by simp; omega
              obtain ⟨a', ha⟩ : ∃ a', A r = some a' := by
                cases hA : A r with
                | none => have := Hnone.out hA; have := HLC.out; omega
                | some a' => exact ⟨a', rfl⟩
              have y0 := Hrow.out a' ha k (by have := HLC.out; omega)
              rw [ha] at c0
              have t3 : (0 : Int) ≤ (k : Int) := by omega
              have t4 : (k : Int) < (li : Int) := by omega
              have hstep : (Z r).getD k 0 ≤ 4000 → ∀ c, c < k + 1 → (Z r).getD c 0 ≤ 4000 := fun h c hc => by
                by_cases e : c = k
                · rw [e]; exact h
                · exact Hks.out c (by omega)
              have Hstep := Lib.hid hstep
              clear ha hstep
              generalize (Z r).getD k 0 = y at *
              by_cases hz : 4000 < y
              · have d5 : decide ((4000 : Int) < y) = true := decide_eq_true hz
                clear hz
                go_wp2
                go_ret
                exact Great2Post.yes _ _ _ _ _ _
              · have d5 : decide ((4000 : Int) < y) = false := decide_eq_false hz
                have Hz := Lib.hid (show y ≤ 4000 by omega)
                clear hz
                go_wp2
                go_roundg m
                case measure => omega
                case rel => exact ⟨rfl, k + 1, by omega, by go_num, Hstep.out Hz.out⟩

/-- A slice of integers that came in, as a row. -/
theorem IsRow.row {k : IntKind} {w : World} {A : Option Addr} {l c : Nat} {z : List Int} (h : IsRow k w A l c z) (hl : l ≤ 1000000) :
    (z.take l).length = l ∧ Row k w A (z.take l) ∧ (A = none → c = 0) ∧ ∀ x ∈ z.take l, (Lit.int k x).wf = true := by
  rcases h with ⟨rfl, rfl, rfl, rfl⟩ | ⟨x, rfl, h1, h2, h3, h4, h5⟩
  · exact ⟨rfl, ⟨by simp, .inl rfl⟩, fun _ => rfl, fun x hx => by cases hx⟩
  · have hlen : (z.take l).length = l := by rw [List.length_take]; omega
    refine ⟨hlen, ⟨by rw [hlen]; exact hl, ?_⟩, (fun h => by cases h), fun y hy => h5 y (List.mem_of_mem_take hy)⟩
    rcases Nat.eq_zero_or_pos l with h0 | h0
    · exact .inl (by rw [hlen, h0])
    · have c0 := h4 0 (by omega)
      have hs : x.spot = none := World.cell?_spot (by simpa [Addr.add] using c0)
      obtain ⟨b, off, sp⟩ := x
      cases hs
      refine .inr ⟨b, off, rfl, World.block_lt_of_cell? _ _ (by simpa [Addr.add] using c0), fun i hi => ?_⟩
      have hi' : i < l := by rw [hlen] at hi; exact hi
      have e1 : (⟨b, off, none⟩ : Addr).add i = ⟨b, off + i, none⟩ := by unfold Addr.add; split <;> simp_all
      rw [← e1, h4 i (by omega), List.getElem_take, List.getD_eq_getElem?_getD, List.getElem?_eq_getElem (by omega)]
      rfl
theorem wf_le {x : Int} (h : (Lit.int .i64 x).wf = true) : x ≤ 9223372036854775807 := by
  simp [Lit.wf, IntKind.min, IntKind.max, IntKind.bits, IntKind.signed] at h
  omega
/-- The rows that came in. -/
def gridRows (len : Nat) (A : Nat → Option Addr) (L C : Nat → Nat) (Z : Nat → List Int) : List (Option Addr × Nat × List Int) := (List.range len).map fun r => (A r, C r, (Z r).take (L r))
theorem IsGrid.isRow {w : World} {a : Option Addr} {len cap : Nat} {A : Nat → Option Addr} {L C : Nat → Nat} {Z : Nat → List Int} (h : IsGrid w a len cap A L C Z) {r : Nat} (hr : r < len) : IsRow .i64 w (A r) (L r) (C r) (Z r) := by
  rcases h with ⟨_, rfl, _⟩ | ⟨x, _, h1, h2, h3⟩
  · omega
  · obtain ⟨g1, g2, g3, g4, g5, g6, g7⟩ := h3 r (by omega)
    cases hA : A r with
    | none =>
      have := g6 hA
      exact .inl ⟨rfl, by omega, this, List.eq_nil_of_length_eq_zero (by omega)⟩
    | some a' => exact .inr ⟨a', rfl, g2, g3, g4, fun i hi => g7 a' hA i (by omega), g5⟩
theorem IsGrid.grid {w : World} {a : Option Addr} {len cap : Nat} {A : Nat → Option Addr} {L C : Nat → Nat} {Z : Nat → List Int} (h : IsGrid w a len cap A L C Z) (hl : len ≤ 1000000) (hL : ∀ r, r < len → L r ≤ 1000000) : (gridRows len A L C Z).length = len ∧ Grid w a (gridRows len A L C Z) := by
  have hlen : (gridRows len A L C Z).length = len := by unfold gridRows; rw [List.length_map, List.length_range]
  refine ⟨hlen, ⟨by rw [hlen]; exact hl, ?_⟩⟩
  rcases Nat.eq_zero_or_pos len with h0 | h0
  · exact .inl (by rw [hlen, h0])
  rcases id h with ⟨_, rfl, _⟩ | ⟨x, rfl, h1, h2, h3⟩
  · omega
  have c0 := (h3 0 (by omega)).1
  have hs : x.spot = none := World.cell?_spot (by simpa [Addr.add] using c0)
  obtain ⟨b, off, sp⟩ := x
  cases hs
  refine .inr ⟨b, off, rfl, World.block_lt_of_cell? _ _ (by simpa [Addr.add] using c0), fun k hk => ?_⟩
  have hk' : k < len := by rw [hlen] at hk; exact hk
  have e : (gridRows len A L C Z)[k] = (A k, C k, (Z k).take (L k)) := by simp [gridRows]
  rw [e]
  obtain ⟨r1, r2, r3, _⟩ := (h.isRow hk').row (hL k hk')
  refine ⟨?_, r2, r3⟩
  have e1 : (⟨b, off, none⟩ : Addr).add k = ⟨b, off + k, none⟩ := by unfold Addr.add; split <;> simp_all
  rw [← e1, (h3 k (by omega)).1, r1]
theorem grid_mem {len : Nat} {A : Nat → Option Addr} {L C : Nat → Nat} {Z : Nat → List Int} {r : Option Addr × Nat × List Int} (h : r ∈ gridRows len A L C Z) : ∃ k, k < len ∧ r = (A k, C k, (Z k).take (L k)) := by
  obtain ⟨k, hk, rfl⟩ := List.mem_map.1 h
  exact ⟨k, List.mem_range.1 hk, rfl⟩
theorem take_le {z : List Int} {l : Nat} {m : Int} (h : ∀ i, i < l → z.getD i 0 ≤ m) : ∀ x ∈ z.take l, x ≤ m := by
  intro x hx
  obtain ⟨i, hi, rfl⟩ := List.mem_iff_getElem.1 hx
  rw [List.length_take] at hi
  have := h i (by omega)
  rw [List.getD_eq_getElem?_getD, List.getElem?_eq_getElem (by omega)] at this
  rw [List.getElem_take]
  exact this
end Go.Proofs.Ytfkjojogkdlcgaa

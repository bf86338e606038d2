/- The reference's side (L16/UnB L16/UnD L17/UnE L16/UnF L17/UnG L17/UnH L17/UnI), for layer 21's seat. -/
import Derived.Deep.RegionHeldLaw
import Derived.WalkMore
import Derived.Deep.Matrix
import Derived.Test.YtmbekchnfbmhbaaGreatRfA
namespace Go.Proofs.YtmbekchnfbmhbaaGreat
section
open Go.RowKit Go.Lib
def afterSet (lits : List Int) (lit : Int) : List Int := if valL lits lit = 0 then lits ++ [lit] else lits
theorem set_zero {lits : List Int} {lit : Int} {q : Nat} (hq : lit / 2 = q) : valL lits (2 * q) = 0 ↔ valL lits lit = 0 := by
  rw [valL_zero, valL_zero]
  by_cases hp : lit % 2 = 0
  · have : 2 * (q : Int) = lit := by omega
    rw [this]
  · have e : 2 * (q : Int) = negM lit := by unfold negM; rw [if_neg hp]; omega
    rw [e, negM_negM]
    exact ⟨fun ⟨a, b⟩ => ⟨b, a⟩, fun ⟨a, b⟩ => ⟨b, a⟩⟩
theorem own_setFar {w : World} {base n g i : Nat} {e : TypeId} {size : Nat} {v : Value} {xs : List Value} (h : w.ownsRow base e size v n xs) (hne : v.ownBlock ≠ some g) (u : Value) : (w.setCell ⟨g, i, none⟩ u).ownsRow base e size v n xs :=
  own_kept h (Kept.set1 w g i u) fun b hb hb2 => hne (by rw [hb]; exact congrArg some hb2)
end
section
open Go.RowKit Go.Lib
theorem small_nodup : ∀ (N : Nat) (l : List Nat), l.Nodup → (∀ x ∈ l, x < N) → l.length ≤ N
  | 0, [], _, _ => Nat.le_refl _
  | 0, x :: _, _, h => absurd (h x List.mem_cons_self) (Nat.not_lt_zero _)
  | N + 1, l, hn, h => by
    have h1 := small_nodup N (l.erase N) (hn.erase N) fun x hx => by
      have := (hn.mem_erase_iff).1 hx
      have := h x this.2
      omega
    rw [List.length_erase] at h1
    split at h1 <;> omega
theorem LitsOk.len {lits : List Int} (h : LitsOk lits) : lits.length ≤ 524289 := by
  have h1 := small_nodup 524289 (lits.map fun x => (x / 2).toNat) (by
    refine List.pairwise_map.2 (List.Pairwise.imp_of_mem ?_ h.dis)
    intro a b ha hb hne e
    have := h.rng a ha
    have := h.rng b hb
    omega) (fun x hx => by
    obtain ⟨y, hy, rfl⟩ := List.mem_map.1 hx
    have := h.rng y hy
    omega)
  rw [List.length_map] at h1
  exact h1
theorem own_grown {w w' : World} {base n : Nat} {e : TypeId} {size : Nat} {v : Value} {xs : List Value} {row : Option Nat} (h : w.ownsRow base e size v n xs) (hg : w.grownBy w' row) (hne : ∀ g, v.ownBlock = some g → some g ≠ row) : w'.ownsRow base e size v n xs := by
  refine ⟨h.1, ?_⟩
  rcases h.2 with hn | ⟨g, cap, cur, rfl, hb, hgg, rest⟩
  · exact .inl hn
  · refine .inr ⟨g, cap, cur, rfl, hb, ?_, rest⟩
    rw [hg.block g (Array.getElem?_eq_some_iff.1 hgg).1 (hne g rfl)]
    exact hgg
end
section
open Go.RowKit Go.Lib
theorem mem_drop_cons {zs : List Int} {i : Nat} (h : i < zs.length) (x : Int) : (x ∈ zs.drop i) ↔ (zs[i] = x ∨ x ∈ zs.drop (i + 1)) := by
  rw [List.drop_eq_getElem_cons h, List.mem_cons]
  exact or_congr ⟨fun h => h.symm, fun h => h.symm⟩ Iff.rfl

theorem has_ok {w : World} {A : Option Addr} {zs : List Int} (cap : Nat) (h : Row .i64 w A zs) (x : Int) :
    Calls Tryz.prog 60 #[.slice A zs.length cap, .int .i64 x] w fun e w' => e = .returned (.bool (decide (x ∈ zs))) ∧ w = w' := by
  have hlen := h.len
  have H := Lib.hid h
  clear h
  go_enter Tryz.func60, Tryz.ntmps60
  go_wp2
  go_loopg [5] zs.length (fun g v wx => w = wx ∧ ∃ i : Nat, i + g = zs.length ∧ v = .int .i64 i ∧ (x ∈ zs ↔ x ∈ zs.drop i))
  case atStart => exact ⟨rfl, 0, by omega, rfl, Iff.rfl⟩
  case round =>
    obtain ⟨rfl, i, hig, rfl, hinv⟩ := hrel
    have HI := Lib.hid hinv
    clear hinv
    cases gk with
    | zero =>
      have d1 : decide ((i : Int) < zs.length) = false := by simp; omega
      have HN := Lib.hid (show decide (x ∈ zs) = false from decide_eq_false (fun hx => by have := HI.out.1 hx; rw [List.drop_eq_nil_of_le (by omega)] at this; cases this))
      go_wp2
      go_ret
      rw [HN.out]
      exact ⟨rfl, rfl⟩
    | succ k =>
      have hin : i < zs.length := by omega
      have d1 : decide ((i : Int) < zs.length) = true := by simp; omega
      obtain ⟨b, off, hA, hb, hcell⟩ := H.out.at_.resolve_left (by omega)
      subst hA
      have c0 := hcell i hin
      have Hdr := Lib.hid (mem_drop_cons hin x)
      have t1 : (0 : Int) ≤ (i : Int) := by omega
      have t2 : (i : Int) < (zs.length : Int) := by omega
      clear hcell
      generalize zs[i] = y at *
      by_cases hp : y = x
      · subst hp
        have HN := Lib.hid (show decide (y ∈ zs) = true from decide_eq_true (HI.out.2 (Hdr.out.2 (.inl rfl))))
        go_wp2
        go_ret
        rw [HN.out]
        exact ⟨rfl, rfl⟩
      · have b1 : (y == x) = false := beq_eq_false_iff_ne.2 hp
        have Hp := Lib.hid hp
        clear hp
        go_wp2
        go_roundg k
        case measure => omega
        case rel => exact ⟨rfl, i + 1, by omega, by go_num, HI.out.trans (Hdr.out.trans ⟨fun h => h.resolve_left Hp.out, .inr⟩)⟩
end
section
open Go.RowKit Go.Lib
/-- What a walk is told of a slice of slices of integers that came in. -/
def IsGrid (w : World) (a : Option Addr) (len cap : Nat) (A : Nat → Option Addr) (L C : Nat → Nat) (Z : Nat → List Int) : Prop :=
  (a = none ∧ len = 0 ∧ cap = 0) ∨
  ∃ x, a = some x ∧ len ≤ cap ∧ cap ≤ maxLen ∧ ∀ r, r < cap → w.cell? (x.add r) = some (.slice (A r) (L r) (C r)) ∧ L r ≤ C r ∧ C r ≤ maxLen ∧ (Z r).length = C r ∧ (∀ n ∈ Z r, (Lit.int .i64 n).wf = true) ∧ (A r = none → C r = 0) ∧
    ∀ a', A r = some a' → ∀ c, c < C r → w.cell? (a'.add c) = some (.int .i64 ((Z r).getD c 0))

theorem isGrid_of {H : Type} {enc : TypeId × Value → H} {P : Program} {W : World} {b : Nat} {hd : Bool} {t e q : TypeId} {a : Option Addr} {len cap : Nat} {d : DataW H} {p : List MemPlace}
    (ht : P.underlying t = some (.slice e)) (he : P.underlying e = some (.slice q)) (hq : P.underlying q = some (.int .i64)) (ce : P.cellsOf e = 1) (cq : P.cellsOf q = 1) (h : DataW.Trod enc P W b (fun _ => true) hd t (.slice a len cap) d p) : ∃ A L C Z, IsGrid W a len cap A L C Z := by
  obtain ⟨fuel, hf⟩ := h
  rcases Go.Deep.open_int_rows ht he hq ce cq hf with ⟨hcs, _⟩ | ⟨x, l, c, A, L, C, Z, hcs, _, hl, hm, _, hcell⟩
  · simp [Value.cells] at hcs
    obtain ⟨rfl, rfl, rfl⟩ := hcs
    exact ⟨fun _ => none, fun _ => 0, fun _ => 0, fun _ => [], .inl ⟨rfl, rfl, rfl⟩⟩
  · simp [Value.cells] at hcs
    obtain ⟨rfl, rfl, rfl⟩ := hcs
    refine ⟨A, L, C, Z, .inr ⟨_, rfl, hl, hm, fun r hr => ?_⟩⟩
    obtain ⟨h1, h2, h3, h4, h5, h6, h7⟩ := hcell r hr
    exact ⟨h1, h2, h3, h4, h5, h6, fun a' ha => (h7 a' ha).2⟩

/-- What is not great. -/
def NotGreat (len : Nat) (L : Nat → Nat) (Z : Nat → List Int) (b : Bool) : Prop := b = false → len ≤ 80 ∧ ∀ r, r < len → L r ≤ 20 ∧ ∀ c, c < L r → (Z r).getD c 0 ≤ 4096
def GreatPost (len : Nat) (L : Nat → Nat) (Z : Nat → List Int) (w : World) (e : Ending) (w' : World) : Prop := ∃ b : Bool, e = .returned (.bool b) ∧ w = w' ∧ NotGreat len L Z b
theorem GreatPost.yes (len : Nat) (L : Nat → Nat) (Z : Nat → List Int) (w : World) : GreatPost len L Z w (.returned (.bool true)) w := ⟨true, rfl, rfl, fun h => by cases h⟩

set_option maxHeartbeats 1000000 in
theorem great15_ok {w : World} {a : Option Addr} {len cap : Nat} {A : Nat → Option Addr} {L C : Nat → Nat} {Z : Nat → List Int} (h : IsGrid w a len cap A L C Z) :
    Calls Tryz.prog 7 #[.slice a len cap] w (GreatPost len L Z w) := by
  have hlm : len ≤ maxLen := by
    rcases h with ⟨_, rfl, _⟩ | ⟨_, _, h1, h2, _⟩
    · exact Nat.zero_le _
    · omega
  unfold maxLen at hlm
  have H := Lib.hid h
  clear h
  by_cases h80 : 80 < len
  · have d1 : decide ((80 : Int) < (len : Int)) = true := by simp; omega
    clear h80
    go_enter Tryz.func7, Tryz.ntmps7
    go_wp2
    go_ret
    exact GreatPost.yes _ _ _ _
  have d1 : decide ((80 : Int) < (len : Int)) = false := by simp; omega
  go_enter Tryz.func7, Tryz.ntmps7
  go_wp2
  go_loopg [3] len (fun g v wx => w = wx ∧ ∃ i : Nat, i + g = len ∧ v = .int .i64 i ∧ ∀ r, r < i → L r ≤ 20 ∧ ∀ c, c < L r → (Z r).getD c 0 ≤ 4096)
  case atStart => exact ⟨rfl, 0, by omega, rfl, fun r hr => by omega⟩
  case round =>
    obtain ⟨rfl, i, hig, rfl, hall⟩ := hrel
    have Hall := Lib.hid hall
    clear hall
    cases gk with
    | zero =>
      have d2 : decide ((i : Int) < len) = false := by simp; omega
      obtain rfl : i = len := by omega
      have hfin : GreatPost i L Z w (.returned (.bool false)) w := ⟨false, rfl, rfl, fun _ => ⟨by omega, Hall.out⟩⟩
      have Hfin := Lib.hid hfin
      clear hfin
      go_wp2
      go_ret
      exact Hfin.out
    | succ n =>
      have hin : i < len := by omega
      have d2 : decide ((i : Int) < len) = true := by simp; omega
      obtain ⟨x, rfl, hlc, hcm, hcell⟩ := H.out.resolve_left (by omega)
      obtain ⟨c0, hLC, hCm, hZ, _, hnone, hrow⟩ := hcell i (by omega)
      have t1 : (0 : Int) ≤ (i : Int) := by omega
      have t2 : (i : Int) < (len : Int) := by omega
      have Hrow := Lib.hid hrow
      have Hnone := Lib.hid hnone
      have HZ := Lib.hid hZ
      have HLC := Lib.hid hLC
      clear hcell hrow hnone hZ hlc hcm
      generalize hLi : L i = li at *
      have HLi := Lib.hid hLi
      clear hLi
      by_cases h20 : 20 < li
      · have d3 : decide ((20 : Int) < (li : Int)) = true := by simp; omega
        have hli : li ≤ 9223372036854775807 := by have := HLC.out; unfold maxLen at hCm; omega
        clear h20
        go_wp2
        go_ret
        exact GreatPost.yes _ _ _ _
      have d3 : decide ((20 : Int) < (li : Int)) = false := by simp; omega
      have hfin := fun (h : ∀ c, c < li → (Z i).getD c 0 ≤ 4096) => (show ∀ r, r < i + 1 → L r ≤ 20 ∧ ∀ c, c < L r → (Z r).getD c 0 ≤ 4096 from fun r hr => by
        by_cases e : r = i
        · subst e
          rw [HLi.out]
          exact ⟨by omega, h⟩
        · exact Hall.out r (by omega))
      have Hfin := Lib.hid hfin
      clear hfin
      go_wp2
      go_loopg [4] li (fun g v wx => w = wx ∧ ∃ k : Nat, k + g = li ∧ v = .int .i64 k ∧ ∀ c, c < k → (Z i).getD c 0 ≤ 4096)
      case atStart => exact ⟨rfl, 0, by omega, rfl, fun c hc => by omega⟩
      case round =>
        obtain ⟨rfl, k, hkg, rfl, hks⟩ := hrel
        have Hks := Lib.hid hks
        clear hks
        cases gk with
        | zero =>
          have d4 : decide ((k : Int) < li) = false := by simp; omega
          obtain rfl : k = li := by omega
          go_wp2
          go_roundg n
          case measure => omega
          case rel => exact ⟨rfl, i + 1, by omega, by go_num, Hfin.out Hks.out⟩
        | succ m =>
          have d4 : decide ((k : Int) < li) = true := by simp; omega
          obtain ⟨a', ha⟩ : ∃ a', A i = some a' := by
            cases hA : A i with
            | none => have := Hnone.out hA; have := HLC.out; omega
            | some a' => exact ⟨a', rfl⟩
          have y0 := Hrow.out a' ha k (by have := HLC.out; omega)
          rw [ha] at c0
          have t3 : (0 : Int) ≤ (k : Int) := by omega
          have t4 : (k : Int) < (li : Int) := by omega
          have hstep : (Z i).getD k 0 ≤ 4096 → ∀ c, c < k + 1 → (Z i).getD c 0 ≤ 4096 := fun h c hc => by
            by_cases e : c = k
            · rw [e]; exact h
            · exact Hks.out c (by omega)
          have Hstep := Lib.hid hstep
          clear ha hstep
          generalize (Z i).getD k 0 = z at *
          by_cases hz : 4096 < z
          · have d5 : decide ((4096 : Int) < z) = true := decide_eq_true hz
            clear hz
            go_wp2
            go_ret
            exact GreatPost.yes _ _ _ _
          · have d5 : decide ((4096 : Int) < z) = false := decide_eq_false hz
            have Hz := Lib.hid (show z ≤ 4096 by omega)
            clear hz
            go_wp2
            go_roundg m
            case measure => omega
            case rel => exact ⟨rfl, k + 1, by omega, by go_num, Hstep.out Hz.out⟩
end
section
open Go.RowKit Go.Lib
theorem IsRow.lenMax {k : IntKind} {w : World} {a : Option Addr} {len cap : Nat} {z : List Int} (h : IsRow k w a len cap z) : len ≤ 9223372036854775807 := by
  rcases h with ⟨_, rfl, _⟩ | ⟨_, _, h1, h2, _⟩
  · exact Nat.zero_le _
  · unfold maxLen at h2; omega
theorem IsGrid.lenMax {w : World} {a : Option Addr} {len cap : Nat} {A : Nat → Option Addr} {L C : Nat → Nat} {Z : Nat → List Int} (h : IsGrid w a len cap A L C Z) : len ≤ 9223372036854775807 := by
  rcases h with ⟨_, rfl, _⟩ | ⟨_, _, h1, h2, _⟩
  · exact Nat.zero_le _
  · unfold maxLen at h2; omega
/-- A slice of integers that came in, as a row. -/
theorem IsRow.row {k : IntKind} {w : World} {A : Option Addr} {l c : Nat} {z : List Int} (h : IsRow k w A l c z) (hl : l ≤ 1000000) :
    (z.take l).length = l ∧ Row k w A (z.take l) ∧ (A = none → c = 0) ∧ ∀ x ∈ z.take l, (Lit.int k x).wf = true := by
  rcases h with ⟨rfl, rfl, rfl, rfl⟩ | ⟨x, rfl, h1, h2, h3, h4, h5⟩
  · exact ⟨rfl, ⟨by simp, .inl rfl⟩, fun _ => rfl, fun x hx => by cases hx⟩
  · have hlen : (z.take l).length = l := by rw [List.length_take]; omega
    refine ⟨hlen, ⟨by rw [hlen]; exact hl, ?_⟩, (fun h => by cases h), fun y hy => h5 y (List.mem_of_mem_take hy)⟩
    rcases Nat.eq_zero_or_pos l with h0 | h0
    · exact .inl (by rw [hlen, h0])
    · have c0 := h4 0 (by omega)
      have hs : x.spot = none := World.cell?_spot (by simpa [Addr.add] using c0)
      obtain ⟨b, off, sp⟩ := x
      cases hs
      refine .inr ⟨b, off, rfl, World.block_lt_of_cell? _ _ (by simpa [Addr.add] using c0), fun i hi => ?_⟩
      have hi' : i < l := by rw [hlen] at hi; exact hi
      have e1 : (⟨b, off, none⟩ : Addr).add i = ⟨b, off + i, none⟩ := by unfold Addr.add; split <;> simp_all
      rw [← e1, h4 i (by omega), List.getElem_take, List.getD_eq_getElem?_getD, List.getElem?_eq_getElem (by omega)]
      rfl
theorem wf_le {x : Int} (h : (Lit.int .i64 x).wf = true) : x ≤ 9223372036854775807 := by
  simp [Lit.wf, IntKind.min, IntKind.max, IntKind.bits, IntKind.signed] at h
  omega
/-- The rows that came in. -/
def gridRows (len : Nat) (A : Nat → Option Addr) (L C : Nat → Nat) (Z : Nat → List Int) : List (Option Addr × Nat × List Int) := (List.range len).map fun r => (A r, C r, (Z r).take (L r))
theorem IsGrid.isRow {w : World} {a : Option Addr} {len cap : Nat} {A : Nat → Option Addr} {L C : Nat → Nat} {Z : Nat → List Int} (h : IsGrid w a len cap A L C Z) {r : Nat} (hr : r < len) : IsRow .i64 w (A r) (L r) (C r) (Z r) := by
  rcases h with ⟨_, rfl, _⟩ | ⟨x, _, h1, h2, h3⟩
  · omega
  · obtain ⟨g1, g2, g3, g4, g5, g6, g7⟩ := h3 r (by omega)
    cases hA : A r with
    | none =>
      have := g6 hA
      exact .inl ⟨rfl, by omega, this, List.eq_nil_of_length_eq_zero (by omega)⟩
    | some a' => exact .inr ⟨a', rfl, g2, g3, g4, fun i hi => g7 a' hA i (by omega), g5⟩
theorem IsGrid.grid {w : World} {a : Option Addr} {len cap : Nat} {A : Nat → Option Addr} {L C : Nat → Nat} {Z : Nat → List Int} (h : IsGrid w a len cap A L C Z) (hl : len ≤ 1000000) (hL : ∀ r, r < len → L r ≤ 1000000) : (gridRows len A L C Z).length = len ∧ Grid w a (gridRows len A L C Z) := by
  have hlen : (gridRows len A L C Z).length = len := by unfold gridRows; rw [List.length_map, List.length_range]
  refine ⟨hlen, ⟨by rw [hlen]; exact hl, ?_⟩⟩
  rcases Nat.eq_zero_or_pos len with h0 | h0
  · exact .inl (by rw [hlen, h0])
  rcases id h with ⟨_, rfl, _⟩ | ⟨x, rfl, h1, h2, h3⟩
  · omega
  have c0 := (h3 0 (by omega)).1
  have hs : x.spot = none := World.cell?_spot (by simpa [Addr.add] using c0)
  obtain ⟨b, off, sp⟩ := x
  cases hs
  refine .inr ⟨b, off, rfl, World.block_lt_of_cell? _ _ (by simpa [Addr.add] using c0), fun k hk => ?_⟩
  have hk' : k < len := by rw [hlen] at hk; exact hk
  have e : (gridRows len A L C Z)[k] = (A k, C k, (Z k).take (L k)) := by simp [gridRows]
  rw [e]
  obtain ⟨r1, r2, r3, _⟩ := (h.isRow hk').row (hL k hk')
  refine ⟨?_, r2, r3⟩
  have e1 : (⟨b, off, none⟩ : Addr).add k = ⟨b, off + k, none⟩ := by unfold Addr.add; split <;> simp_all
  rw [← e1, (h3 k (by omega)).1, r1]
theorem grid_mem {len : Nat} {A : Nat → Option Addr} {L C : Nat → Nat} {Z : Nat → List Int} {r : Option Addr × Nat × List Int} (h : r ∈ gridRows len A L C Z) : ∃ k, k < len ∧ r = (A k, C k, (Z k).take (L k)) := by
  obtain ⟨k, hk, rfl⟩ := List.mem_map.1 h
  exact ⟨k, List.mem_range.1 hk, rfl⟩
theorem take_le {z : List Int} {l : Nat} {m : Int} (h : ∀ i, i < l → z.getD i 0 ≤ m) : ∀ x ∈ z.take l, x ≤ m := by
  intro x hx
  obtain ⟨i, hi, rfl⟩ := List.mem_iff_getElem.1 hx
  rw [List.length_take] at hi
  have := h i (by omega)
  rw [List.getD_eq_getElem?_getD, List.getElem?_eq_getElem (by omega)] at this
  rw [List.getElem_take]
  exact this
end
section
open Go.RowKit Go.Lib
theorem blk_row {w : World} {g : Nat} {zs : List Int} (h : Blk w g 3 (zs.map (Value.int .i64)).toArray) (hl : zs.length ≤ 1000000) : Row .i64 w (some ⟨g, 0, none⟩) zs := by
  refine ⟨hl, .inr ⟨g, 0, rfl, h.lt, fun i hi => ?_⟩⟩
  rw [Nat.zero_add, h.cell i, List.getElem?_toArray, List.getElem?_map, List.getElem?_eq_getElem hi]
  rfl
theorem blk_grid {w : World} {g : Nat} {R : List (Option Addr × Nat × List Int)} (h : Blk w g 23 (R.map encR).toArray) (hl : R.length ≤ 1000000) (he : ∀ r ∈ R, Row .i64 w r.1 r.2.2 ∧ (r.1 = none → r.2.1 = 0)) : Grid w (some ⟨g, 0, none⟩) R := by
  refine ⟨hl, .inr ⟨g, 0, rfl, h.lt, fun i hi => ?_⟩⟩
  refine ⟨?_, he _ (List.getElem_mem hi)⟩
  rw [Nat.zero_add, h.cell i, List.getElem?_toArray, List.getElem?_map, List.getElem?_eq_getElem hi]
  rfl
theorem make_of_ord {l : List Int} (h : Ord l) (h0 : ∀ x ∈ l, 0 ≤ x) : makeM l = l := by
  unfold makeM
  refine ord_ext (made_ord _) h fun x => ?_
  rw [made_mem, List.mem_filter]
  exact ⟨fun h => h.1, fun h => ⟨h, by have := h0 x h; simp; omega⟩⟩
theorem plain_of_ord {l : List Int} (h : Ord l) (h0 : ∀ x ∈ l, 0 ≤ x ∧ x ≤ 1048576) : plainM l = l := by
  unfold plainM
  rw [make_of_ord h fun x hx => (h0 x hx).1]
  exact List.filter_eq_self.2 fun x hx => by rw [(wide_iff x).2 (h0 x hx)]; rfl
theorem ord_two {a b : Int} (h : a < b) : Ord [a, b] := by unfold Ord; simp [h]
theorem ord_one {a : Int} : Ord [a] := by unfold Ord; simp
theorem grid_nil (w : World) : Grid w none [] := ⟨by simp, .inl rfl⟩
end
section
open Go.RowKit Go.Lib
theorem plain_sub {c : List Int} {x : Int} (h : x ∈ plainM c) : x ∈ c := by
  unfold plainM makeM at h
  have h1 := (made_mem _ _).1 (List.mem_filter.1 h).1
  exact (List.mem_filter.1 h1).1
theorem run_from (cs : List (List Int)) (given : List Int) : ∀ x ∈ (runM cs given).1, x ∈ given ∨ ∃ c ∈ cs, x ∈ c := by
  have hg : ∀ x ∈ (givenM given []).1, x ∈ given ∨ ∃ c ∈ cs, x ∈ c := given_ind (P := fun l => ∀ x ∈ l, x ∈ given ∨ ∃ c ∈ cs, x ∈ c) given [] (fun x hx => by cases hx) fun lits x hp hx _ _ y hy => by
    rcases List.mem_append.1 hy with hy | hy
    · exact hp y hy
    · rw [List.mem_singleton.1 hy]; exact .inl hx
  unfold runM
  split
  · refine runL_ind (P := fun l => ∀ x ∈ l, x ∈ given ∨ ∃ c ∈ cs, x ∈ c) (Q := fun r => ∀ x ∈ r.1, x ∈ given ∨ ∃ c ∈ cs, x ∈ c) (fun lits x c hp hc hx _ _ _ y hy => ?_) (fun _ _ _ hp _ _ _ => hp) (fun _ hp _ _ => hp) _ _ (Nat.le_refl _) hg
    rcases List.mem_append.1 hy with hy | hy
    · exact hp y hy
    · rw [List.mem_singleton.1 hy]
      obtain ⟨d, hd, rfl⟩ := List.mem_map.1 hc
      exact .inr ⟨d, hd, plain_sub hx⟩
  · exact hg

theorem one_row (w : World) (x : Int) : Row .i64 (w.alloc (.cells #[.int .i64 x] 3)) (some ⟨w.heap.size, 0, none⟩) [x] := blk_row (Blk.new w 3 #[.int .i64 x]) (by simp)
end
end Go.Proofs.YtmbekchnfbmhbaaGreat

/- Values of literals, states of clauses. -/
import Derived.Test.YtmbekchnfbmhbaaGreatProg
import Derived.Test.YtmbekchnfbmhbaaGreatModel
import Derived.Deep.LoopGhost
import Derived.Test.YtmbekchnfbmhbaaGreatShelf
import Derived.Sort.OwnSortedInts
namespace Go.Proofs.YtmbekchnfbmhbaaGreat
open Go.RowKit

/-- A slice whose elements are the numbers zs, as they lie in memory. -/
structure Row (k : IntKind) (w : World) (A : Option Addr) (zs : List Int) : Prop where
  len : zs.length ≤ 1000000
  at_ : zs.length = 0 ∨ ∃ b off, A = some ⟨b, off, none⟩ ∧ b < w.heap.size ∧ ∀ i (h : i < zs.length), w.cell? ⟨b, off + i, none⟩ = some (.int k zs[i])
theorem Row.below {k : IntKind} {w w' : World} {A : Option Addr} {zs : List Int} (h : Row k w A zs) (hb : Below w.heap.size w w') : Row k w' A zs := by
  refine ⟨h.len, h.at_.imp id fun ⟨b, off, h1, h2, h3⟩ => ⟨b, off, h1, Nat.lt_of_lt_of_le h2 hb.size, fun i hi => ?_⟩⟩
  rw [hb.cell (p := ⟨b, off + i, none⟩) h2]
  exact h3 i hi

/-- A literal's value under an assignment. -/
def valM (vals : List Int) (lit : Int) : Int :=
  if lit < 0 then 0 else match vals[(lit / 2).toNat]? with
    | none => 0
    | some v => if v = 1 then (if lit % 2 = 0 then 1 else 2) else if v = 2 then (if lit % 2 = 0 then 2 else 1) else 0

theorem cval_ok {w : World} {A : Option Addr} {vals : List Int} (cap : Nat) (hv : Row .i8 w A vals) (lit : Int) (hl : lit ≤ 9223372036854775807) :
    Calls Tryz.prog 63 #[.slice A vals.length cap, .int .i64 lit] w fun e w' => e = .returned (.int .i8 (valM vals lit)) ∧ w = w' := by
  have hlen := hv.len
  by_cases h0 : lit < 0
  · have d0 : decide (lit < 0) = true := decide_eq_true h0
    have e : valM vals lit = 0 := by unfold valM; rw [if_pos h0]
    rw [e]
    clear e hv hlen
    go_enter Tryz.func63, Tryz.ntmps63
    go_wp2
    go_ret
    exact ⟨rfl, rfl⟩
  have d0 : decide (lit < 0) = false := decide_eq_false h0
  obtain ⟨q, hq⟩ : ∃ q : Nat, lit / 2 = q := ⟨(lit / 2).toNat, by omega⟩
  have e1 : valM vals lit = match vals[q]? with
    | none => 0
    | some v => if v = 1 then (if lit % 2 = 0 then 1 else 2) else if v = 2 then (if lit % 2 = 0 then 2 else 1) else 0 := by
    unfold valM
    rw [if_neg h0, hq]
    rfl
  rw [e1]
  clear e1
  by_cases h1 : q < vals.length
  · have d1 : decide ((vals.length : Int) ≤ (q : Int)) = false := decide_eq_false (by omega)
    rw [List.getElem?_eq_getElem h1]
    rcases hv.at_ with h2 | ⟨b, off, rfl, hb, hc⟩
    · omega
    have c0 := hc q h1
    have hand : bits .and .i64 lit 1 = lit % 2 := i64_and_one lit (by omega) (by omega)
    generalize hvq : vals[q] = v at *
    have t1 : (q : Int) < (vals.length : Int) := by omega
    have t2 : (0 : Int) ≤ (q : Int) := by omega
    clear hc hv hvq h0
    by_cases hv1 : v = 1
    · subst hv1
      simp only [if_true]
      by_cases hp : lit % 2 = 0
      · rw [hp] at hand
        rw [if_pos hp]
        clear hp
        go_enter Tryz.func63, Tryz.ntmps63
        go_wp2
        go_ret
        exact ⟨rfl, rfl⟩
      · have hp1 : lit % 2 = 1 := by omega
        rw [hp1] at hand
        rw [if_neg hp]
        clear hp hp1
        go_enter Tryz.func63, Tryz.ntmps63
        go_wp2
        go_ret
        exact ⟨rfl, rfl⟩
    · by_cases hv2 : v = 2
      · subst hv2
        simp only [if_true, if_neg hv1]
        by_cases hp : lit % 2 = 0
        · rw [hp] at hand
          rw [if_pos hp]
          clear hp hv1
          go_enter Tryz.func63, Tryz.ntmps63
          go_wp2
          go_ret
          exact ⟨rfl, rfl⟩
        · have hp1 : lit % 2 = 1 := by omega
          rw [hp1] at hand
          rw [if_neg hp]
          clear hp hp1 hv1
          go_enter Tryz.func63, Tryz.ntmps63
          go_wp2
          go_ret
          exact ⟨rfl, rfl⟩
      · have b1 : (v == 1) = false := beq_eq_false_iff_ne.2 hv1
        have b2 : (v == 2) = false := beq_eq_false_iff_ne.2 hv2
        simp only [if_neg hv1, if_neg hv2]
        clear hv1 hv2 hand
        go_enter Tryz.func63, Tryz.ntmps63
        go_wp2
        go_ret
        exact ⟨rfl, rfl⟩
  · have d1 : decide ((vals.length : Int) ≤ (q : Int)) = true := decide_eq_true (by omega)
    have d2 : vals.length ≤ q := by omega
    rw [List.getElem?_eq_none (by omega)]
    clear hv h1
    go_enter Tryz.func63, Tryz.ntmps63
    go_wp2
    go_ret
    exact ⟨rfl, rfl⟩

/-- A clause's state: how many literals are open so far, and the last of them. -/
def stM (vals : List Int) : List Int → Nat → Int → Int × Int
  | [], o, l => if o = 0 then (1, -1) else if o = 1 then (2, l) else (3, -1)
  | x :: r, o, l => if valM vals x = 1 then (0, -1) else if valM vals x = 0 then stM vals r (o + 1) x else stM vals r o l

theorem state_ok {w : World} {A B : Option Addr} {c vals : List Int} (cap cap2 : Nat) (hc : Row .i64 w A c) (hv : Row .i8 w B vals) (hm : ∀ x ∈ c, x ≤ 9223372036854775807) :
    Calls Tryz.prog 51 #[.slice A c.length cap, .slice B vals.length cap2] w fun e w' => e = .returned (.tuple #[.int .i8 (stM vals c 0 (-1)).1, .int .i64 (stM vals c 0 (-1)).2]) ∧ w = w' := by
  have hlen := hc.len
  have Hc := Lib.hid hc
  have Hv := Lib.hid hv
  have Hm := Lib.hid hm
  clear hc hv hm
  go_enter Tryz.func51, Tryz.ntmps51
  go_wp2
  go_loopg [12, 6, 7] c.length (fun g v vo vl wx => w = wx ∧ ∃ (i o : Nat) (l : Int), i + g = c.length ∧ o ≤ i ∧ v = .int .i64 i ∧ vo = .int .i64 o ∧ vl = .int .i64 l ∧ stM vals (c.drop i) o l = stM vals c 0 (-1))
  case atStart => exact ⟨rfl, 0, 0, -1, by omega, by omega, rfl, rfl, rfl, rfl⟩
  case round =>
    obtain ⟨rfl, i, o, l, hig, hoi, rfl, rfl, rfl, hinv⟩ := hrel
    have HI := Lib.hid hinv
    clear hinv
    cases gk with
    | zero =>
      have d1 : decide ((i : Int) < c.length) = false := by simp; omega
      have hnil : c.drop i = [] := List.drop_eq_nil_of_le (by omega)
      have HN := Lib.hid hnil
      clear hnil
      by_cases h0 : o = 0
      · subst h0
        go_wp2
        go_ret2
        rw [← HI.out, HN.out]
        exact ⟨rfl, rfl⟩
      by_cases h1 : o = 1
      · subst h1
        go_wp2
        go_ret2
        rw [← HI.out, HN.out]
        exact ⟨rfl, rfl⟩
      have b0 : ((o : Int) == 0) = false := beq_eq_false_iff_ne.2 (by omega)
      have b1 : ((o : Int) == 1) = false := beq_eq_false_iff_ne.2 (by omega)
      have e : stM vals [] o l = (3, -1) := by unfold stM; rw [if_neg h0, if_neg h1]
      have He := Lib.hid e
      clear e h0 h1
      go_wp2
      go_ret2
      rw [← HI.out, HN.out, He.out]
      exact ⟨rfl, rfl⟩
    | succ g =>
      have hin : i < c.length := by omega
      have d1 : decide ((i : Int) < c.length) = true := by simp; omega
      obtain ⟨b, off, hA, hb, hcell⟩ := Hc.out.at_.resolve_left (by omega)
      subst hA
      have c0 := hcell i hin
      have hdr : c.drop i = c[i] :: c.drop (i + 1) := List.drop_eq_getElem_cons hin
      have hx := Hm.out c[i] (List.getElem_mem hin)
      have Hdr := Lib.hid hdr
      clear hcell hdr
      generalize c[i] = x at *
      generalize hv : valM vals x = v
      have HV := Lib.hid hv
      clear hv
      by_cases h1 : v = 1
      · subst h1
        go_wp2_with (go_at_call 63; refine (cval_ok cap2 Hv.out x hx).mono ?_; rintro e w1 ⟨rfl, rfl⟩; rw [HV.out])
        go_ret2
        rw [← HI.out, Hdr.out]
        unfold stM
        rw [if_pos HV.out]
        exact ⟨rfl, rfl⟩
      have b1 : (v == 1) = false := beq_eq_false_iff_ne.2 h1
      by_cases h2 : v = 0
      · subst h2
        go_wp2_with (go_at_call 63; refine (cval_ok cap2 Hv.out x hx).mono ?_; rintro e w1 ⟨rfl, rfl⟩; rw [HV.out])
        go_roundg g
        case measure => omega
        case rel => exact ⟨rfl, i + 1, o + 1, x, by omega, by omega, by go_num, by go_num, rfl, by rw [← HI.out, Hdr.out]; conv => rhs; unfold stM; rw [if_neg (by rw [HV.out]; exact h1), if_pos HV.out]⟩
      have b2 : (v == 0) = false := beq_eq_false_iff_ne.2 h2
      go_wp2_with (go_at_call 63; refine (cval_ok cap2 Hv.out x hx).mono ?_; rintro e w1 ⟨rfl, rfl⟩; rw [HV.out])
      go_roundg g
      case measure => omega
      case rel => exact ⟨rfl, i + 1, o, l, by omega, by omega, by go_num, rfl, rfl, by rw [← HI.out, Hdr.out]; conv => rhs; unfold stM; rw [if_neg (by rw [HV.out]; exact h1), if_neg (by rw [HV.out]; exact h2)]⟩
end Go.Proofs.YtmbekchnfbmhbaaGreat

/- Contains, IndexFunc, ContainsFunc over rows of ints; Idle. -/
namespace Go.Proofs.YtmbekchnfbmhbaaGreat
open Go.RowKit

theorem contains_ok {w : World} {A : Option Addr} {zs : List Int} (cap : Nat) (h : Row .i64 w A zs) (x : Int) :
    Calls Tryz.prog 94 #[.slice A zs.length cap, .int .i64 x] w fun e w' => e = .returned (.bool (decide (x ∈ zs))) ∧ w = w' := by
  have hl := h.len
  rcases h.at_ with h0 | ⟨b, off, rfl, hb, hc⟩
  · have hz : zs = [] := List.eq_nil_of_length_eq_zero h0
    subst hz
    exact (Tryz.slices_Contains_int_empty A cap x w).mono fun e w' ⟨h1, h2⟩ => ⟨by rw [h1]; simp, h2.symm⟩
  · refine (Tryz.slices_Contains_int b off zs.length cap zs x w (Nat.le_refl _) (by omega) (fun j hj => ?_)).mono fun e w' ⟨h1, h2⟩ => ⟨?_, h2.symm⟩
    · rw [hc j hj, List.getD_eq_getElem?_getD, List.getElem?_eq_getElem hj]; rfl
    · rw [h1, List.take_of_length_le (Nat.le_refl _), List.contains_eq_mem]

/-- The first place of which p holds; -1 if there is none. -/
def idxF (p : Int → Bool) : List Int → Nat → Int
  | [], _ => -1
  | x :: r, i => if p x then i else idxF p r (i + 1)
theorem idxF_any (p : Int → Bool) : ∀ (zs : List Int) (i : Nat), decide (0 ≤ idxF p zs i) = zs.any p
  | [], i => rfl
  | x :: r, i => by
    unfold idxF
    rw [List.any_cons]
    cases hp : p x with
    | true => simp
    | false =>
      rw [if_neg (by decide), Bool.false_or]
      exact idxF_any p r (i + 1)

/-- A literal's negation. -/
def negM (x : Int) : Int := if x % 2 = 0 then x + 1 else x - 1
end Go.Proofs.YtmbekchnfbmhbaaGreat

/- Sort, Compact, DeleteFunc on rows of the call's own. -/
namespace Go.Proofs.YtmbekchnfbmhbaaGreat
open Go.RowKit Go.Lib Go.Sort

theorem own_take {w : World} {base : Nat} {e : TypeId} {size n m g cap : Nat} {xs : List Value} (h : w.ownsRow base e size (.slice (some ⟨g, 0, none⟩) n cap) n xs) (hm : m ≤ n) :
    w.ownsRow base e size (.slice (some ⟨g, 0, none⟩) m cap) m (xs.take (m * size)) := by
  have hms : m * size ≤ n * size := Nat.mul_le_mul_right _ hm
  refine ⟨by rw [List.length_take, h.1]; omega, ?_⟩
  rcases h.2 with ⟨h, _⟩ | ⟨g', cap', cur, hv, hb, hh, hc, hM, hs, ht⟩
  · cases h
  · injection hv with hv1 hv2 hv3
    injection hv1 with hv1
    injection hv1 with hv1
    subst hv1
    subst hv3
    exact .inr ⟨g, cap, cur, rfl, hb, hh, by omega, hM, hs, by rw [← ht, List.take_take]; congr 1; omega⟩

/-- A row of ints of the call's own. -/
def OwnI (w : World) (base g cap : Nat) (zs : List Int) : Prop := w.ownsRow base 3 1 (.slice (some ⟨g, 0, none⟩) zs.length cap) zs.length (zs.map (Value.int .i64))

theorem OwnI.block {w : World} {base g cap : Nat} {zs : List Int} (h : OwnI w base g cap zs) :
    ∃ cur, base ≤ g ∧ w.heap[g]? = some (.cells cur 3 (0, 0)) ∧ zs.length ≤ cap ∧ cap ≤ maxLen ∧ cur.size = cap * 1 ∧ cur.toList.take zs.length = zs.map (Value.int .i64) := by
  rcases h.2 with ⟨hv, _⟩ | ⟨g', cap', cur, hv, hb, hh, hc, hM, hs, ht⟩
  · cases hv
  · injection hv with e1 _ e3
    injection e1 with e1
    injection e1 with e1
    subst e1 e3
    rw [Nat.mul_one] at ht
    exact ⟨cur, hb, hh, hc, hM, hs, ht⟩
theorem OwnI.cut {w : World} {base g cap : Nat} {n : Nat} {ts : List Int} (m : List Int) (h : w.ownsRow base 3 1 (.slice (some ⟨g, 0, none⟩) n cap) n ((m ++ ts).map (Value.int .i64))) (hm : m.length ≤ n) : OwnI w base g cap m := by
  have h1 := own_take h hm
  rw [Nat.mul_one, List.map_append, List.take_append, List.length_map, Nat.sub_self, List.take_zero, List.append_nil, List.take_of_length_le (by rw [List.length_map]; exact Nat.le_refl _)] at h1
  exact h1

theorem sort_own {w : World} {base g cap : Nat} {zs : List Int} (h : OwnI w base g cap zs) (hsz : zs.length < 4611686018427387904) :
    Calls Tryz.prog 74 #[.slice (some ⟨g, 0, none⟩) zs.length cap] w fun e w' => e = .returned (.tuple #[]) ∧ OwnI w' base g cap (zs.mergeSort fun x y => decide (x ≤ y)) ∧ w.grownBy w' (some g) := by
  obtain ⟨cur, hb, hh, hc, hM, hs, ht⟩ := h.block
  refine (Tryz.slices_Sort_int g 0 cap zs w (holds_of_blockI hh ht) (Array.getElem?_eq_some_iff.1 hh).1 hsz).mono ?_
  rintro e w' ⟨rfl, k, os, rfl⟩
  refine ⟨rfl, ?_, grownBy_sortedI _⟩
  have h1 := ownsRow_sortedI (n := k) (os := os) (ss := zs) (ts := zs.mergeSort fun x y => decide (x ≤ y)) (List.length_mergeSort _) hb hh hc hM hs
  unfold OwnI
  rw [List.length_mergeSort]
  exact h1

theorem compact_len : ∀ zs : List Int, (Lib.compact zs).length ≤ zs.length := fun zs => by
  have := Lib.compact_length_le zs
  exact this

theorem compact_own {w : World} {base g cap : Nat} {zs : List Int} (h : OwnI w base g cap zs) (hsz : zs.length ≤ 9223372036854775807) :
    Calls Tryz.prog 75 #[.slice (some ⟨g, 0, none⟩) zs.length cap] w fun e w' => e = .returned (.slice (some ⟨g, 0, none⟩) (Lib.compact zs).length cap) ∧ OwnI w' base g cap (Lib.compact zs) ∧ w.grownBy w' (some g) := by
  obtain ⟨cur, hb, hh, hc, hM, hs, ht⟩ := h.block
  refine (Tryz.slices_Compact_int g 0 cap zs w (holds_of_blockI hh ht) hsz hc).mono ?_
  rintro e w' ⟨rfl, k, rfl⟩
  have hl := compact_len zs
  have h1 := ownsRow_sortedI (n := k) (os := #[]) (ss := zs) (ts := Lib.compact zs ++ List.replicate (zs.length - (Lib.compact zs).length) 0) (by rw [List.length_append, List.length_replicate]; omega) hb hh hc hM hs
  have h2 := grownBy_sortedI (w := w) (g := g) (n := k) (os := #[]) (Lib.compact zs ++ List.replicate (zs.length - (Lib.compact zs).length) 0).toArray
  rw [grow_empty] at h1 h2
  exact ⟨rfl, OwnI.cut _ h1 hl, h2⟩

theorem neg_gives (x : Int) (W : World) : FnGives Tryz.prog 73 #[] #[.int .i64 x] (.bool (decide (x < 0))) W := by
  unfold FnGives
  go_enter Tryz.func73, Tryz.ntmps73
  go_wp2
  go_ret
  exact ⟨rfl, 0, rfl⟩

theorem delete_own {w : World} {base g cap : Nat} {zs : List Int} (h : OwnI w base g cap zs) (hsz : zs.length ≤ 9223372036854775807) :
    Calls Tryz.prog 72 #[.slice (some ⟨g, 0, none⟩) zs.length cap, .func (.func 73) #[] #[]] w fun e w' => e = .returned (.slice (some ⟨g, 0, none⟩) (zs.filter fun x => !decide (x < 0)).length cap) ∧ OwnI w' base g cap (zs.filter fun x => !decide (x < 0)) ∧ w.grownBy w' (some g) := by
  obtain ⟨cur, hb, hh, hc, hM, hs, ht⟩ := h.block
  have eg : ∀ args w, (callFunc 73 args).run Tryz.prog w = .ok (.enter 73 args) w := enters_of Tryz.func73 (by kernel_rfl) rfl
  have h0 := Tryz.slices_DeleteFunc_int (fun x => decide (x < 0)) 73 #[] eg g 0 cap zs.toArray w (fun W x _ => neg_gives x W) (fun _ _ _ x _ => neg_gives x _) (holds_of_blockI hh ht) (by simpa using hsz) (by simpa using hc)
  simp only [List.size_toArray] at h0
  refine h0.mono ?_
  rintro e w' ⟨rfl, k, rfl⟩
  have hl : (zs.filter fun x => !decide (x < 0)).length ≤ zs.length := List.length_filter_le _ _
  have h1 := ownsRow_sortedI (n := k) (os := #[]) (ss := zs) (ts := (zs.filter fun x => !decide (x < 0)) ++ List.replicate (zs.length - (zs.filter fun x => !decide (x < 0)).length) 0) (by rw [List.length_append, List.length_replicate]; omega) hb hh hc hM hs
  have h2 := grownBy_sortedI (w := w) (g := g) (n := k) (os := #[]) ((zs.filter fun x => !decide (x < 0)) ++ List.replicate (zs.length - (zs.filter fun x => !decide (x < 0)).length) 0).toArray
  rw [grow_empty] at h1 h2
  exact ⟨rfl, OwnI.cut _ h1 hl, h2⟩
end Go.Proofs.YtmbekchnfbmhbaaGreat

/- Holds. -/
import Derived.Test.YtlganicnbcnngaaClJ
namespace Go.Proofs.Ytlganicnbcnngaa
open Go.RowKit

/-- A slice of rows, wherever it lies. -/
structure Grid (w : World) (A : Option Addr) (rows : List (Option Addr × Nat × List Int)) : Prop where
  len : rows.length ≤ 1000000
  at_ : rows.length = 0 ∨ ∃ b off, A = some ⟨b, off, none⟩ ∧ b < w.heap.size ∧ ∀ k (h : k < rows.length), w.cell? ⟨b, off + k, none⟩ = some (.slice rows[k].1 rows[k].2.2.length rows[k].2.1) ∧ Row .i64 w rows[k].1 rows[k].2.2 ∧ (rows[k].1 = none → rows[k].2.1 = 0)
theorem Grid.below {w w' : World} {A : Option Addr} {rows : List (Option Addr × Nat × List Int)} (h : Grid w A rows) (hb : Below w.heap.size w w') : Grid w' A rows := by
  refine ⟨h.len, h.at_.imp id fun ⟨b, off, h1, h2, h3⟩ => ⟨b, off, h1, Nat.lt_of_lt_of_le h2 hb.size, fun i hi => ?_⟩⟩
  exact ⟨(hb.cell (p := ⟨b, off + i, none⟩) h2).trans (h3 i hi).1, (h3 i hi).2.1.below hb, (h3 i hi).2.2⟩

/-- The first place of which p holds; -1 if there is none. -/
def idxG {α : Type} (p : α → Bool) : List α → Nat → Int
  | [], _ => -1
  | x :: r, i => if p x then i else idxG p r (i + 1)
theorem idxG_any {α : Type} (p : α → Bool) : ∀ (zs : List α) (i : Nat), decide (0 ≤ idxG p zs i) = zs.any p
  | [], i => rfl
  | x :: r, i => by
    unfold idxG
    rw [List.any_cons]
    cases hp : p x with
    | true => simp
    | false =>
      rw [if_neg (by decide), Bool.false_or]
      exact idxG_any p r (i + 1)

/-- Does a clause not hold? -/
def nhP (vals : List Int) (r : Option Addr × Nat × List Int) : Bool := (stM vals r.2.2 0 (-1)).1 != 0

theorem holds1_ok {w : World} {A B : Option Addr} {c vals : List Int} (cap cap2 ca g : Nat) (hc : Row .i64 w A c) (hv : Row .i8 w B vals) (hg : w.cell? ⟨g, 0, none⟩ = some (.slice B vals.length cap2)) (hm : ∀ x ∈ c, x ≤ 9223372036854775807) :
    Calls Try.prog 29 #[.slice A c.length cap, .pointer (some ⟨g, 0, none⟩)] w fun e w' => e = .returned (.bool (nhP vals (A, ca, c))) ∧ w = w' := by
  unfold nhP
  have Hc := Lib.hid hc
  have Hv := Lib.hid hv
  have Hm := Lib.hid hm
  clear hc hv hm
  generalize hs : stM vals c 0 (-1) = s
  have Hs := Lib.hid hs
  clear hs
  generalize hq : (s.1 != 0) = q
  go_enter Try.func29, Try.ntmps29
  go_wp2_with (go_at_call 8; refine (state_ok cap cap2 Hc.out Hv.out Hm.out).mono ?_; rintro e w1 ⟨rfl, rfl⟩; rw [Hs.out])
  go_ret
  exact ⟨rfl, rfl⟩

theorem indexg_holds {w : World} {A B : Option Addr} {rows : List (Option Addr × Nat × List Int)} {vals : List Int} (cap cap2 g : Nat) (h : Grid w A rows) (hv : Row .i8 w B vals) (hg : w.cell? ⟨g, 0, none⟩ = some (.slice B vals.length cap2)) (hm : ∀ r ∈ rows, ∀ x ∈ r.2.2, x ≤ 9223372036854775807) :
    Calls Try.prog 36 #[.slice A rows.length cap, .func (.func 29) #[] #[.pointer (some ⟨g, 0, none⟩)]] w fun e w' => e = .returned (.int .i64 (idxG (nhP vals) rows 0)) ∧ w = w' := by
  have hlen := h.len
  have H := Lib.hid h
  have Hg := Lib.hid hg
  have Hm := Lib.hid hm
  have Hv := Lib.hid hv
  clear h hg hm hv
  go_enter Try.func36, Try.ntmps36
  go_wp2
  go_loopg [8] rows.length (fun g v wx => w = wx ∧ ∃ i : Nat, i + g = rows.length ∧ v = .int .i64 i ∧ idxG (nhP vals) (rows.drop i) i = idxG (nhP vals) rows 0)
  case atStart => exact ⟨rfl, 0, by omega, rfl, rfl⟩
  case round =>
    obtain ⟨rfl, i, hig, rfl, hinv⟩ := hrel
    have HI := Lib.hid hinv
    clear hinv
    cases gk with
    | zero =>
      have d1 : decide ((i : Int) < rows.length) = false := by simp; omega
      have HN := Lib.hid (show rows.drop i = [] from List.drop_eq_nil_of_le (by omega))
      go_wp2
      go_ret
      rw [← HI.out, HN.out]
      exact ⟨rfl, rfl⟩
    | succ k =>
      have hin : i < rows.length := by omega
      have d1 : decide ((i : Int) < rows.length) = true := by simp; omega
      obtain ⟨b, off, hA, hb, hcell⟩ := H.out.at_.resolve_left (by omega)
      subst hA
      obtain ⟨c0, hrow, _⟩ := hcell i hin
      have hx := Hm.out rows[i] (List.getElem_mem hin)
      have Hdr := Lib.hid (show rows.drop i = rows[i] :: rows.drop (i + 1) from List.drop_eq_getElem_cons hin)
      clear hcell
      generalize rows[i] = x at *
      obtain ⟨xa, xc, xs⟩ := x
      have Hx := Lib.hid hx
      have Hrow := Lib.hid hrow
      clear hx hrow
      cases hp : nhP vals (xa, xc, xs) with
      | true =>
        have Hp := Lib.hid hp
        clear hp
        go_wp2_with (go_at_call 29; refine (holds1_ok xc cap2 xc g Hrow.out Hv.out Hg.out Hx.out).mono ?_; rintro e w1 ⟨rfl, rfl⟩; rw [Hp.out])
        go_ret
        rw [← HI.out, Hdr.out]
        unfold idxG
        rw [if_pos Hp.out]
        exact ⟨rfl, rfl⟩
      | false =>
        have Hp := Lib.hid hp
        clear hp
        go_wp2_with (go_at_call 29; refine (holds1_ok xc cap2 xc g Hrow.out Hv.out Hg.out Hx.out).mono ?_; rintro e w1 ⟨rfl, rfl⟩; rw [Hp.out])
        go_roundg k
        case measure => omega
        case rel => exact ⟨rfl, i + 1, by omega, by go_num, by rw [← HI.out, Hdr.out]; conv => rhs; unfold idxG; rw [if_neg (by rw [Hp.out]; decide)]⟩

theorem containsg_holds {w : World} {A B : Option Addr} {rows : List (Option Addr × Nat × List Int)} {vals : List Int} (cap cap2 g : Nat) (h : Grid w A rows) (hv : Row .i8 w B vals) (hg : w.cell? ⟨g, 0, none⟩ = some (.slice B vals.length cap2)) (hm : ∀ r ∈ rows, ∀ x ∈ r.2.2, x ≤ 9223372036854775807) :
    Calls Try.prog 28 #[.slice A rows.length cap, .func (.func 29) #[] #[.pointer (some ⟨g, 0, none⟩)]] w fun e w' => e = .returned (.bool (rows.any (nhP vals))) ∧ w = w' := by
  rw [← idxG_any (nhP vals) rows 0]
  have H := Lib.hid h
  have Hg := Lib.hid hg
  have Hm := Lib.hid hm
  have Hv := Lib.hid hv
  clear h hg hm hv
  go_enter Try.func28, Try.ntmps28
  go_wp2_with (go_at_call 36; refine (indexg_holds cap cap2 g H.out Hv.out Hg.out Hm.out).mono ?_; rintro e w1 ⟨rfl, rfl⟩)
  go_ret
  exact ⟨rfl, rfl⟩

theorem holds_ok {w : World} {A B : Option Addr} {rows : List (Option Addr × Nat × List Int)} {vals : List Int} (cap cap2 : Nat) (h : Grid w A rows) (hv : Row .i8 w B vals) (hm : ∀ r ∈ rows, ∀ x ∈ r.2.2, x ≤ 9223372036854775807) :
    Calls Try.prog 16 #[.slice A rows.length cap, .slice B vals.length cap2] w fun e w' => e = .returned (.bool (!rows.any (nhP vals))) ∧ Below w.heap.size w w' := by
  have hb : Below w.heap.size w (w.alloc (.cells #[.slice B vals.length cap2] 25)) := (Below.refl _ w).alloc (Nat.le_refl _) _
  have H := Lib.hid (h.below hb)
  have HV := Lib.hid (hv.below hb)
  have Hb := Lib.hid hb
  have Hm := Lib.hid hm
  have Hg := Lib.hid (show (w.alloc (.cells #[.slice B vals.length cap2] 25)).cell? ⟨w.heap.size, 0, none⟩ = some (.slice B vals.length cap2) from (Blk.new w _ _).cell 0)
  generalize hq : rows.any (nhP vals) = q
  have Hq := Lib.hid hq
  clear h hb hv hm hq
  go_enter Try.func16, Try.ntmps16
  go_wp2_with (go_at_call 28; refine (containsg_holds cap cap2 w.heap.size H.out HV.out Hg.out Hm.out).mono ?_; rintro e w1 ⟨rfl, rfl⟩; rw [Hq.out])
  go_ret
  exact ⟨rfl, Hb.out⟩
end Go.Proofs.Ytlganicnbcnngaa

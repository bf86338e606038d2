/- The laws' common part. -/
import Derived.Test.YtpmdgjihgiieoaaLexM
namespace Go.Proofs.Ytpmdgjihgiieoaa
open Go.RowKit

/-- The tokens of a text from a place on, reckoned. -/
def lexF : Nat → List UInt8 → Nat → List Tk × Option Nat
  | 0, _, _ => ([], none)
  | f + 1, L, p =>
    match L.drop (startL L p) with
    | [] => ([], none)
    | c :: m =>
      match tok (c :: m) with
      | none => ([], some (startL L p))
      | some r => (⟨r.k, r.t, startL L p, startL L p + r.n⟩ :: (lexF f L (startL L p + r.n)).1, (lexF f L (startL L p + r.n)).2)

theorem startL_le (L : List UInt8) (p : Nat) (h : p ≤ L.length) : startL L p ≤ L.length := by
  have := sk_le false (L.drop p)
  rw [List.length_drop] at this
  unfold startL
  omega
theorem startL_ge (L : List UInt8) (p : Nat) : p ≤ startL L p := by unfold startL; omega

theorem Lexes.eq {L : List UInt8} {p : Nat} {ts : List Tk} {e : Option Nat} (h : Lexes L p ts e) : ∀ f, p ≤ L.length → L.length + 1 ≤ f + p → lexF f L p = (ts, e) := by
  induction h with
  | @done p h =>
    intro f hp hf
    obtain ⟨f, rfl⟩ : ∃ g, f = g + 1 := ⟨f - 1, by omega⟩
    simp only [lexF, h]
  | @bad p h h2 =>
    intro f hp hf
    obtain ⟨f, rfl⟩ : ∃ g, f = g + 1 := ⟨f - 1, by omega⟩
    rw [lexF]
    split
    · rename_i h3; exact absurd h3 h
    · rename_i c m h3
      rw [← h3, h2]
  | @one p r ts e h h2 ih =>
    intro f hp hf
    obtain ⟨f, rfl⟩ : ∃ g, f = g + 1 := ⟨f - 1, by omega⟩
    have hl := tok_len h
    have h1 := startL_le L p hp
    have h3 := startL_ge L p
    rw [List.length_drop] at hl
    have h4 := ih f (by omega) (by omega)
    rw [lexF]
    split
    · rename_i h3; rw [h3] at h; cases h
    · rename_i c m h5
      rw [← h5, h]
      simp only [h4]

theorem lexes_one {L : List UInt8} {ts ts' : List Tk} {e e' : Option Nat} (h : Lexes L 0 ts e) (h' : Lexes L 0 ts' e') : ts = ts' ∧ e = e' := by
  have h1 := h.eq (L.length + 1) (by omega) (by omega)
  have h2 := h'.eq (L.length + 1) (by omega) (by omega)
  rw [h1] at h2
  injection h2 with h3 h4
  exact ⟨h3, h4⟩

/-- All, where the tokens are known. -/
theorem all_is (s : ByteArray) (w : World) (hs : s.size ≤ 1000000) (ts : List Tk) (err : Option Nat) (h : ∀ ts' err', Lexes (byts s) 0 ts' err' → ts' = ts ∧ err' = err) :
    Calls Try.prog 8 #[.string s] w fun e w' => ∃ v,
      e = .returned (.tuple #[v, .int .i64 (err.getD s.size : Nat), .int .i64 (if err.isSome then 20 else 0)]) ∧ w'.ownsRow w.heap.size 29 4 v ts.length (ts.flatMap tkCells) ∧ Below w.heap.size w w' :=
  (all_ok s w hs).mono fun e w' ⟨ts', err', v, h1, h2, h3, h4⟩ => by
    obtain ⟨rfl, rfl⟩ := h ts' err' h1
    exact ⟨v, h2, h3, h4⟩

def ts1 : List Tk := [⟨0, [], 0, 1⟩, ⟨2, [97], 1, 2⟩, ⟨2, [98, 32, 99], 3, 8⟩, ⟨3, [55], 9, 10⟩, ⟨4, [107], 11, 13⟩, ⟨1, [], 13, 14⟩]
theorem lex1 : lexF 15 [40, 97, 32, 124, 98, 32, 99, 124, 32, 55, 32, 58, 107, 41] 0 = (ts1, none) := by decide +kernel
theorem lex2 : lexF 4 [48, 48, 55] 0 = ([], some 0) := by decide +kernel

theorem all_1 (w : World) :
    Calls Try.prog 8 #[.string { data := #[40, 97, 32, 124, 98, 32, 99, 124, 32, 55, 32, 58, 107, 41] }] w fun e w' => ∃ g cap,
      e = .returned (.tuple #[.slice (some ⟨g, 0, none⟩) 6 cap, .int .i64 14, .int .i64 0]) ∧ g < w'.heap.size ∧ w'.cell? ⟨g, 9, none⟩ = some (.string ⟨#[98, 32, 99]⟩) ∧ w'.cell? ⟨g, 12, none⟩ = some (.int .i8 3) ∧ w'.cell? ⟨g, 17, none⟩ = some (.string ⟨#[107]⟩) ∧ 6 ≤ cap ∧ Below w.heap.size w w' := by
  refine (all_is _ w (by decide) ts1 none ?_).mono ?_
  · intro ts' err' h
    have := h.eq 15 (by omega) (by decide)
    rw [show byts { data := #[40, 97, 32, 124, 98, 32, 99, 124, 32, 55, 32, 58, 107, 41] } = [40, 97, 32, 124, 98, 32, 99, 124, 32, 55, 32, 58, 107, 41] from rfl, lex1] at this
    injection this with h1 h2
    exact ⟨h1.symm, h2.symm⟩
  · rintro e w' ⟨v, h1, h2, h3⟩
    obtain ⟨g, cap, rfl, hg, hlt, hcap⟩ := own_form h2 (by decide)
    have a2 := own_cell tkCells tkCells_len h2 (i := 2) (j := 1) (by decide) (by decide)
    have a3 := own_cell tkCells tkCells_len h2 (i := 3) (j := 0) (by decide) (by decide)
    have a4 := own_cell tkCells tkCells_len h2 (i := 4) (j := 1) (by decide) (by decide)
    exact ⟨g, cap, h1, hlt, a2, a3, a4, hcap, h3⟩
theorem all_2 (w : World) :
    Calls Try.prog 8 #[.string { data := #[48, 48, 55] }] w fun e w' => ∃ v,
      e = .returned (.tuple #[v, .int .i64 0, .int .i64 20]) ∧ Below w.heap.size w w' := by
  refine (all_is _ w (by decide) [] (some 0) ?_).mono ?_
  · intro ts' err' h
    have := h.eq 4 (by omega) (by decide)
    rw [show byts { data := #[48, 48, 55] } = [48, 48, 55] from rfl, lex2] at this
    injection this with h1 h2
    exact ⟨h1.symm, h2.symm⟩
  · rintro e w' ⟨v, h1, h2, h3⟩
    exact ⟨v, h1, h3⟩

set_option maxHeartbeats 400000 in
theorem wakes_ok (w : World) : Calls Try.prog 7 #[] w fun e w' => e = .returned (.bool true) ∧ Below w.heap.size w w' := by
  go_enter Try.func7, Try.ntmps7
  go_upto_region 2 with (go_at_call 8; refine (all_1 _).mono ?_; rintro e w1 ⟨g, cap, rfl, hg, a2, a3, a4, hcap, hb1⟩; have HB1 := Lib.hid hb1; clear hb1)
  go_upto_region 3 with (go_at_call 8; refine (all_2 _).mono ?_; rintro e w2 ⟨v, rfl, hb2⟩; have a2 := (hb2.cell (p := ⟨g, 9, none⟩) hg).trans a2; have a3 := (hb2.cell (p := ⟨g, 12, none⟩) hg).trans a3; have a4 := (hb2.cell (p := ⟨g, 17, none⟩) hg).trans a4; have HB2 := Lib.hid (HB1.out.trans (hb2.mono HB1.out.size)); clear hb2)
  go_wp2
  go_ret
  exact ⟨rfl, HB2.out⟩
end Go.Proofs.Ytpmdgjihgiieoaa

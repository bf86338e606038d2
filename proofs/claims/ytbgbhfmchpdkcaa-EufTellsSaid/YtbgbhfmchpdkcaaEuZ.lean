/- bad. -/
import Derived.Test.YtbgbhfmchpdkcaaEuY
namespace Go.Proofs.Ytbgbhfmchpdkcaa
open Go.RowKit

theorem still_of_quiet {P : Program} {o : Oper} {a : Act} {w : World} {K : Act → Prop} (h : o.quiet P a (fun w' => w' = w) K) : o.still P a w K := by
  obtain ⟨v, h1, h2⟩ := h
  have h3 := h1 w rfl
  unfold Oper.quietAt at h3
  unfold Oper.still
  generalize (execOp a.eval o).run P w = r at *
  cases r with
  | ok n w' =>
    cases n <;> simp only [Oper.quietUpon] at h3 <;> simp only [Oper.stillUpon]
    case value u => obtain ⟨h4, rfl⟩ := h3; exact ⟨h4, h2⟩
    case skip => obtain ⟨h4, rfl⟩ := h3; exact ⟨h4, h2⟩
    case enter f args => exact ⟨h3.1, v, h3.2, h2⟩
  | halt x w' => simp only [Oper.quietUpon] at h3
theorem wpStill_of_quiet {P : Program} {ops : Array Oper} {w : World} {Q : Act → Prop} : ∀ (l : List Oper) (a : Act), wpQuiet P ops (fun w' => w' = w) Q l a → wpStill P ops w Q l a
  | [], a, h => h
  | o :: l, a, h => by
    unfold wpQuiet at h
    unfold wpStill
    split
    · rename_i hw
      rw [if_pos hw] at h
      refine still_of_quiet ?_
      obtain ⟨v, h1, h2⟩ := h
      exact ⟨v, h1, wpStill_of_quiet l _ h2⟩
    · rename_i hw
      rw [if_neg hw] at h
      exact wpStill_of_quiet l _ h
theorem below_undrew' {H : Nat} {w w' : World} (h : Below H w.drew w') : Below H w w' := ⟨h.os, h.tape, h.output, h.size, h.block⟩
section
variable {w w' : World} {H : Nat} {X : Nat → Prop} {cb q bf : Nat} {A : Option Addr} {c : Nat} {T : List Nd} {J : List Jn} {m : Nat} {more : Bool}
def BadIs (H : Nat) (X : Nat → Prop) (T : List Nd) (J : List Jn) (L : List Int) (w : World) (e : Ending) (w' : World) : Prop :=
  ∃ (r : Bool), e = .returned (.bool r) ∧ (r = true ↔ cls J 0 = cls J T.length ∨ ∃ x ∈ L, AgainstJ T J x) ∧ Kc H X w w'
set_option maxRecDepth 100000 in
set_option maxHeartbeats 2000000 in
theorem bad_ok {B : Option Addr} {L : List Int} (cap : Nat) (h : Cl w H X cb q bf A c T J m more) (hT : TabOk T) (hm : m ≤ 900000) (hL : L.length ≤ 300) (hr : ∀ W, Below H w W → Row W B L) (hl : ∀ x ∈ L, LitMay T x) :
    Calls Try.prog 23 #[.pointer (some ⟨cb, 0, none⟩), .slice B L.length cap] w (BadIs H X T J L w) := by
  have hlen := h.hT
  have hb1 : Below w.heap.size w (w.alloc (.cells #[.pointer (some ⟨cb, 0, none⟩)] 39)) := (Below.refl _ w).alloc (Nat.le_refl _) _
  have HC1 := Lib.hid (h.guard (Y := fun b => X b ∨ b = w.heap.size) (fun b hb => hb.imp id fun e => by omega) (fun b hb => by rcases hb with hb | rfl; have := h.hX b hb; simp; omega; simp) hb1)
  have HBX := Lib.hid (Blk.new w 39 #[.pointer (some ⟨cb, 0, none⟩)])
  have HH := Lib.hid h.hH
  have HK1 : Hid (Kc H X w (w.alloc (.cells #[.pointer (some ⟨cb, 0, none⟩)] 39))) := Lib.hid (Kc.of_below hb1)
  have HT := Lib.hid hT
  have HR := Lib.hid hr
  have HL := Lib.hid hl
  have hl2 := hT.len
  have HO := Lib.hid (oneM_iff (J := J) (n := (T.length : Int) + 1) (x := 0) (y := T.length) ⟨by omega, by omega⟩ ⟨by omega, by omega⟩)
  obtain ⟨ob, hob⟩ : ∃ ob, oneM (T.length + 1) J 0 T.length = ob := ⟨_, rfl⟩
  rw [hob] at HO
  have KO := Lib.hid (cone_ok (HC1.out.below (w' := (w.alloc (.cells #[.pointer (some ⟨cb, 0, none⟩)] 39)).drew) ⟨rfl, rfl, rfl, Nat.le_refl _, fun _ _ => rfl⟩) (by omega) 0 T.length)
  rw [hob] at KO
  obtain ⟨_, c1, c2, _, hlc⟩ := HC1.out.cells
  clear h hb1 hT hr hl hob
  go_enter Try.func23, Try.ntmps23
  go_upto_region 1 with (fail)
  cases ob with
  | true =>
    have HOT := Lib.hid (HO.out.1 rfl)
    refine wp_region_still_call 8 (by kernel_rfl) (by kernel_rfl) ?_
    simp only [List.take_succ_cons, List.take_zero, List.drop_succ_cons, List.drop_zero]
    change wpStill Try.prog _ (w.alloc (.cells #[.pointer (some ⟨cb, 0, none⟩)] 39)).drew (fun a' => wpOp _ _ _ _ _ a' (w.alloc (.cells #[.pointer (some ⟨cb, 0, none⟩)] 39)).drew) _ _
    iterate 8 still_step
    refine wpStill_nil ?_
    refine wpOp_of rfl rfl ?_
    go_simp
    refine KO.out.mono ?_
    rintro e w2 ⟨rfl, h2, k2⟩
    have K2 : Hid (Kc H X w w2) := Lib.hid (Kc.trans (H := H) (X := X) (w := w) (w' := (w.alloc (.cells #[.pointer (some ⟨cb, 0, none⟩)] 39)).drew) (Kept.drew HK1.out) (k2.less fun _ h => Or.inl (Or.inl h)))
    clear h2 k2
    refine wpStill_of_quiet _ _ ?_
    repeat (go_big_quiet_step (fail))
    refine wpQuiet_nil ?_
    go_wp2
    go_ret
    exact ⟨true, rfl, ⟨fun _ => .inl HOT.out, fun _ => rfl⟩, K2.out⟩
  | false =>
    have HOF : Hid (¬ cls J 0 = cls J T.length) := Lib.hid fun e => by have := HO.out.2 e; cases this
    have cx := HBX.out.cell 0
    simp only [List.getElem?_toArray, List.getElem?_cons_zero] at cx
    have hbs : w.heap.size < (w.alloc (.cells #[.pointer (some ⟨cb, 0, none⟩)] 39)).heap.size := by simp
    have HBS := Lib.hid hbs
    clear hbs
    go_region_held3 (fun w' => w'.cell? ⟨w.heap.size, 0, none⟩ = some (.pointer (some ⟨cb, 0, none⟩)) ∧ w'.cell? ⟨cb, 1, none⟩ = some (.pointer (some ⟨bf, 0, none⟩)) ∧ w'.cell? ⟨cb, 2, none⟩ = some (.int .i64 T.length)) (go_keep) (first
      | ((go_at_call 53; refine KO.out.mono ?_; rintro e w2 ⟨rfl, h2, k2⟩; have H2 := Lib.hid h2; have K2 : Hid (Kc H X w w2) := Lib.hid (Kc.trans (H := H) (X := X) (w := w) (w' := (w.alloc (.cells #[.pointer (some ⟨cb, 0, none⟩)] 39)).drew) (Kept.drew HK1.out) (k2.less fun _ h => Or.inl (Or.inl h))); have hbx2 := (Blk.drew HBX.out).kept k2 (fun hn => hn (.inr (.inl (.inr rfl)))); have HBX2 := Lib.hid hbx2; have cx2 := hbx2.cell 0; simp only [List.getElem?_toArray, List.getElem?_cons_zero] at cx2; obtain ⟨_, e1, e2, _, hl3⟩ := h2.cells; clear h2 k2 hbx2))
      | ((go_at_call 35; refine (contains_inv cap 54 #[.pointer (some ⟨w.heap.size, 0, none⟩)] (agB T J) (enters_of Try.func54 (by kernel_rfl) rfl) (fun k W => Cl W H (fun b => X b ∨ b = w.heap.size) cb q bf A c T J (m + 1 + k) more ∧ Blk W w.heap.size 39 #[.pointer (some ⟨cb, 0, none⟩)] ∧ Kc H X w W) (fun k W hI => HR.out W (Kc.below hI.2.2 HH.out)) (fun k W x hk hx hI => (badf_ok hI.1 HT.out (by omega) hI.2.1 (.inr rfl) (HL.out x hx)).mono fun e w' ⟨g1, g2, g3⟩ => ⟨g1, g2, hI.2.1.kept g3 (fun hn => hn (.inr (.inr rfl))), Kc.trans hI.2.2 (g3.less fun _ h => Or.inl h)⟩) ⟨H2.out, HBX2.out, K2.out⟩).mono ?_; rintro e w3 ⟨rfl, k, hk, h3, h4, h5⟩; have H3 := Lib.hid h3; have H5 := Lib.hid h5; have cx3 := h4.cell 0; simp only [List.getElem?_toArray, List.getElem?_cons_zero] at cx3; obtain ⟨_, g1, g2, _, _⟩ := h3.cells; clear h3 h4 h5)))
    go_wp2
    go_ret
    refine ⟨_, rfl, ?_, H5.out⟩
    rw [List.any_eq_true]
    exact ⟨fun ⟨x, h1, h2⟩ => .inr ⟨x, h1, agB_iff.1 h2⟩, fun h => by
      rcases h with h | ⟨x, h1, h2⟩
      · exact absurd h HOF.out
      · exact ⟨x, h1, agB_iff.2 h2⟩⟩
end
end Go.Proofs.Ytbgbhfmchpdkcaa

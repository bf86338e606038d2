/- ShareHolds' loop: the state while the assignment is written. -/
import Derived.Test.YtlipnnibagidiaaGreatVmE
namespace Go.Proofs.YtlipnnibagidiaaGreat
open Go.RowKit Go.Lib
structure TY (w : World) (pO bs : Nat) (A : Option Addr) (T : List Nd) (c : Nat) (q qc : Nat) (vals : List Int) (q2 qc2 : Nat) (overs : List Bool) (ab : Nat) (F : Nat → Int) (W : World) : Prop where
  tb : Blk W pO 33 #[.slice A T.length c]
  own : W.ownsRow bs 3 1 (.slice (some ⟨q, 0, none⟩) T.length qc) T.length (vals.map (Value.int .i64))
  oown : W.ownsRow bs 4 1 (.slice (some ⟨q2, 0, none⟩) T.length qc2) T.length (overs.map Value.bool)
  a : Blk W ab 44 (i8Cells T.length F)
  lo : pO < ab ∧ w.heap.size ≤ ab
  bel : Below w.heap.size w W
theorem TY.set {w W : World} {pO bs : Nat} {A : Option Addr} {T : List Nd} {c q qc : Nat} {vals : List Int} {q2 qc2 : Nat} {overs : List Bool} {ab : Nat} {F : Nat → Int} (h : TY w pO bs A T c q qc vals q2 qc2 overs ab F W) (i : Nat) (x : Int) : TY w pO bs A T c q qc vals q2 qc2 overs ab (updI F i x) (W.setCell ⟨ab, i, none⟩ (.int .i8 x)) := by
  have hk := Kept.set1 W ab i (.int .i8 x)
  have ha := h.a.set_ i (.int .i8 x)
  rw [i8Cells_set] at ha
  obtain ⟨hlo, hlo2⟩ := h.lo
  exact ⟨h.tb.kept hk (by omega), own_kept h.own hk (fun b e hb => own_blk_ne h.own h.a (by decide) (by rw [e, hb])), own_kept h.oown hk (fun b e hb => own_blk_ne h.oown h.a (by decide) (by rw [e, hb])), ha, h.lo, h.bel.setCell hlo2 _⟩
theorem told_next {T : List Nd} {val : Int → Int} {i : Nat} {F : Nat → Int} (hF : ∀ k, k < T.length → F k = if k < i then toldF T val k else 0) (hs : (ndAt T i).sort = 0) {x : Int} (hx : x = 2 - val i) : ∀ k, k < T.length → updI F i x k = if k < i + 1 then toldF T val k else 0 := by
  intro k hk
  unfold updI
  by_cases e : k = i
  · rw [if_pos e, if_pos (by omega), e]
    unfold toldF
    rw [if_pos hs, hx]
  · rw [if_neg e, hF k hk]
    by_cases e2 : k < i
    · rw [if_pos e2, if_pos (by omega)]
    · rw [if_neg e2, if_neg (by omega)]
theorem told_skip {T : List Nd} {val : Int → Int} {i : Nat} {F : Nat → Int} (hF : ∀ k, k < T.length → F k = if k < i then toldF T val k else 0) (hs : (ndAt T i).sort ≠ 0) : ∀ k, k < T.length → F k = if k < i + 1 then toldF T val k else 0 := by
  intro k hk
  rw [hF k hk]
  by_cases e : k = i
  · rw [if_neg (by omega), if_pos (by omega), e]
    unfold toldF
    rw [if_neg hs]
  · by_cases e2 : k < i
    · rw [if_pos e2, if_pos (by omega)]
    · rw [if_neg e2, if_neg (by omega)]
theorem told_cells {T : List Nd} {val : Int → Int} {F : Nat → Int} (hF : ∀ k, k < T.length → F k = if k < T.length then toldF T val k else 0) : i8Cells T.length F = i8Cells T.length (toldF T val) := by
  unfold i8Cells
  congr 1
  refine List.map_congr_left fun k hk => ?_
  have hk' := List.mem_range.1 hk
  rw [hF k hk', if_pos hk']
end Go.Proofs.YtlipnnibagidiaaGreat

/- A quiet walk, operation by operation: an operation that is wanted has one value in every world of the class; one that is passed over has none. -/
import Derived.Test.YtbgbhfmchpdkcaaPaths
namespace Go.Proofs.Ytbgbhfmchpdkcaa
open Go.RowKit

theorem wpQuiet_want {P : Program} {ops : Array Oper} {C : World → Prop} {Q : Act → Prop} {a : Act} {o : Oper} {rest : List Oper} (hw : Region.wanted o (yielded ops a.tmps) = true) (v : Value) (h1 : ∀ w, C w → o.quietAt P a C w v) (h2 : wpQuiet P ops C Q rest (a.put o.dst v)) : wpQuiet P ops C Q (o :: rest) a := by
  unfold wpQuiet
  rw [if_pos hw]
  exact ⟨v, h1, h2⟩
theorem wpQuiet_skip {P : Program} {ops : Array Oper} {C : World → Prop} {Q : Act → Prop} {a : Act} {o : Oper} {rest : List Oper} (hw : Region.wanted o (yielded ops a.tmps) = false) (h2 : wpQuiet P ops C Q rest (a.put o.dst undef)) : wpQuiet P ops C Q (o :: rest) a := by
  unfold wpQuiet
  rw [if_neg (by rw [hw]; decide)]
  exact h2
/-- The same behind a structure: whnf does not run ahead through what is passed over. -/
structure QW (P : Program) (ops : Array Oper) (C : World → Prop) (Q : Act → Prop) (rest : List Oper) (a : Act) : Prop where
  out : wpQuiet P ops C Q rest a
theorem qw_want {P : Program} {ops : Array Oper} {C : World → Prop} {Q : Act → Prop} {a : Act} {o : Oper} {rest : List Oper} (hw : Region.wanted o (yielded ops a.tmps) = true) (v : Value) (h1 : ∀ w, C w → o.quietAt P a C w v) (h2 : QW P ops C Q rest (a.put o.dst v)) : QW P ops C Q (o :: rest) a := ⟨wpQuiet_want hw v h1 h2.out⟩
theorem qw_skip {P : Program} {ops : Array Oper} {C : World → Prop} {Q : Act → Prop} {a : Act} {o : Oper} {rest : List Oper} (hw : Region.wanted o (yielded ops a.tmps) = false) (h2 : QW P ops C Q rest (a.put o.dst undef)) : QW P ops C Q (o :: rest) a := ⟨wpQuiet_skip hw h2.out⟩
theorem qw_end {P : Program} {ops : Array Oper} {C : World → Prop} {Q : Act → Prop} {a : Act} (h : Q a) : QW P ops C Q [] a := ⟨h⟩
theorem QW.lit {P : Program} {C : World → Prop} {Q : Act → Prop} {l : List Oper} {a : Act} (h : QW P l.toArray C Q l a) : wpQuiet P l.toArray C Q l.toArray.toList a := h.out
end Go.Proofs.Ytbgbhfmchpdkcaa

/- Make. -/
import Derived.Test.YtnfeggeahnjdeaaClE
namespace Go.Proofs.Ytnfeggeahnjdeaa
open Go.RowKit Go.Lib

theorem make_ok {w : World} {A : Option Addr} {zs : List Int} (cap : Nat) (h : Row .i64 w A zs) (hn : A = none → cap = 0) :
    Calls Try.prog 28 #[.slice A zs.length cap] w fun e w' => ∃ v, e = .returned v ∧ w'.ownsRow w.heap.size 3 1 v (makeM zs).length ((makeM zs).map (Value.int .i64)) ∧ Below w.heap.size w w' := by
  have hb : Below w.heap.size w (w.alloc (.cells #[.slice A zs.length cap] 23)) := (Below.refl _ w).alloc (Nat.le_refl _) _
  have hlen := h.len
  have hrows : RowsAt (w.alloc (.cells #[.slice A zs.length cap] 23)) w.heap.size [(A, cap, zs)] := by
    refine ⟨by simp, fun k hk => ?_⟩
    have hk0 : k = 0 := by simpa using hk
    subst hk0
    exact ⟨(Blk.new w _ _).cell 0, h.below hb, hn⟩
  have Hb := Lib.hid hb
  have Hrows := Lib.hid hrows
  have hall : allOf [(A, cap, zs)] = zs := by simp [allOf]
  have htot : total [(A, cap, zs)] ≤ 1000000 := by simp [total]; exact hlen
  have Hall := Lib.hid hall
  clear h hb hrows hall hn
  go_enter Try.func28, Try.ntmps28
  go_wp2_with (go_at_call 36; refine (join_ok (rows := [(A, cap, zs)]) 1 Hrows.out htot (by simp)).mono ?_; rintro e w1 ⟨v, rfl, ho, hb1⟩; rw [Hall.out] at ho; have Ho := Lib.hid (own_base ho (fun g hg => Nat.le_trans Hb.out.size (ho.lt g hg).1)); have Hb1 := Lib.hid (Hb.out.trans (hb1.mono Hb.out.size)); clear ho hb1)
  go_ret
  exact ⟨_, rfl, Ho.out, Hb1.out⟩
end Go.Proofs.Ytnfeggeahnjdeaa

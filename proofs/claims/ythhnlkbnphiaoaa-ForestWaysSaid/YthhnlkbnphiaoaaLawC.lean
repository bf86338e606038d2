/- wakes; what a way is, from one number of joins to another. -/
import Derived.Test.YthhnlkbnphiaoaaLawB
namespace Go.Proofs.Ythhnlkbnphiaoaa
open Go.RowKit

theorem WayR.same {n : Int} {J : List Jn} {y x : Int} {rs ss : List Int} (hJ : Tree J) (h : WayR n J y x rs) (k : WayR n J y x ss) : rs = ss := by
  unfold WayR at h k
  split at h
  · rename_i ho
    rw [if_pos ho] at k
    obtain ⟨ns, hp⟩ := h
    obtain ⟨ms, hq⟩ := k
    exact hJ.one hp hq
  · rename_i ho
    rw [if_neg ho] at k
    rw [h, k]
theorem oneM_mono {n : Int} {J X : List Jn} {y x : Int} (h : oneM n J y x = true) : oneM n (J ++ X) y x = true := by
  have h := of_decide_eq_true h
  exact decide_eq_true ⟨h.1, h.2.1, cls_conn ((conn_cls J h.2.2).mono fun j hj => List.mem_append_left _ hj)⟩
theorem WayR.more {n : Int} {J X : List Jn} {y x : Int} {rs ss : List Int} (hJ : Tree (J ++ X)) (ho : oneM n J y x = true) (h : WayR n J y x rs) (k : WayR n (J ++ X) y x ss) : rs = ss := by
  unfold WayR at h k
  rw [if_pos ho] at h
  rw [if_pos (oneM_mono ho)] at k
  obtain ⟨ns, hp⟩ := h
  obtain ⟨ms, hq⟩ := k
  exact hJ.one (hp.mono fun j hj => List.mem_append_left _ hj) hq

def wakesJ : List Jn := [⟨0, 1, 7⟩, ⟨1, 2, 9⟩]
theorem wakes_1 : joinsM 3 [] 0 1 = true ∧ joinE 3 0 1 = 0 ∧ joinM 3 [] 0 1 7 = [⟨0, 1, 7⟩] := ⟨by decide, by decide, if_pos (by decide)⟩
theorem wakes_2 : joinsM 3 [⟨0, 1, 7⟩] 1 2 = true ∧ joinE 3 1 2 = 0 ∧ joinM 3 [⟨0, 1, 7⟩] 1 2 9 = wakesJ := ⟨by decide, by decide, if_pos (by decide)⟩
theorem wakes_3 : joinsM 3 wakesJ 2 0 = false ∧ joinE 3 2 0 = 0 ∧ joinM 3 wakesJ 2 0 1 = wakesJ := ⟨by decide, by decide, if_neg (by decide)⟩
theorem wakes_4 : oneM 3 wakesJ 0 2 = true := by decide
theorem wakes_way {rs : List Int} (hJ : Tree wakesJ) (h : WayR 3 wakesJ 0 2 rs) : rs = [7, 9] := by
  unfold WayR at h
  rw [if_pos wakes_4] at h
  obtain ⟨ns, hp⟩ := h
  refine hJ.one hp (ns' := [0, 1, 2]) (.cons (y := 1) ⟨⟨0, 1, 7⟩, by simp [wakesJ], .inl ⟨rfl, rfl, rfl⟩⟩ (.cons (y := 2) ⟨⟨1, 2, 9⟩, by simp [wakesJ], .inl ⟨rfl, rfl, rfl⟩⟩ (.nil 2) (by decide)) (by decide))

set_option maxRecDepth 100000 in
set_option maxHeartbeats 1000000 in
theorem wakes_ok (w : World) : Calls Try.prog 7 #[] w fun e w' => e = .returned (.bool true) ∧ Below w.heap.size w w' := by
  go_enter Try.func7, Try.ntmps7
  go_wp2_with fail
  refine (new_ok 3 (by omega) (by omega) _).mono ?_
  rintro e w1 ⟨bf, bn, bp, rfl, h1, b1⟩
  have h1 := Lib.hid h1
  have b1 := Lib.hid b1
  go_wp2_with fail
  refine (join_ok h1.out (by omega) 0 1 7).mono ?_
  rw [wakes_1.1, wakes_1.2.1, wakes_1.2.2]
  rintro e w2 ⟨lj2, N2, rfl, h2, k2⟩
  have b2 := Lib.hid (b1.out.trans (k2.below b1.out.size))
  have h2 := Lib.hid h2
  clear h1 k2
  go_wp2_with fail
  refine (join_ok h2.out (by omega) 1 2 9).mono ?_
  rw [wakes_2.1, wakes_2.2.1, wakes_2.2.2]
  rintro e w3 ⟨lj3, N3, rfl, h3, k3⟩
  have b3 := Lib.hid (b2.out.trans (k3.below b2.out.size))
  have h3 := Lib.hid h3
  clear h2 k3
  go_wp2_with fail
  refine (join_ok h3.out (by omega) 2 0 1).mono ?_
  rw [wakes_3.1, wakes_3.2.1, wakes_3.2.2]
  rintro e w4 ⟨lj4, N4, rfl, h4, k4⟩
  have b4 := Lib.hid (b3.out.trans (k4.below b3.out.size))
  have h4 := Lib.hid h4
  clear h3 k4
  go_wp2_with fail
  refine (way_ok h4.out 0 2).mono ?_
  rw [wakes_4]
  rintro e w5 ⟨v, rs, rfl, hw, hr, hb⟩
  have b5 := Lib.hid (below_then b4.out (Nat.le_refl _) hb)
  have h5 := Lib.hid (h4.out.below hb)
  obtain rfl := wakes_way h4.out.fine.tree hw
  obtain ⟨g, cap, rfl, _, _, _⟩ := own_form hr.1 (by decide)
  have e0 := hr.1.cells (g := g) rfl 0 (.int .i64 7) rfl
  have e1 := hr.1.cells (g := g) rfl 1 (.int .i64 9) rfl
  rw [addr_add] at e0 e1
  clear h4 hw hr hb b1 b2 b3 b4
  go_wp2_with fail
  refine (joins_ok h5.out).mono ?_
  rintro e w6 ⟨rfl, rfl⟩
  go_wp2_with fail
  go_ret
  exact ⟨rfl, b5.out⟩
end Go.Proofs.Ythhnlkbnphiaoaa

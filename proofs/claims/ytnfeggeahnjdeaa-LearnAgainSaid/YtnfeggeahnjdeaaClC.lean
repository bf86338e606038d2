/- Sort, Compact, DeleteFunc on rows of the call's own. -/
import Derived.Test.YtnfeggeahnjdeaaClB
import Derived.Sort.OwnSortedInts
namespace Go.Proofs.Ytnfeggeahnjdeaa
open Go.RowKit Go.Lib Go.Sort

theorem own_take {w : World} {base : Nat} {e : TypeId} {size n m g cap : Nat} {xs : List Value} (h : w.ownsRow base e size (.slice (some ⟨g, 0, none⟩) n cap) n xs) (hm : m ≤ n) :
    w.ownsRow base e size (.slice (some ⟨g, 0, none⟩) m cap) m (xs.take (m * size)) := by
  have hms : m * size ≤ n * size := Nat.mul_le_mul_right _ hm
  refine ⟨by rw [List.length_take, h.1]; omega, ?_⟩
  rcases h.2 with ⟨h, _⟩ | ⟨g', cap', cur, hv, hb, hh, hc, hM, hs, ht⟩
  · cases h
  · injection hv with hv1 hv2 hv3
    injection hv1 with hv1
    injection hv1 with hv1
    subst hv1
    subst hv3
    exact .inr ⟨g, cap, cur, rfl, hb, hh, by omega, hM, hs, by rw [← ht, List.take_take]; congr 1; omega⟩

/-- A row of ints of the call's own. -/
def OwnI (w : World) (base g cap : Nat) (zs : List Int) : Prop := w.ownsRow base 3 1 (.slice (some ⟨g, 0, none⟩) zs.length cap) zs.length (zs.map (Value.int .i64))

theorem OwnI.block {w : World} {base g cap : Nat} {zs : List Int} (h : OwnI w base g cap zs) :
    ∃ cur, base ≤ g ∧ w.heap[g]? = some (.cells cur 3 (0, 0)) ∧ zs.length ≤ cap ∧ cap ≤ maxLen ∧ cur.size = cap * 1 ∧ cur.toList.take zs.length = zs.map (Value.int .i64) := by
  rcases h.2 with ⟨hv, _⟩ | ⟨g', cap', cur, hv, hb, hh, hc, hM, hs, ht⟩
  · cases hv
  · injection hv with e1 _ e3
    injection e1 with e1
    injection e1 with e1
    subst e1 e3
    rw [Nat.mul_one] at ht
    exact ⟨cur, hb, hh, hc, hM, hs, ht⟩
theorem OwnI.cut {w : World} {base g cap : Nat} {n : Nat} {ts : List Int} (m : List Int) (h : w.ownsRow base 3 1 (.slice (some ⟨g, 0, none⟩) n cap) n ((m ++ ts).map (Value.int .i64))) (hm : m.length ≤ n) : OwnI w base g cap m := by
  have h1 := own_take h hm
  rw [Nat.mul_one, List.map_append, List.take_append, List.length_map, Nat.sub_self, List.take_zero, List.append_nil, List.take_of_length_le (by rw [List.length_map]; exact Nat.le_refl _)] at h1
  exact h1

theorem sort_own {w : World} {base g cap : Nat} {zs : List Int} (h : OwnI w base g cap zs) (hsz : zs.length < 4611686018427387904) :
    Calls Try.prog 47 #[.slice (some ⟨g, 0, none⟩) zs.length cap] w fun e w' => e = .returned (.tuple #[]) ∧ OwnI w' base g cap (zs.mergeSort fun x y => decide (x ≤ y)) ∧ w.grownBy w' (some g) := by
  obtain ⟨cur, hb, hh, hc, hM, hs, ht⟩ := h.block
  refine (Try.slices_Sort_int g 0 cap zs w (holds_of_blockI hh ht) (Array.getElem?_eq_some_iff.1 hh).1 hsz).mono ?_
  rintro e w' ⟨rfl, k, os, rfl⟩
  refine ⟨rfl, ?_, grownBy_sortedI _⟩
  have h1 := ownsRow_sortedI (n := k) (os := os) (ss := zs) (ts := zs.mergeSort fun x y => decide (x ≤ y)) (List.length_mergeSort _) hb hh hc hM hs
  unfold OwnI
  rw [List.length_mergeSort]
  exact h1

theorem compact_len : ∀ zs : List Int, (Lib.compact zs).length ≤ zs.length := fun zs => by
  have := Lib.compact_length_le zs
  exact this

theorem compact_own {w : World} {base g cap : Nat} {zs : List Int} (h : OwnI w base g cap zs) (hsz : zs.length ≤ 9223372036854775807) :
    Calls Try.prog 48 #[.slice (some ⟨g, 0, none⟩) zs.length cap] w fun e w' => e = .returned (.slice (some ⟨g, 0, none⟩) (Lib.compact zs).length cap) ∧ OwnI w' base g cap (Lib.compact zs) ∧ w.grownBy w' (some g) := by
  obtain ⟨cur, hb, hh, hc, hM, hs, ht⟩ := h.block
  refine (Try.slices_Compact_int g 0 cap zs w (holds_of_blockI hh ht) hsz hc).mono ?_
  rintro e w' ⟨rfl, k, rfl⟩
  have hl := compact_len zs
  have h1 := ownsRow_sortedI (n := k) (os := #[]) (ss := zs) (ts := Lib.compact zs ++ List.replicate (zs.length - (Lib.compact zs).length) 0) (by rw [List.length_append, List.length_replicate]; omega) hb hh hc hM hs
  have h2 := grownBy_sortedI (w := w) (g := g) (n := k) (os := #[]) (Lib.compact zs ++ List.replicate (zs.length - (Lib.compact zs).length) 0).toArray
  rw [grow_empty] at h1 h2
  exact ⟨rfl, OwnI.cut _ h1 hl, h2⟩

theorem neg_gives (x : Int) (W : World) : FnGives Try.prog 46 #[] #[.int .i64 x] (.bool (decide (x < 0))) W := by
  unfold FnGives
  go_enter Try.func46, Try.ntmps46
  go_wp2
  go_ret
  exact ⟨rfl, 0, rfl⟩

theorem delete_own {w : World} {base g cap : Nat} {zs : List Int} (h : OwnI w base g cap zs) (hsz : zs.length ≤ 9223372036854775807) :
    Calls Try.prog 45 #[.slice (some ⟨g, 0, none⟩) zs.length cap, .func (.func 46) #[] #[]] w fun e w' => e = .returned (.slice (some ⟨g, 0, none⟩) (zs.filter fun x => !decide (x < 0)).length cap) ∧ OwnI w' base g cap (zs.filter fun x => !decide (x < 0)) ∧ w.grownBy w' (some g) := by
  obtain ⟨cur, hb, hh, hc, hM, hs, ht⟩ := h.block
  have eg : ∀ args w, (callFunc 46 args).run Try.prog w = .ok (.enter 46 args) w := enters_of Try.func46 (by kernel_rfl) rfl
  have h0 := Try.slices_DeleteFunc_int (fun x => decide (x < 0)) 46 #[] eg g 0 cap zs.toArray w (fun W x _ => neg_gives x W) (fun _ _ _ x _ => neg_gives x _) (holds_of_blockI hh ht) (by simpa using hsz) (by simpa using hc)
  simp only [List.size_toArray] at h0
  refine h0.mono ?_
  rintro e w' ⟨rfl, k, rfl⟩
  have hl : (zs.filter fun x => !decide (x < 0)).length ≤ zs.length := List.length_filter_le _ _
  have h1 := ownsRow_sortedI (n := k) (os := #[]) (ss := zs) (ts := (zs.filter fun x => !decide (x < 0)) ++ List.replicate (zs.length - (zs.filter fun x => !decide (x < 0)).length) 0) (by rw [List.length_append, List.length_replicate]; omega) hb hh hc hM hs
  have h2 := grownBy_sortedI (w := w) (g := g) (n := k) (os := #[]) ((zs.filter fun x => !decide (x < 0)) ++ List.replicate (zs.length - (zs.filter fun x => !decide (x < 0)).length) 0).toArray
  rw [grow_empty] at h1 h2
  exact ⟨rfl, OwnI.cut _ h1 hl, h2⟩
end Go.Proofs.Ytnfeggeahnjdeaa

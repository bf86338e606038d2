/- wakes; Ints. -/
import Derived.Test.YtfdfblokbojcfaaTrailG
import Derived.Test.YtfdfblokbojcfaaTrailE
namespace Go.Proofs.Ytfdfblokbojcfaa
open Go.RowKit

theorem ret_int_of {k : IntKind} {a b : Int} {e : Ending} (h : e = .returned (.int k a)) (hab : a = b) : e = .returned (.int k b) := by rw [h, hab]

set_option maxHeartbeats 1000000 in
theorem wakes_ok (w : World) : Calls Try.prog 7 #[] w fun e w' => e = .returned (.bool true) ∧ Below w.heap.size w w' := by
  have hv1 : valOf ([] ++ [⟨5, ((0 + 1 : Nat) : Int), -1⟩]) 4 = 2 := by decide
  have ha : above ((0 : Nat) : Int) ([] ++ [⟨5, ((0 + 1 : Nat) : Int), -1⟩]) = 1 := by decide
  have hv2 : valOf [] 4 = 0 := by decide
  have Hv1 := Lib.hid hv1
  have Ha := Lib.hid ha
  have Hv2 := Lib.hid hv2
  clear hv1 ha hv2
  go_enter Try.func7, Try.ntmps7
  go_wp2_with fail
  refine (new_ok 4 (by omega) _ w.heap.size (Nat.le_refl _)).mono ?_
  rintro e w1 ⟨bt, ba, rfl, t1, _, _, hb1⟩
  go_wp2_with fail
  refine (begin_ok t1 (by decide)).mono ?_
  rintro e w2 ⟨rfl, t2, k2⟩
  have hb2 := hb1.trans (k2.below hb1.size (fun k hk => hk ▸ t1.hbt))
  clear t1 hb1 k2
  go_wp2_with fail
  refine (put_new t2 5 (-1) (by decide) (by decide) (by decide) rfl).mono ?_
  rintro e w3 ⟨lv3, rfl, t3, k3⟩
  have hb3 := hb2.trans (k3.below hb2.size (fun k hk => by
    rcases hk with hk | hk | hk
    · exact hk ▸ t2.hbt
    · exact hk ▸ t2.hba
    · cases hk))
  clear t2 hb2 k3
  go_wp2_with fail
  refine (val_ok t3 4).mono ?_
  rintro e w4 ⟨rfl, b4⟩
  rw [Hv1.out]
  have t4 := t3.keep (Kept.of_below (S := fun _ => False) b4) (fun h => h) (fun h => h) (fun _ _ h => h)
  have hb4 := hb3.trans (b4.mono hb3.size)
  clear t3 hb3 b4
  go_wp2_with fail
  refine (back_ok t4 0 (by decide)).mono ?_
  rintro e w5 ⟨v5, lv5, rfl, o5, t5, k5⟩
  have hb5 := hb4.trans (k5.below hb4.size (fun k hk => by
    rcases hk with hk | hk
    · exact hk ▸ t4.hbt
    · exact hk ▸ t4.hba))
  rw [Ha.out] at o5 t5
  obtain ⟨g, cap, rfl, hg, hgl, hcap⟩ := own_form o5 (by decide)
  have c5 := o5.cells (g := g) rfl 0 _ rfl
  rw [addr_add] at c5
  simp only [] at c5
  have t6 : TR w5 w.heap.size bt ba lv5 ⟨4, [], 0⟩ := t5
  have q5 := hgl
  clear t5 k5 o5 hg hcap hb4
  go_wp2_with fail
  refine (val_ok t6 4).mono ?_
  rintro e w6 ⟨rfl, b6⟩
  rw [Hv2.out]
  have t7 := t6.keep (Kept.of_below (S := fun _ => False) b6) (fun h => h) (fun h => h) (fun _ _ h => h)
  have hb6 := hb5.trans (b6.mono hb5.size)
  go_wp2_with fail
  refine (levels_ok t7).mono ?_
  rintro e w7 ⟨rfl, rfl⟩
  go_wp2_with fail
  refine (new_nil (-1) (by decide) _).mono ?_
  rintro e w8 ⟨rfl, rfl⟩
  go_wp2_with fail
  go_ret
  exact ⟨rfl, hb6⟩

/-- The numbers of a slice. -/
def IntsAt (w : World) (A : Option Addr) (n : Nat) (l : List Int) : Prop :=
  l.length = n ∧ (0 < n → ∃ ad, A = some ad ∧ ad.block < w.heap.size ∧ ∀ j (h : j < l.length), w.cell? (ad.add j) = some (.int .i64 l[j]))

theorem IntsAt.of_own {w : World} {base : Nat} {t : TypeId} {A : Option Addr} {n cap : Nat} {l : List Int} (h : w.ownsRow base t 1 (.slice A n cap) l.length (l.map (Value.int .i64))) : IntsAt w A n l := by
  rcases h.2 with ⟨hv, h0⟩ | ⟨g, cap', cur, hv, _, hg, _⟩
  · injection hv with h1 h2 h3
    exact ⟨by rw [h0, h2], fun hn => by omega⟩
  · injection hv with h1 h2 h3
    subst h1
    refine ⟨h2.symm, fun _ => ⟨_, rfl, Blk.lt hg, fun j hj => ?_⟩⟩
    have := h.cells (g := g) rfl j (.int .i64 l[j])
    exact this (by simp [hj])

set_option maxHeartbeats 400000 in
theorem ints_same {w : World} {A B : Option Addr} {n m ca cb : Nat} {l : List Int} (ha : IntsAt w A n l) (hb : IntsAt w B m l) (hn : n ≤ 9223372036854775807) :
    Calls Try.prog 16 #[.slice A n ca, .slice B m cb] w fun e w' => e = .returned (.bool true) ∧ ∃ k, w' = w.drewN k := by
  obtain rfl : m = n := hb.1.symm.trans ha.1
  go_enter Try.func16, Try.ntmps16
  go_wp2
  go_loopw [5] (fun i wr => ∃ k : Nat, k ≤ m ∧ i = .int .i64 k ∧ ∃ d, wr = w.drewN d) (fun i _ => m - (intOf i).toNat)
  case atStart => exact ⟨0, Nat.zero_le _, rfl, 0, rfl⟩
  case round =>
    obtain ⟨k, hk, rfl, d, rfl⟩ := hrel
    by_cases hlt : k < m
    · obtain ⟨a, rfl, _, hca⟩ := ha.2 (by omega)
      obtain ⟨b, rfl, _, hcb⟩ := hb.2 (by omega)
      have e1 := hca k (by have := ha.1; omega)
      have e2 := hcb k (by have := ha.1; omega)
      generalize l[k]'(by have := ha.1; omega) = x at *
      clear hca hcb ha hb
      go_wp2
      go_quiet (fail)
      go_wp2
      exact ⟨⟨k + 1, by omega, by go_num, _, rfl⟩, by simp [intOf]; omega⟩
    · go_wp2
      go_ret
      exact ⟨rfl, _, rfl⟩
end Go.Proofs.Ytfdfblokbojcfaa

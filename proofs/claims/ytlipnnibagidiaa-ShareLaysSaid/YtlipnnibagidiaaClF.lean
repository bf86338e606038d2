/- join, Make. -/
import Derived.Test.YtlipnnibagidiaaClD
import Derived.Test.YtlipnnibagidiaaMk
namespace Go.Proofs.Ytlipnnibagidiaa
open Go.RowKit Go.Lib

/-- The clause of some literals. -/

theorem indexf_nil {w : World} (f : Value) :
    Calls Try.prog 78 #[.slice none 0 0, f] w fun e w' => e = .returned (.int .i64 (-1)) ∧ w = w' := by
  go_enter Try.func78, Try.ntmps78
  go_wp2
  go_loopg [8] 0 (fun g v wx => w = wx ∧ g = 0 ∧ v = .int .i64 0)
  case atStart => exact ⟨rfl, rfl, rfl⟩
  case round =>
    obtain ⟨rfl, rfl, rfl⟩ := hrel
    go_wp2
    go_ret
    exact ⟨rfl, rfl⟩

theorem delete_nil {w : World} (g : Nat) (lb : Array Value) :
    Calls Try.prog 73 #[.slice none 0 0, .func (.func g) #[] lb] w fun e w' => e = .returned (.slice none 0 0) ∧ w = w' := by
  go_enter Try.func73, Try.ntmps73
  go_wp2_with (go_at_call 78; refine (indexf_nil _).mono ?_; rintro e w1 ⟨rfl, rfl⟩)
  go_ret
  exact ⟨rfl, rfl⟩

theorem own_cases {w : World} {base n : Nat} {v : Value} {zs : List Int} (h : w.ownsRow base 3 1 v n (zs.map (Value.int .i64))) (hn : n = zs.length) : (v = .slice none 0 0 ∧ zs = []) ∨ ∃ g cap, v = .slice (some ⟨g, 0, none⟩) zs.length cap ∧ OwnI w base g cap zs ∧ base ≤ g ∧ zs.length ≤ cap := by
  subst hn
  rcases h.2 with ⟨hv, h0⟩ | ⟨g, cap, cur, hv, hb, hh, hc, hM, hs, ht⟩
  · exact .inl ⟨hv, List.eq_nil_of_length_eq_zero h0⟩
  · subst hv
    exact .inr ⟨g, cap, rfl, h, hb, hc⟩

theorem below_grow {B : Nat} {w w1 w2 : World} {g : Nat} (h : Below B w w1) (hg : w1.grownBy w2 (some g)) (hB : B ≤ w1.heap.size) (hgb : B ≤ g) : Below B w w2 :=
  Below.grown h hg hB (fun j hj => by injection hj with hj; omega)

set_option maxHeartbeats 1000000 in
theorem join_ok {w : World} {gr : Nat} {rows : List (Option Addr × Nat × List Int)} (cap : Nat) (h : RowsAt w gr rows) (ht : total rows ≤ 1000000) (hr : rows.length ≤ 1000) :
    Calls Try.prog 71 #[.slice (some ⟨gr, 0, none⟩) rows.length cap] w fun e w' => ∃ v, e = .returned v ∧ w'.ownsRow w.heap.size 3 1 v (makeM (allOf rows)).length ((makeM (allOf rows)).map (Value.int .i64)) ∧ Below w.heap.size w w' := by
  have H := Lib.hid h
  have hal := allOf_len rows
  generalize hM : makeM (allOf rows) = M
  have HM := Lib.hid hM
  clear h hM
  go_enter Try.func71, Try.ntmps71
  go_upto_region 2 with (go_at_call 72; refine (concat_ok cap H.out ht hr).mono ?_; rintro e w1 ⟨v1, rfl, ho1, hb1⟩; have Ho1 := Lib.hid ho1; have Hb1 := Lib.hid hb1; clear ho1 hb1)
  have hsz1 := Hb1.out.size
  rcases own_cases Ho1.out hal.symm with ⟨rfl, h0⟩ | ⟨g, c, rfl, hown, hgb, hc⟩
  · obtain rfl : M = [] := by
      rw [← HM.out, h0]
      unfold makeM
      simp only [List.filter_nil, List.mergeSort_nil]
      rfl
    clear h0 hal
    go_wp2_with (first | (go_at_call 73; refine (delete_nil _ _).mono ?_; rintro e w2 ⟨rfl, rfl⟩) | (go_at_call 75; refine (Try.slices_Sort_int_none none 0 _).mono ?_; rintro e w2 ⟨rfl, rfl⟩) | (go_at_call 76; refine (Try.slices_Compact_int_empty none 0 _).mono ?_; rintro e w2 ⟨rfl, rfl⟩))
    go_ret
    exact ⟨_, rfl, World.ownsRow_nil _ _ _ _, Hb1.out⟩
  · have hl1 : (allOf rows).length ≤ 1000000 := by omega
    have hM2 := HM.out
    unfold makeM at hM2
    clear HM
    generalize allOf rows = zs at *
    have Hown := Lib.hid hown
    clear hown Ho1 hal
    go_upto_region 3 with (go_at_call 73; refine (delete_own Hown.out (by omega)).mono ?_; rintro e w2 ⟨rfl, ho2, hg2⟩; have Ho2 := Lib.hid ho2; have Hb2 := Lib.hid (below_grow Hb1.out hg2 hsz1 hgb); clear ho2 hg2)
    have hl2 : (zs.filter fun x => !decide (x < 0)).length ≤ zs.length := List.length_filter_le _ _
    generalize (zs.filter fun x => !decide (x < 0)) = fs at *
    have hsz2 := Hb2.out.size
    go_upto_region 4 with (go_at_call 75; refine (sort_own Ho2.out (by omega)).mono ?_; rintro e w3 ⟨rfl, ho3, hg3⟩; have Ho3 := Lib.hid ho3; have Hb3 := Lib.hid (below_grow Hb2.out hg3 hsz2 hgb); clear ho3 hg3)
    have hl3 : (fs.mergeSort fun x y => decide (x ≤ y)).length = fs.length := List.length_mergeSort _
    have Hl3 := Lib.hid hl3
    have hsz3 := Hb3.out.size
    clear hl3
    have hl33 := Hl3.out
    rw [← hl33]
    clear hl33
    generalize (fs.mergeSort fun x y => decide (x ≤ y)) = ms at *
    have hl4 : ms.length ≤ 1000000 := by rw [Hl3.out]; omega
    have HM3 := Lib.hid hM2
    clear hM2
    go_wp2_with (go_at_call 76; refine (compact_own Ho3.out (by omega)).mono ?_; rintro e w4 ⟨rfl, ho4, hg4⟩; have Ho4 := Lib.hid ho4; have Hb4 := Lib.hid (below_grow Hb3.out hg4 hsz3 hgb); clear ho4 hg4)
    go_ret
    rw [← HM3.out]
    exact ⟨_, rfl, Ho4.out, Hb4.out⟩
end Go.Proofs.Ytlipnnibagidiaa

/- Make. -/
namespace Go.Proofs.Ytlipnnibagidiaa
open Go.RowKit Go.Lib

theorem make_ok {w : World} {A : Option Addr} {zs : List Int} (cap : Nat) (h : Row w A zs) (hn : A = none → cap = 0) :
    Calls Try.prog 64 #[.slice A zs.length cap] w fun e w' => ∃ v, e = .returned v ∧ w'.ownsRow w.heap.size 3 1 v (makeM zs).length ((makeM zs).map (Value.int .i64)) ∧ Below w.heap.size w w' := by
  have hb : Below w.heap.size w (w.alloc (.cells #[.slice A zs.length cap] 37)) := (Below.refl _ w).alloc (Nat.le_refl _) _
  have hlen : zs.length ≤ 1000000 := Nat.le_trans h.len (by decide)
  have hrows : RowsAt (w.alloc (.cells #[.slice A zs.length cap] 37)) w.heap.size [(A, cap, zs)] := by
    refine ⟨by simp, fun k hk => ?_⟩
    have hk0 : k = 0 := by simpa using hk
    subst hk0
    exact ⟨(Blk.new w _ _).cell 0, h.below hb, hn⟩
  have Hb := Lib.hid hb
  have Hrows := Lib.hid hrows
  have hall : allOf [(A, cap, zs)] = zs := by simp [allOf]
  have htot : total [(A, cap, zs)] ≤ 1000000 := by simp [total]; exact hlen
  have Hall := Lib.hid hall
  clear h hb hrows hall hn
  go_enter Try.func64, Try.ntmps64
  go_wp2_with (go_at_call 71; refine (join_ok (rows := [(A, cap, zs)]) 1 Hrows.out htot (by simp)).mono ?_; rintro e w1 ⟨v, rfl, ho, hb1⟩; rw [Hall.out] at ho; have Ho := Lib.hid (own_base ho (fun g hg => Nat.le_trans Hb.out.size (ho.lt g hg).1)); have Hb1 := Lib.hid (Hb.out.trans (hb1.mono Hb.out.size)); clear ho hb1)
  go_ret
  exact ⟨_, rfl, Ho.out, Hb1.out⟩
end Go.Proofs.Ytlipnnibagidiaa

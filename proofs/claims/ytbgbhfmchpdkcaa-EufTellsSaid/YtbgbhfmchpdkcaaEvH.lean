/- gantrylaw23.two. -/
import Derived.Test.YtbgbhfmchpdkcaaEvF
import Derived.Laws.OwnMore
namespace Go.Proofs.Ytbgbhfmchpdkcaa
open Go.RowKit

def NewOwn (w : World) (e : Ending) (w' : World) : Prop := ∃ g, e = .returned (.agg #[.slice (some ⟨g, 0, none⟩) 2 2]) ∧ w'.ownsRow w.heap.size 52 8 (.slice (some ⟨g, 0, none⟩) 2 2) 2 (twoNd.flatMap nodeCells) ∧ Below w.heap.size w w'
theorem rnew_own (w : World) : Calls Try.prog 40 #[] w (NewOwn w) := by
  have H : Hid (NewOwn w (.returned (.agg #[.slice (some ⟨w.heap.size + 1, 0, none⟩) 2 2])) ((w.alloc (.cells #[.slice (some ⟨w.heap.size + 1, 0, none⟩) 2 2] 24)).alloc (.cells (twoNd.flatMap nodeCells).toArray 52))) := Lib.hid ⟨_, rfl, ⟨rfl, .inr ⟨_, 2, (twoNd.flatMap nodeCells).toArray, rfl, by omega, Blk.new_at (by simp) _ _, by decide, by decide, rfl, rfl⟩⟩, ((Below.refl _ w).alloc (Nat.le_refl _) _).alloc (by simp) _⟩
  go_enter Try.func40, Try.ntmps40
  go_wp2
  refine bodyPost_ret (v := .agg #[.slice (some ⟨w.heap.size + 1, 0, none⟩) 2 2]) (by simp [results, Try.results40, go_sem]) rfl ?_
  exact H.out
theorem wak_wf : ∀ n ∈ wakT, NdWf n := by
  intro n hn
  simp only [wakT, List.mem_cons, List.not_mem_nil, or_false] at hn
  rcases hn with rfl | rfl | rfl | rfl | rfl | rfl | rfl | rfl
  all_goals
    refine ⟨by decide, by decide, fun j => ?_, by decide, by decide, by decide⟩
    unfold Nd.arg
    repeat' split
    all_goals decide
theorem own_tab {w : World} {B g c : Nat} (h : w.ownsRow B 52 8 (.slice (some ⟨g, 0, none⟩) (2 + 6) c) (2 + 6) (twoNd.flatMap nodeCells ++ (wakT.drop 2).flatMap nodeCells)) : Tab w (some ⟨g, 0, none⟩) wakT := by
  have e : twoNd.flatMap nodeCells ++ (wakT.drop 2).flatMap nodeCells = wakT.flatMap nodeCells := rfl
  rw [e] at h
  refine ⟨by decide, .inr ⟨g, 0, rfl, own_lt h, fun i hi => ⟨own_lt h, fun j hj => ?_, wak_wf _ (List.getElem_mem hi)⟩⟩⟩
  have := own_cell nodeCells (fun _ => rfl) h hi hj
  simpa using this
def TwoIs (w : World) (e : Ending) (w' : World) : Prop := ∃ A c, e = .returned (.agg #[.slice A 8 c]) ∧ 8 ≤ c ∧ Tab w' A wakT ∧ Below w.heap.size w w'
set_option maxRecDepth 100000 in
set_option maxHeartbeats 2000000 in
theorem two_ok (w : World) : Calls Try.prog 18 #[] w (TwoIs w) := by
  have hfd : ∀ (W : World) (a : Option Addr) (l c : Nat), (Instr.field 24 (.agg #[.slice a l c]) 0).run Try.prog W = .ok (.slice a l c) W := fun _ _ _ _ => by kernel_rfl
  obtain ⟨i0, hi, hz0, hz1, hz2⟩ := info_parts node_info
  go_enter Try.func18, Try.ntmps18
  go_wp2_with fail
  refine (rnew_own _).mono ?_
  rintro e w1 ⟨g, rfl, hown, hb⟩
  have HO2 : Hid (w1.ownsRow (w.heap.size + 1) 52 8 (.slice (some ⟨g, 0, none⟩) 2 2) 2 (twoNd.flatMap nodeCells)) := Lib.hid (by simpa using hown)
  have HB2 : Hid (w.heap.size + 1 ≤ w1.heap.size) := Lib.hid (by simpa using hb.size)
  have HB := Lib.hid hb
  have hB1 : Below w.heap.size w (w.alloc (.cells #[.slice none 0 0] 24)) := (Below.refl _ w).alloc (Nat.le_refl _) _
  have HBW : Hid (Below w.heap.size w w1) := Lib.hid (hB1.trans (hb.mono (by simp)))
  have HX : Hid (Blk w1 w.heap.size 24 #[.slice none 0 0]) := Lib.hid ((Blk.new w _ _).below hb (by simp))
  have hg := own_lt hown
  clear hB1
  clear hown hb
  go_wp2_with (at_builtin; (refine wpList_append_lies _ rfl (.tmp 3) (.tmp 18) 22 rfl (w.heap.size + 1) 52 i0 (.agg #[.int .i8 0, .int .i8 0, .int .i64 0, .int .i64 0, .int .i64 0, .int .i64 0, .int .i64 0, .int .i64 0]) 8 56 Try.underlying22 hi hz0 hz1 hz2 rfl (by decide) _ 2 (twoNd.flatMap nodeCells) rfl (own_kept HO2.out ((Kept.refl (fun _ => False) w1).alloc _) (fun _ _ h => h)) ⟨w1.heap.size, 0, none⟩ 6 6 ((wakT.drop 2).flatMap nodeCells) rfl rfl (World.news_of_block (Blk.new w1 _ _)) (by decide) (by decide) (by decide) (by decide) (by simp; have := HB2.out; omega) _ rfl ?_; intro ga ca w3 ho3 hg3 _ _; have HO3 := Lib.hid ho3; have HB3 := Lib.hid (Below.grown (HBW.out.alloc (by have := HB2.out; omega) _) hg3 (by have := HB2.out; simp; omega) (fun k hk => Nat.le_of_succ_le (HO2.out.lt k hk).1)); have HX3 := Lib.hid ((HX.out.alloc (.cells ((wakT.drop 2).flatMap nodeCells).toArray 52)).grown hg3 (fun e => own_blk_ne HO2.out HX.out (by decide) e.symm)); have cx := HX3.out.cell 0; have fx := HX3.out.frozen 0; simp only [List.getElem?_toArray, List.getElem?_cons_zero] at cx; clear ho3 hg3))
  refine bodyPost_ret (v := .agg #[.slice (some ⟨ga, 0, none⟩) 8 ca]) ?_ rfl ?_
  · have c1 := (HX3.out.set_ 0 (.slice (some ⟨ga, 0, none⟩) 8 ca)).cell 0
    simp only [List.getElem?_toArray, List.getElem?_cons_zero, List.setIfInBounds_toArray, List.set_cons_zero] at c1
    simp [results, Try.results18, go_sem, c1]
  · have ho4 := own_kept HO3.out (Kept.set1 w3 w.heap.size 0 (.slice (some ⟨ga, 0, none⟩) 8 ca)) (fun k hk e => own_blk_ne HO3.out HX3.out (by decide) (by rw [hk, e]))
    refine ⟨_, ca, rfl, by obtain ⟨_, _, e, _, _, hc⟩ := own_form ho4 (by omega); injection e with _ _ e; omega, own_tab ho4, ?_⟩
    exact HB3.out.setCell (Nat.le_refl _) _
end Go.Proofs.Ytbgbhfmchpdkcaa

/- gantrylaw23.wakes. -/
namespace Go.Proofs.Ytbgbhfmchpdkcaa
open Go.RowKit

/-- A literal row of ints. -/
theorem lit_row (w : World) (L : List Int) (hl : L.length ≤ 300) : Row (w.alloc (.cells (L.map (Value.int .i64)).toArray 3)) (some ⟨w.heap.size, 0, none⟩) L := by
  have h : OwnL (w.alloc (.cells (L.map (Value.int .i64)).toArray 3)) w.heap.size (.slice (some ⟨w.heap.size, 0, none⟩) L.length L.length) L := ⟨by simp, .inr ⟨_, _, (L.map (Value.int .i64)).toArray, rfl, Nat.le_refl _, Blk.new w _ _, Nat.le_refl _, by unfold maxLen; omega, by simp, by rw [Nat.mul_one, List.take_of_length_le (by simp)]⟩⟩
  obtain ⟨A, cap, e, hr, _⟩ := h.row (by omega)
  injection e with e
  subst e
  exact hr
set_option maxRecDepth 100000 in
set_option maxHeartbeats 2000000 in
theorem wakes_ok (w : World) : Calls Try.prog 6 #[] w (fun e w' => e = .returned (.bool true) ∧ Below w.heap.size w w') := by
  go_enter Try.func6, Try.ntmps6
  go_wp2_with fail
  refine (two_ok _).mono ?_
  rintro e w1 ⟨A1, c1, rfl, hc1, ht1, hb1⟩
  go_wp2_with fail
  refine (close_ok (T := wakT) (L := [12, 15]) 2 (ht1.below ((Below.refl _ w1).alloc (Nat.le_refl _) _)) hc1 (by decide) (by decide) (lit_row w1 [12, 15] (by decide))).mono ?_
  rintro e w2 ⟨v1, cs, bd, er, rfl, ho2, hb2, hbd, hcl⟩
  obtain ⟨rfl, hcl2⟩ : er = 0 ∧ Classes wakT (told wakT [12, 15]) cs := by
    rcases hcl with ⟨_, e1, e2⟩ | ⟨hn, _⟩
    · exact ⟨e1, e2⟩
    · exact absurd wak_bad.1 hn
  obtain rfl : bd = true := hbd.2 wak_bad
  have hn9 : cs.length = 9 := hcl2.1
  obtain ⟨g1, k1, rfl, hg1⟩ := own_form ho2 (by omega)
  rw [hn9]
  have HB2 : Hid (Below w.heap.size w w2) := Lib.hid ((hb1.trans (((Below.refl _ w1).alloc (Nat.le_refl _) _).mono hb1.size)).trans (hb2.mono (by have := hb1.size; simp; omega)))
  clear ho2 hb2 hbd hcl hcl2 hg1 hb1 ht1
  go_wp2_with fail
  refine (two_ok _).mono ?_
  rintro e w3 ⟨A3, c3, rfl, hc3, ht3, hb3⟩
  go_wp2_with fail
  refine (close_ok (T := wakT) (L := [12]) 1 (ht3.below ((Below.refl _ w3).alloc (Nat.le_refl _) _)) hc3 (by decide) (by decide) (lit_row w3 [12] (by decide))).mono ?_
  rintro e w4 ⟨v2, ds, bd, er, rfl, ho4, hb4, hbd, hcl⟩
  obtain ⟨rfl, hcl4⟩ : er = 0 ∧ Classes wakT (told wakT [12]) ds := by
    rcases hcl with ⟨_, e1, e2⟩ | ⟨hn, _⟩
    · exact ⟨e1, e2⟩
    · exact absurd (wak_mays fun x hx => .inl (by simpa using hx)) hn
  obtain rfl : bd = false := by
    cases bd with
    | false => rfl
    | true => exact absurd (hbd.1 rfl) wak_good
  have hm9 : ds.length = 9 := hcl4.1
  obtain ⟨g2, k2, rfl, hg2⟩ := own_form ho4 (by omega)
  have HR4 : Hid (Row w4 (some ⟨g2, 0, none⟩) ds) := Lib.hid (by
    obtain ⟨A, cap, e, hr, _⟩ := ho4.row (by omega)
    injection e with e
    subst e
    exact hr)
  have HONE : Hid (oneL ds 4 5 = true) := Lib.hid (by
    have := hcl4.same (i := 4) (k := 5) (by omega) (by omega) (wak_45 (by simp))
    simp only [oneL, inB, atC, hm9, List.getD_eq_getElem?_getD]
    rw [show (4 : Int).toNat = 4 from rfl, show (5 : Int).toNat = 5 from rfl, List.getElem?_eq_getElem (by omega), List.getElem?_eq_getElem (by omega), this]
    simp)
  have HB4 : Hid (Below w.heap.size w w4) := Lib.hid (HB2.out.trans (((hb3.trans (((Below.refl _ w3).alloc (Nat.le_refl _) _).mono hb3.size)).trans (hb4.mono (by have := hb3.size; simp; omega))).mono HB2.out.size))
  clear hb4 hbd hcl hcl4 hg2 hb3 ht3 ho4
  have HN9 := Lib.hid hm9
  rw [hm9]
  go_wp2_with fail
  have KO : Hid (Calls Try.prog 10 #[.slice (some ⟨g2, 0, none⟩) 9 k2, .int .i64 4, .int .i64 5] w4 fun e w' => e = .returned (.bool true) ∧ Below w4.heap.size w4 w') := Lib.hid (by
    have := one_fn k2 HR4.out 4 5
    rw [HN9.out, HONE.out] at this
    exact this)
  refine KO.out.mono ?_
  rintro e w5 ⟨rfl, hb5⟩
  have HB5 := Lib.hid (HB4.out.trans (hb5.mono HB4.out.size))
  clear hb5
  go_wp2_with fail
  refine (two_ok _).mono ?_
  rintro e w6 ⟨A6, c6, rfl, hc6, ht6, hb6⟩
  have HB6 := Lib.hid (HB5.out.trans (hb6.mono HB5.out.size))
  go_wp2_with fail
  refine (lemma_ok (T := wakT) (L := [13, 14]) 2 (ht6.below ((Below.refl _ w6).alloc (Nat.le_refl _) _)) hc6 (by decide) (by decide) (lit_row w6 [13, 14] (by decide))).mono ?_
  rintro e w7 ⟨r7, rfl, hr7, hb7⟩
  obtain rfl : r7 = true := hr7.2 wak_lem
  have HB7 := Lib.hid ((HB6.out.alloc HB6.out.size _).trans (hb7.mono (by have := HB6.out.size; simp; omega)))
  clear hb7 ht6 hb6 hr7
  go_wp2_with fail
  refine (two_ok _).mono ?_
  rintro e w8 ⟨A8, c8, rfl, hc8, ht8, hb8⟩
  have HB8 := Lib.hid (HB7.out.trans (hb8.mono HB7.out.size))
  go_wp2_with fail
  refine (lemma_ok (T := wakT) (L := [13]) 1 (ht8.below ((Below.refl _ w8).alloc (Nat.le_refl _) _)) hc8 (by decide) (by decide) (lit_row w8 [13] (by decide))).mono ?_
  rintro e w9 ⟨r9, rfl, hr9, hb9⟩
  obtain rfl : r9 = false := by
    cases r9 with
    | false => rfl
    | true => exact absurd (hr9.1 rfl) wak_nolem
  have HB9 := Lib.hid ((HB8.out.alloc HB8.out.size _).trans (hb9.mono (by have := HB8.out.size; simp; omega)))
  clear hb9 ht8 hb8 hr9
  go_wp2_with fail
  go_ret
  exact ⟨rfl, HB9.out⟩
end Go.Proofs.Ytbgbhfmchpdkcaa

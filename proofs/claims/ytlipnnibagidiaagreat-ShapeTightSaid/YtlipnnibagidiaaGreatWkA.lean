/- gantrylaw14.wakes: the table, what its clauses are. -/
import Derived.Test.YtlipnnibagidiaaGreatRdF
import Derived.Test.YtlipnnibagidiaaGreatGrF
namespace Go.Proofs.YtlipnnibagidiaaGreat
open Go.RowKit Go.Lib
theorem row_cells {w : World} {b off : Nat} {zs : List Int} (hc : ∀ i (h : i < zs.length), w.cell? ⟨b, off + i, none⟩ = some (.int .i64 zs[i])) : ∀ j, j < zs.length → w.cell? ⟨b, off + j, none⟩ = some (.int .i64 (zs.getD j 0)) := fun j hj => by
  rw [hc j hj, List.getD_eq_getElem?_getD, List.getElem?_eq_getElem hj]; rfl
theorem equal_ok {w : World} {A B : Option Addr} {xs ys : List Int} (c d : Nat) (h : Row w A xs) (k : Row w B ys) :
    Calls Tryz.prog 50 #[.slice A xs.length c, .slice B ys.length d] w fun e w' => e = .returned (.bool (xs == ys)) ∧ ∃ q, w' = w.drewN q := by
  have hl := h.len
  have kl := k.len
  by_cases hne : xs.length = ys.length
  · rcases h.at_ with h0 | ⟨b, off, rfl, _, hc⟩
    · have hx : xs = [] := List.eq_nil_of_length_eq_zero h0
      have hy : ys = [] := List.eq_nil_of_length_eq_zero (by omega)
      subst hx hy
      exact (Tryz.slices_Equal_int_empty A B c 0 d w (by omega)).mono fun e w' ⟨h1, h2⟩ => ⟨by rw [h1]; rfl, 0, h2⟩
    · rcases k.at_ with k0 | ⟨b2, off2, rfl, _, kc⟩
      · have hx : xs = [] := List.eq_nil_of_length_eq_zero (by omega)
        have hy : ys = [] := List.eq_nil_of_length_eq_zero k0
        subst hx hy
        exact (Tryz.slices_Equal_int_empty _ B c 0 d w (by omega)).mono fun e w' ⟨h1, h2⟩ => ⟨by rw [h1]; rfl, 0, h2⟩
      · refine (Tryz.slices_Equal_int b off xs.length c b2 off2 ys.length d xs ys w (Nat.le_refl _) (Nat.le_refl _) (by omega) (by omega) (row_cells hc) (row_cells kc)).mono fun e w' ⟨h1, h2⟩ => ⟨?_, h2⟩
        rw [h1, List.take_of_length_le (Nat.le_refl _), List.take_of_length_le (Nat.le_refl _)]
  · refine (Tryz.slices_Equal_int_lens A B xs.length c ys.length d w hne).mono fun e w' ⟨h1, h2⟩ => ⟨?_, 0, h2⟩
    have : (xs == ys) = false := beq_eq_false_iff_ne.2 fun h => hne (by rw [h])
    rw [h1, this]
set_option maxHeartbeats 1000000 in
theorem shis1_ok {w : World} {p cB : Nat} {B : Option Addr} {cs : List Int} {r : Option Addr × Nat × List Int} (h0 : w.cell? ⟨p, 0, none⟩ = some (.slice B cs.length cB)) (hB : Row w B cs) (hr : Row w r.1 r.2.2) :
    Calls Tryz.prog 49 (#[encR r] ++ #[.pointer (some ⟨p, 0, none⟩)]) w fun e w' => e = .returned (.bool (cs == r.2.2)) ∧ Below w.heap.size w w' := by
  obtain ⟨ra, rc, rl⟩ := r
  dsimp only at hr ⊢
  have KS := Lib.hid (equal_ok rc cB hr hB)
  rw [show (cs == rl) = (rl == cs) from BEq.comm]
  obtain ⟨q, hq⟩ : ∃ q, (rl == cs) = q := ⟨_, rfl⟩
  rw [hq] at KS ⊢
  clear hq hB hr
  show Calls Tryz.prog 49 #[.slice ra rl.length rc, .pointer (some ⟨p, 0, none⟩)] w _
  go_enter Tryz.func49, Tryz.ntmps49
  go_wp2_with (go_at_call 50; refine KS.out.mono ?_; rintro e w2 ⟨rfl, n2, rfl⟩)
  go_ret
  exact ⟨rfl, below_drewN (Below.refl _ w) n2⟩
set_option maxRecDepth 100000 in
set_option maxHeartbeats 2000000 in
theorem shis_ok {T : List Nd} {w : World} {A B : Option Addr} {cs : List Int} (c cB : Nat) (hc : T.length ≤ c) (h : Tab w A T) (hw : Well T) (hI : IteOk T) (k : Nat) (hk : k < T.length) (hB : Row w B cs) (hm : cs ∈ shapeP T k) :
    Calls Tryz.prog 22 #[.agg #[.slice A T.length c], .int .i64 (k : Nat), .slice B cs.length cB] w (fun e w' => e = .returned (.bool true) ∧ Below w.heap.size w w') := by
  have hclen := hB.len
  obtain ⟨w0, hw0⟩ : ∃ w0, (w.alloc (.cells #[.slice A T.length c] 33)).alloc (.cells #[.slice B cs.length cB] 27) = w0 := ⟨_, rfl⟩
  have HB0 : Hid (Below w.heap.size w w0) := Lib.hid (by rw [← hw0]; exact ((Below.refl _ w).alloc (Nat.le_refl _) _).alloc (by simp) _)
  have HC0 : Hid (Blk w0 (w.heap.size + 1) 27 #[.slice B cs.length cB]) := Lib.hid (by rw [← hw0]; exact Blk.new_at (by simp) _ _)
  have HT0 : Hid (Blk w0 w.heap.size 33 #[.slice A T.length c]) := Lib.hid (by rw [← hw0]; exact (Blk.new w _ _).alloc _)
  have a0 := HT0.out.cell 0
  simp only [List.getElem?_toArray, List.getElem?_cons_zero] at a0
  have KO := Lib.hid (shof_ok c hc (h.below HB0.out) hw hI k hk)
  have HRw := Lib.hid (hB.below HB0.out)
  have HM := Lib.hid hm
  clear hc h hw hI hk hB hm
  go_enter Tryz.func22, Tryz.ntmps22
  go_wp2_with fail
  refine KO.out.mono ?_
  rintro e w1 ⟨v, rows, rfl, hg, hrw, hb⟩
  have HB1 := Lib.hid (HB0.out.trans (hb.mono HB0.out.size))
  have HC1 := Lib.hid (HC0.out.below hb HC0.out.lt)
  have HR1 := Lib.hid (HRw.out.below hb)
  have HAny : Hid (rows.any (fun r => cs == r.2.2) = true) := Lib.hid (by
    rw [← hrw] at HM
    obtain ⟨r, hr, e⟩ := List.mem_map.1 HM.out
    exact List.any_eq_true.2 ⟨r, hr, by rw [← e]; exact beq_self_eq_true _⟩)
  obtain ⟨VA, vc, rfl, _⟩ := hg.form
  have KC := Lib.hid (gcontains_ok (w := w1) vc 49 #[.pointer (some ⟨w.heap.size + 1, 0, none⟩)] (fun r => cs == r.2.2) (fun _ _ => rfl) hg (fun W r hr hW => shis1_ok (cB := cB) (by
      have := (HC1.out.below hW HC1.out.lt).cell 0
      simp only [List.getElem?_toArray, List.getElem?_cons_zero] at this
      exact this) (HR1.out.below hW) ((hg.rows r hr).1.row.below hW)))
  rw [HAny.out] at KC
  clear hg hrw hb hw0
  go_wp2_with fail
  refine KC.out.mono ?_
  rintro e w2 ⟨rfl, hb2⟩
  have HB2 := Lib.hid (HB1.out.trans (hb2.mono HB1.out.size))
  clear hb2
  go_wp2
  go_ret
  exact ⟨rfl, HB2.out⟩
def shA : List Nd := [trueNd, zeroNd, ⟨13, 0, 0, 0, 0, 0, 0, 0⟩, ⟨13, 0, 0, 0, 0, 0, 1, 0⟩, ⟨2, 2, 2, 3, 0, 0, 0, 0⟩]
theorem shA_core : coreB shA = true := by decide +kernel
theorem shA_srt : ∀ n ∈ shA, n.op ≠ 13 → opSort n.op (ndAt shA n.a0).sort (ndAt shA n.a1).sort (ndAt shA n.a2).sort = some n.sort := by decide +kernel
theorem shA_noeq : ∀ n ∈ shA, noeqN shA n := by
  intro n hn
  simp only [shA, List.mem_cons, List.not_mem_nil, or_false] at hn
  rcases hn with rfl | rfl | rfl | rfl | rfl <;> unfold noeqN <;> decide
theorem shA_well : Well shA := ⟨coreB_iff.1 shA_core, fun n hn => shA_srt n hn, shA_noeq⟩
theorem shA_ite : IteOk shA := by
  intro i n hi ho
  have hn := List.mem_of_getElem? hi
  simp only [shA, List.mem_cons, List.not_mem_nil, or_false] at hn
  rcases hn with rfl | rfl | rfl | rfl | rfl <;> exact absurd ho (by decide)
theorem make_is {l m : List Int} (ho : Ord m) (h : ∀ x, x ∈ m ↔ x ∈ l ∧ 0 ≤ x) : makeM l = m := ord_ext (make_ord l) ho fun x => (mem_make l x).trans (h x).symm
theorem shA_c4 : clausesP shA 4 = [[9, 4], [9, 6], [8, 5, 7]] := by decide +kernel
theorem shA_4 : shapeP shA 4 = [[4, 9], [6, 9], [5, 7, 8]] := by
  unfold shapeP
  rw [shA_c4]
  simp only [List.map_cons, List.map_nil]
  rw [make_is (l := [9, 4]) (m := [4, 9]) (by unfold Ord; decide) (fun x => by simp only [List.mem_cons, List.not_mem_nil, or_false]; omega), make_is (l := [9, 6]) (m := [6, 9]) (by unfold Ord; decide) (fun x => by simp only [List.mem_cons, List.not_mem_nil, or_false]; omega), make_is (l := [8, 5, 7]) (m := [5, 7, 8]) (by unfold Ord; decide) (fun x => by simp only [List.mem_cons, List.not_mem_nil, or_false]; omega)]
theorem shA_2 : shapeP shA 2 = [] := by decide +kernel
theorem shA_wf : ∀ n ∈ shA, NdWf n := by
  intro n hn
  simp only [shA, List.mem_cons, List.not_mem_nil, or_false] at hn
  rcases hn with rfl | rfl | rfl | rfl | rfl
  all_goals
    refine ⟨by decide, by decide, fun j => ?_, by decide, by decide, by decide⟩
    unfold Nd.arg
    repeat' split
    all_goals decide
theorem own_tabA {w : World} {B g c : Nat} (h : w.ownsRow B 51 8 (.slice (some ⟨g, 0, none⟩) (2 + 3) c) (2 + 3) (twoNd.flatMap nodeCells ++ (shA.drop 2).flatMap nodeCells)) : Tab w (some ⟨g, 0, none⟩) shA := by
  have e : twoNd.flatMap nodeCells ++ (shA.drop 2).flatMap nodeCells = shA.flatMap nodeCells := rfl
  rw [e] at h
  refine ⟨by decide, .inr ⟨g, 0, rfl, own_lt h, fun i hi => ⟨own_lt h, fun j hj => ?_, shA_wf _ (List.getElem_mem hi)⟩⟩⟩
  have := own_cell nodeCells (fun _ => rfl) h hi hj
  simpa using this
set_option maxRecDepth 100000 in
theorem w14of_ok {w : World} {A : Option Addr} (c : Nat) (hc : 5 ≤ c) (h : Tab w A shA) :
    Calls Tryz.prog 17 #[.agg #[.slice A 5 c], .int .i64 4] w fun e w' => ∃ b off q b2 off2 q2, e = .returned (.tuple #[.slice (some ⟨b, off, none⟩) 3 q, .int .i64 0]) ∧ w'.cell? ⟨b, off, none⟩ = some (.slice (some ⟨b2, off2, none⟩) 2 q2) ∧ w'.cell? ⟨b2, off2, none⟩ = some (.int .i64 4) ∧ w'.cell? ⟨b2, off2 + 1, none⟩ = some (.int .i64 9) ∧ b < w'.heap.size ∧ b2 < w'.heap.size ∧ 3 ≤ q ∧ 2 ≤ q2 ∧ Below w.heap.size w w' := by
  have k := shof_ok (T := shA) c hc h shA_well shA_ite 4 (by decide)
  rw [show ((4 : Nat) : Int) = 4 from rfl, show shA.length = 5 from rfl] at k
  refine k.mono ?_
  clear k
  rintro e w' ⟨v, rows, rfl, hg, hr, hb⟩
  have hr : rows.map (fun r => r.2.2) = [[4, 9], [6, 9], [5, 7, 8]] := hr.trans shA_4
  obtain ⟨x, y, z, hx⟩ : ∃ x y z, rows = [x, y, z] := by
    have h1 := congrArg List.length hr
    rw [List.length_map] at h1
    match rows, h1 with
    | [x, y, z], _ => exact ⟨x, y, z, rfl⟩
  obtain ⟨a, q2, l⟩ := x
  subst hx
  have hl : l = [4, 9] := by
    simp only [List.map_cons, List.cons.injEq] at hr
    exact hr.1
  subst hl
  obtain ⟨VA, q, rfl, _, hq, hat⟩ := hg.form
  obtain ⟨b, off, rfl, _, hlt, hcell⟩ := hat.resolve_left (by simp)
  obtain ⟨hrow, _, hq2⟩ := hg.rows (a, q2, [4, 9]) (by simp)
  obtain ⟨b2, off2, ha, _, hlt2, hcell2⟩ := hrow.at_.resolve_left (by simp)
  simp only at ha
  subst ha
  exact ⟨b, off, q, b2, off2, q2, rfl, hcell 0 (by simp), hcell2 0 (by simp), hcell2 1 (by simp), hlt, hlt2, hq, hq2, hb⟩
theorem w14is_ok {w : World} {A B : Option Addr} (c cB : Nat) (hc : 5 ≤ c) (h : Tab w A shA) (hB : Row w B [5, 7, 8]) :
    Calls Tryz.prog 22 #[.agg #[.slice A 5 c], .int .i64 4, .slice B 3 cB] w fun e w' => e = .returned (.bool true) ∧ Below w.heap.size w w' :=
  by
  have k := shis_ok (T := shA) c cB hc h shA_well shA_ite 4 (by decide) hB (by
    show [5, 7, 8] ∈ shapeP shA 4
    rw [shA_4]
    decide)
  rw [show ((4 : Nat) : Int) = 4 from rfl, show shA.length = 5 from rfl, show [(5 : Int), 7, 8].length = 3 from rfl] at k
  exact k
theorem w14count_ok {w : World} {A : Option Addr} (c : Nat) (hc : 5 ≤ c) (h : Tab w A shA) :
    Calls Tryz.prog 20 #[.agg #[.slice A 5 c], .int .i64 2] w fun e w' => e = .returned (.int .i64 0) ∧ Below w.heap.size w w' := by
  have k := shcount_ok (T := shA) c hc h shA_well shA_ite 2 (by decide)
  rw [show ((2 : Nat) : Int) = 2 from rfl, show shA.length = 5 from rfl, shA_2] at k
  exact k
end Go.Proofs.YtlipnnibagidiaaGreat

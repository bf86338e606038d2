/- A layer puts a difference: layer.diff. -/
import Derived.Test.YtlipnnibagidiaaGreatSwP
import Derived.Test.YtlipnnibagidiaaGreatShS
namespace Go.Proofs.YtlipnnibagidiaaGreat
open Go.RowKit

structure LayS (w : World) (l : Nat) (T : List Nd) (most e : Int) (A : Option Addr) (c : Nat) : Prop where
  lay : LayAt w l A T.length c most e
  tab : Tab w A T
  cap : T.length ≤ c
  ne : ∀ b, A = some b → b.block ≠ l
set_option maxRecDepth 100000 in
set_option maxHeartbeats 4000000 in
theorem ldiff_ok {w : World} {l : Nat} {T : List Nd} {most e : Int} {A : Option Addr} {c : Nat} (h : LayS w l T most e A c) (hl : T.length < 100000) (ho : TabOk T → ordB T = true) (x y : Int) (hx : In64 x) (hy : In64 y) :
    Calls Tryz.prog 55 #[.pointer (some ⟨l, 0, none⟩), .int .i64 x, .int .i64 y] w fun r w' => r = .returned (.tuple #[]) ∧
      (∃ A' c', LayS w' l (diffS T most e x y).1 most (diffS T most e x y).2 A' c') ∧ Kept (fun b => b = l) w w' := by
  have KD := Lib.hid (diff_ok c x y 0 hx hy h.cap h.tab ho)
  have KL := Lib.hid (fun (W : World) (hW : Below w.heap.size w W) => le_ok c x y 0 most hx hy h.cap (h.tab.below hW) hl ho)
  have HB := Lib.hid h.lay.blk
  have H := Lib.hid h
  have c0 := h.lay.blk.cell 0
  have c1 := h.lay.blk.cell 1
  have c2 := h.lay.blk.cell 2
  have f2 := h.lay.blk.frozen 2
  simp only [List.getElem?_toArray, List.getElem?_cons_zero, List.getElem?_cons_succ] at c0 c1 c2
  clear h ho
  by_cases t : e = 0
  rotate_left
  · have d : (e == 0) = false := by simp [t]
    have HS : Hid (diffS T most e x y = (T, e)) := Lib.hid (by unfold diffS; rw [if_pos t])
    clear t
    go_enter Tryz.func55, Tryz.ntmps55
    go_wp2
    refine bodyPost_ret (v := .tuple #[]) (results_none rfl _ _ _) rfl ⟨rfl, ?_, Kept.refl _ _⟩
    rw [HS.out]
    exact ⟨A, c, H.out⟩
  subst t
  go_enter Tryz.func55, Tryz.ntmps55
  go_wp2_with fail
  refine KD.out.mono ?_
  rintro r w1 ⟨rfl, hb⟩
  generalize hD : diffT T x y 0 = p at *
  obtain ⟨p1, p2, p3, p4⟩ := p
  have HB1 := Lib.hid hb
  have hb1 := HB.out.below hb HB.out.lt
  have HBL := Lib.hid hb1
  have a0 := hb1.cell 0
  have a1 := hb1.cell 1
  have a2 := hb1.cell 2
  have g2 := hb1.frozen 2
  simp only [List.getElem?_toArray, List.getElem?_cons_zero, List.getElem?_cons_succ] at a0 a1 a2
  have HS : Hid (diffS T most 0 x y = if p4 ≠ 0 ∨ p1 = p2 then (T, p4) else keepS T (leT T x y 0 most).T (leT T x y 0 most).e) := Lib.hid (by unfold diffS; rw [if_neg (by simp), hD])
  clear hb hb1 hD c0 c1 c2 f2
  by_cases t1 : p4 = 0
  rotate_left
  · have d1 : (p4 == 0) = false := by simp [t1]
    have HS' : Hid (diffS T most 0 x y = (T, p4)) := Lib.hid (by rw [HS.out, if_pos (.inl t1)])
    clear t1
    go_wp2
    refine bodyPost_ret (v := .tuple #[]) (results_none rfl _ _ _) rfl ⟨rfl, ?_, (Kept.of_below (S := fun b => b = l) HB1.out).setCell (.inl rfl) _⟩
    rw [HS'.out]
    have := HBL.out.set_ 2 (.int .i64 p4)
    refine ⟨A, c, ⟨⟨this⟩, (H.out.tab.below HB1.out).kept1 (Kept.set1 w1 l 2 _) H.out.ne, H.out.cap, H.out.ne⟩⟩
  subst t1
  by_cases t2 : p1 = p2
  · have d2 : (p1 == p2) = true := by simp [t2]
    have HS' : Hid (diffS T most 0 x y = (T, 0)) := Lib.hid (by rw [HS.out, if_pos (.inr t2)])
    clear t2
    go_wp2
    refine bodyPost_ret (v := .tuple #[]) (results_none rfl _ _ _) rfl ⟨rfl, ?_, (Kept.of_below (S := fun b => b = l) HB1.out).setCell (.inl rfl) _⟩
    rw [HS'.out]
    have := HBL.out.set_ 2 (.int .i64 0)
    refine ⟨A, c, ⟨⟨this⟩, (H.out.tab.below HB1.out).kept1 (Kept.set1 w1 l 2 _) H.out.ne, H.out.cap, H.out.ne⟩⟩
  have d2 : (p1 == p2) = false := by simp [t2]
  have HS' : Hid (diffS T most 0 x y = keepS T (leT T x y 0 most).T (leT T x y 0 most).e) := Lib.hid (by rw [HS.out, if_neg (by simp [t2])])
  clear t2
  go_upto_region 4 with (fail)
  have X1 := Lib.hid (show Below w.heap.size w w1.drew from below_drewN HB1.out 1)
  have X2 := Lib.hid (show Below w.heap.size w (w1.alloc (.cells #[.slice none 0 0] 33)).drew from below_drewN (HB1.out.alloc HB1.out.size _) 1)
  generalize leT T x y 0 most = r at *
  obtain ⟨T', id', is', e'⟩ := r
  go_region_held3 (fun w' => w'.cell? ⟨l, 0, none⟩ = some (.slice A T.length c) ∧ w'.cell? ⟨l, 1, none⟩ = some (.int .i64 most)) (go_keep) (first
    | (go_at_call 92; refine (KL.out _ X1.out).mono ?_; rintro r w2 ⟨A2, c2, rfl, ht, hc2, hf, hb⟩; have HT2 := Lib.hid ht; have HC2 := Lib.hid hc2; have HF2 := Lib.hid hf; have HB2 := Lib.hid hb; have hbl := (show Blk w1.drew l 100 #[.slice A T.length c, .int .i64 most, .int .i64 0] from HBL.out).below hb (by simp; have := HBL.out.lt; omega); have HBL2 := Lib.hid hbl; have b0 := hbl.cell 0; have b1 := hbl.cell 1; simp only [List.getElem?_toArray, List.getElem?_cons_zero, List.getElem?_cons_succ] at b0 b1; clear hbl; clear ht hc2 hf hb)
    | (go_at_call 92; refine (KL.out _ X2.out).mono ?_; rintro r w2 ⟨A2, c2, rfl, ht, hc2, hf, hb⟩; have HT2 := Lib.hid ht; have HC2 := Lib.hid hc2; have HF2 := Lib.hid hf; have HB2 := Lib.hid hb; have hbl := (show Blk (w1.alloc (.cells #[.slice none 0 0] 33)).drew l 100 #[.slice A T.length c, .int .i64 most, .int .i64 0] from HBL.out.alloc _).below hb (by simp; have := HBL.out.lt; omega); have HBL2 := Lib.hid hbl; have b0 := hbl.cell 0; have b1 := hbl.cell 1; simp only [List.getElem?_toArray, List.getElem?_cons_zero, List.getElem?_cons_succ] at b0 b1; clear hbl; have hx := (show Blk (w1.alloc (.cells #[.slice none 0 0] 33)).drew w1.heap.size 33 #[.slice none 0 0] from Blk.new w1 _ _).below hb (by simp); have HX := Lib.hid hx; have cx := hx.cell 0; have fx := hx.frozen 0; simp only [List.getElem?_toArray, List.getElem?_cons_zero] at cx; clear hx; have hbs := HBL2.out.kept (Kept.set1 w2 w1.heap.size 0 (.slice A2 T'.length c2)) (by have := HBL.out.lt; omega); have b0s := hbs.cell 0; have b1s := hbs.cell 1; simp only [List.getElem?_toArray, List.getElem?_cons_zero, List.getElem?_cons_succ] at b0s b1s; clear hbs; clear ht hc2 hf hb))
  all_goals go_wp2_with fail
  · have HW := Lib.hid (show LayAt (w2.alloc (.cells #[.slice A2 T'.length c2] 33)) l A T.length c most 0 from ⟨HBL2.out.alloc _⟩)
    have HNe : Hid (∀ b, A2 = some b → b.block ≠ l) := Lib.hid (fun b e => by
      rcases HF2.out b e with ⟨e1, _⟩ | h1
      · exact H.out.ne b e1
      · have := HBL.out.lt
        simp at h1
        omega)
    have HTW : Hid (Tab (w2.alloc (.cells #[.slice A2 T'.length c2] 33)) A2 T') := Lib.hid (HT2.out.alloc _)
    have HKW : Hid (Kept (fun b => b = l) w (w2.alloc (.cells #[.slice A2 T'.length c2] 33))) := Lib.hid (((Kept.of_below (S := fun b => b = l) X1.out).trans (Kept.of_below HB2.out)).alloc _)
    have HTO : Hid (Tab (w2.alloc (.cells #[.slice A2 T'.length c2] 33)) A T) := Lib.hid (H.out.tab.kept1 HKW.out H.out.ne)
    refine (keep_ok HW.out A2 T'.length c2 e').mono ?_
    rintro r w3 ⟨rfl, hlay, hk⟩
    have HL3 := Lib.hid hlay
    have HK3 := Lib.hid hk
    clear hlay hk
    go_wp2
    refine bodyPost_end (results_none rfl _ _ _) rfl ⟨rfl, ?_, HKW.out.trans HK3.out⟩
    rw [HS'.out]
    unfold keepS
    have hl3 := HL3.out
    by_cases te : e' = 0
    · rw [if_pos te] at hl3 ⊢
      exact ⟨A2, c2, hl3, HTW.out.kept1 HK3.out HNe.out, HC2.out, HNe.out⟩
    · rw [if_neg te] at hl3 ⊢
      exact ⟨A, c, hl3, HTO.out.kept1 HK3.out H.out.ne, H.out.cap, H.out.ne⟩
  · have HW := Lib.hid (show LayAt (w2.setCell ⟨w1.heap.size, 0, none⟩ (.slice A2 T'.length c2)) l A T.length c most 0 from ⟨HBL2.out.kept (Kept.set1 w2 w1.heap.size 0 _) (by have := HBL.out.lt; omega)⟩)
    have HNe : Hid (∀ b, A2 = some b → b.block ≠ l) := Lib.hid (fun b e => by
      rcases HF2.out b e with ⟨e1, _⟩ | h1
      · exact H.out.ne b e1
      · have := HBL.out.lt
        simp at h1
        omega)
    have HNf : Hid (∀ b, A2 = some b → b.block ≠ w1.heap.size) := Lib.hid (fun b e => by
      rcases HF2.out b e with ⟨e1, h0⟩ | h1
      · have := Tab.lt (e1 ▸ H.out.tab) h0
        have := HB1.out.size
        omega
      · simp at h1
        omega)
    have HTW : Hid (Tab (w2.setCell ⟨w1.heap.size, 0, none⟩ (.slice A2 T'.length c2)) A2 T') := Lib.hid (HT2.out.kept1 (Kept.set1 w2 w1.heap.size 0 _) HNf.out)
    have HKW : Hid (Kept (fun b => b = l) w (w2.setCell ⟨w1.heap.size, 0, none⟩ (.slice A2 T'.length c2))) := Lib.hid (((Kept.of_below (S := fun b => b = l) X2.out).trans (Kept.of_below HB2.out)).setCell (.inr HB1.out.size) _)
    have HTO : Hid (Tab (w2.setCell ⟨w1.heap.size, 0, none⟩ (.slice A2 T'.length c2)) A T) := Lib.hid (H.out.tab.kept1 HKW.out H.out.ne)
    refine (keep_ok HW.out A2 T'.length c2 e').mono ?_
    rintro r w3 ⟨rfl, hlay, hk⟩
    have HL3 := Lib.hid hlay
    have HK3 := Lib.hid hk
    clear hlay hk
    go_wp2
    refine bodyPost_end (results_none rfl _ _ _) rfl ⟨rfl, ?_, HKW.out.trans HK3.out⟩
    rw [HS'.out]
    unfold keepS
    have hl3 := HL3.out
    by_cases te : e' = 0
    · rw [if_pos te] at hl3 ⊢
      exact ⟨A2, c2, hl3, HTW.out.kept1 HK3.out HNe.out, HC2.out, HNe.out⟩
    · rw [if_neg te] at hl3 ⊢
      exact ⟨A, c, hl3, HTO.out.kept1 HK3.out H.out.ne, H.out.cap, H.out.ne⟩
end Go.Proofs.YtlipnnibagidiaaGreat

/- Marks on nodes: which are shared. -/
namespace Go.Proofs.YtlipnnibagidiaaGreat

def SelfM (n : Nd) (j i : Int) : Prop := 0 < n.len ∧ n.sort = 1 ∧ i = j
def ArgM (T : List Nd) (n : Nd) (q : Nat) (i : Int) : Prop := ∃ r : Nat, r < q ∧ n.arg r = i ∧ (ndAt T i).sort = 1
/-- What the first k nodes mark. -/
def Mark (T : List Nd) (k : Nat) (i : Int) : Prop := ∃ (j : Nat) (n : Nd), j < k ∧ T[j]? = some n ∧ n.op = 13 ∧ (SelfM n j i ∨ ArgM T n n.len.toNat i)
theorem Mark.zero (T : List Nd) (i : Int) : ¬ Mark T 0 i := fun ⟨_, _, h, _⟩ => by omega
theorem Mark.step {T : List Nd} {k : Nat} {n : Nd} (hn : T[k]? = some n) (i : Int) : Mark T (k + 1) i ↔ Mark T k i ∨ (n.op = 13 ∧ (SelfM n k i ∨ ArgM T n n.len.toNat i)) := by
  constructor
  · rintro ⟨j, m, hj, hm, ho, h⟩
    by_cases hjk : j = k
    · subst hjk
      rw [hn] at hm
      injection hm with hm
      subst hm
      exact .inr ⟨ho, h⟩
    · exact .inl ⟨j, m, by omega, hm, ho, h⟩
  · rintro (⟨j, m, hj, hm, ho, h⟩ | ⟨ho, h⟩)
    · exact ⟨j, m, by omega, hm, ho, h⟩
    · exact ⟨k, n, by omega, hn, ho, h⟩
theorem ArgM.zero (T : List Nd) (n : Nd) (i : Int) : ¬ ArgM T n 0 i := fun ⟨_, h, _⟩ => by omega
theorem ArgM.step (T : List Nd) (n : Nd) (q : Nat) (i : Int) : ArgM T n (q + 1) i ↔ ArgM T n q i ∨ (n.arg q = i ∧ (ndAt T i).sort = 1) := by
  constructor
  · rintro ⟨r, hr, h1, h2⟩
    by_cases hq : r = q
    · subst hq
      exact .inr ⟨h1, h2⟩
    · exact .inl ⟨r, by omega, h1, h2⟩
  · rintro (⟨r, hr, h1, h2⟩ | ⟨h1, h2⟩)
    · exact ⟨r, by omega, h1, h2⟩
    · exact ⟨q, by omega, h1, h2⟩
theorem arg3 (n : Nd) : n.arg 0 = n.a0 ∧ n.arg 1 = n.a1 ∧ n.arg 2 = n.a2 := ⟨rfl, rfl, rfl⟩
theorem argM_iff {T : List Nd} {n : Nd} (hl : n.len ≤ 3) (i : Int) : ArgM T n n.len.toNat i ↔ (ndAt T i).sort = 1 ∧ ((0 < n.len ∧ n.a0 = i) ∨ (1 < n.len ∧ n.a1 = i) ∨ (2 < n.len ∧ n.a2 = i)) := by
  obtain ⟨e0, e1, e2⟩ := arg3 n
  constructor
  · rintro ⟨r, hr, h1, h2⟩
    refine ⟨h2, ?_⟩
    rcases (by omega : r = 0 ∨ r = 1 ∨ r = 2) with rfl | rfl | rfl
    · exact .inl ⟨by omega, by rw [← e0]; exact h1⟩
    · exact .inr (.inl ⟨by omega, by rw [← e1]; exact h1⟩)
    · exact .inr (.inr ⟨by omega, by rw [← e2]; exact h1⟩)
  · rintro ⟨h2, ⟨hl0, h⟩ | ⟨hl0, h⟩ | ⟨hl0, h⟩⟩
    · exact ⟨0, by omega, by rw [e0]; exact h, h2⟩
    · exact ⟨1, by omega, by rw [e1]; exact h, h2⟩
    · exact ⟨2, by omega, by rw [e2]; exact h, h2⟩
theorem mark_all {T : List Nd} (hl : ∀ n ∈ T, n.len ≤ 3) {i : Nat} (hi : i < T.length) : Mark T T.length i ↔ sharedB T i = true := by
  have hat := ndAt_nat hi
  unfold sharedB
  simp only [Bool.or_eq_true, Bool.and_eq_true, decide_eq_true_eq, List.any_eq_true]
  constructor
  · rintro ⟨j, n, hj, hn, ho, ⟨h1, h2, h3⟩ | h⟩
    · obtain rfl : i = j := by omega
      have e : ndAt T i = n := ndAt_some hn
      rw [e]
      exact .inl ⟨⟨ho, h1⟩, h2⟩
    · obtain ⟨h1, h2⟩ := (argM_iff (hl n (List.mem_of_getElem? hn)) i).1 h
      exact .inr ⟨h1, n, List.mem_of_getElem? hn, ho, by rcases h2 with h2 | h2 | h2 <;> simp [h2]⟩
  · rintro (⟨⟨ho, h1⟩, h2⟩ | ⟨h1, n, hn, ho, h2⟩)
    · refine ⟨i, ndAt T i, hi, ?_, ho, .inl ⟨h1, h2, rfl⟩⟩
      rw [hat]
      exact List.getElem?_eq_getElem hi
    · obtain ⟨j, hj, rfl⟩ := List.mem_iff_getElem.1 hn
      refine ⟨j, T[j], hj, List.getElem?_eq_getElem hj, ho, .inr ((argM_iff (hl _ hn) i).2 ⟨h1, ?_⟩)⟩
      rcases h2 with (h2 | h2) | h2
      · exact .inl h2
      · exact .inr (.inl h2)
      · exact .inr (.inr h2)
/-- The shared nodes below a place. -/
def nodesTo (T : List Nd) (k : Nat) : List Int := ((List.range k).filter (sharedB T)).map fun (i : Nat) => (i : Int)
theorem nodesTo_all (T : List Nd) : nodesTo T T.length = nodesT T := rfl
theorem nodesTo_step (T : List Nd) (k : Nat) : nodesTo T (k + 1) = nodesTo T k ++ (if sharedB T k = true then [(k : Int)] else []) := by
  unfold nodesTo
  rw [List.range_succ, List.filter_append, List.map_append]
  congr 1
  by_cases h : sharedB T k = true <;> simp [h]
theorem nodesTo_len (T : List Nd) (k : Nat) : (nodesTo T k).length ≤ k := by
  unfold nodesTo
  rw [List.length_map]
  have := List.length_filter_le (sharedB T) (List.range k)
  rwa [List.length_range] at this
end Go.Proofs.YtlipnnibagidiaaGreat

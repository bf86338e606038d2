/- An equality; a layer keeps what a put came to. -/
import Derived.Test.YtlipnnibagidiaaGreatSwC
import Derived.Test.YtlipnnibagidiaaGreatRfC
import Derived.Test.YtlipnnibagidiaaGreatMk
namespace Go.Proofs.YtlipnnibagidiaaGreat
open Go.RowKit

set_option maxRecDepth 100000 in
theorem equality_ok (w : World) (x y : Int) : Calls Tryz.prog 58 #[.int .i64 x, .int .i64 y] w fun e w' => e = .returned (nodeVal (eqNd x y)) ∧ Below w.heap.size w w' := by
  have HB0 := Lib.hid (show Below w.heap.size w (w.alloc (.cells (nodeCells (eqNd x y)).toArray 51)) from (Below.refl _ w).alloc (Nat.le_refl _) _)
  have HBN := Lib.hid (show Blk (w.alloc (.cells (nodeCells (eqNd x y)).toArray 51)) w.heap.size 51 (nodeCells (eqNd x y)).toArray from Blk.new w _ _)
  simp only [nodeCells, eqNd] at HB0 HBN
  go_enter Tryz.func58, Tryz.ntmps58
  go_wp2
  refine bodyPost_ret (v := nodeVal (eqNd x y)) ?_ rfl ⟨rfl, HB0.out⟩
  have n0 := HBN.out.cell 0
  have n1 := HBN.out.cell 1
  have n2 := HBN.out.cell 2
  have n3 := HBN.out.cell 3
  have n4 := HBN.out.cell 4
  have n5 := HBN.out.cell 5
  have n6 := HBN.out.cell 6
  have n7 := HBN.out.cell 7
  simp only [List.getElem?_toArray, List.getElem?_cons_zero, List.getElem?_cons_succ] at n0 n1 n2 n3 n4 n5 n6 n7
  simp [results, Tryz.results58, go_sem, n0, n1, n2, n3, n4, n5, n6, n7, nodeVal, nodeCells, eqNd]

structure LayAt (w : World) (l : Nat) (A : Option Addr) (n c : Nat) (most e : Int) : Prop where
  blk : Blk w l 100 #[.slice A n c, .int .i64 most, .int .i64 e]
set_option maxRecDepth 100000 in
theorem keep_ok {w : World} {l : Nat} {A : Option Addr} {n c : Nat} {most e0 : Int} (h : LayAt w l A n c most e0) (A' : Option Addr) (n' c' : Nat) (e : Int) :
    Calls Tryz.prog 59 #[.pointer (some ⟨l, 0, none⟩), .agg #[.slice A' n' c'], .int .i64 e] w fun r w' => r = .returned (.tuple #[]) ∧
      (if e = 0 then LayAt w' l A' n' c' most 0 else LayAt w' l A n c most e) ∧ Kept (fun b => b = l) w w' := by
  have hb1 := h.blk.alloc (.cells #[.slice A' n' c'] 33)
  have HB1 := Lib.hid hb1
  have HK := Lib.hid (show Kept (fun b => b = l) w (w.alloc (.cells #[.slice A' n' c'] 33)) from (Kept.refl _ w).alloc _)
  have hlt := h.blk.lt
  have f0 := hb1.frozen 0
  have f2 := hb1.frozen 2
  have c0 := hb1.cell 0
  have c2 := hb1.cell 2
  simp only [List.getElem?_toArray, List.getElem?_cons_zero, List.getElem?_cons_succ] at c0 c2
  have HBW := Lib.hid h.blk
  have hb2 := (h.blk.set_ 2 (.int .i64 e)).alloc (.cells #[.slice A' n' c'] 33)
  simp only [List.setIfInBounds_toArray, List.set_cons_zero, List.set_cons_succ] at hb2
  have HB2 := Lib.hid hb2
  have HK2 := Lib.hid ((Kept.set1 w l 2 (.int .i64 e)).alloc (.cells #[.slice A' n' c'] 33))
  have f02 := hb2.frozen 0
  have c02 := hb2.cell 0
  simp only [List.getElem?_toArray, List.getElem?_cons_zero] at c02
  clear h hb1 hb2
  by_cases t : e = 0
  · subst t
    go_enter Tryz.func59, Tryz.ntmps59
    go_wp2
    refine bodyPost_end (results_none rfl _ _ _) rfl ⟨rfl, ?_, ((Kept.set1 w l 2 (.int .i64 0)).setCell (.inl rfl) _).alloc _⟩
    exact ⟨((HBW.out.set_ 2 (.int .i64 0)).set_ 0 (.slice A' n' c')).alloc _⟩
  · have d : (e == 0) = false := by simp [t]
    go_enter Tryz.func59, Tryz.ntmps59
    go_wp2
    refine bodyPost_end (results_none rfl _ _ _) rfl ⟨rfl, ?_, HK2.out⟩
    exact ⟨HB2.out⟩
end Go.Proofs.YtlipnnibagidiaaGreat

/- A layer's step is the document's laying of two. -/
namespace Go.Proofs.YtlipnnibagidiaaGreat

/-- What a layer keeps. -/
def keepS (T : List Nd) (T' : List Nd) (e : Int) : List Nd × Int := if e = 0 then (T', 0) else (T, e)
/-- What a difference does to a layer. -/
def diffS (T : List Nd) (most e x y : Int) : List Nd × Int :=
  if e ≠ 0 then (T, e) else if (diffT T x y 0).e ≠ 0 ∨ (diffT T x y 0).x = (diffT T x y 0).y then (T, (diffT T x y 0).e) else keepS T (leT T x y 0 most).T (leT T x y 0 most).e
/-- What two shared nodes do to a layer. -/
def lay1S (T : List Nd) (most x y : Int) : List Nd × Int :=
  diffS (diffS (keepS T (putT T (eqNd x y) most).T (putT T (eqNd x y) most).e).1 most (keepS T (putT T (eqNd x y) most).T (putT T (eqNd x y) most).e).2 x y).1 most (diffS (keepS T (putT T (eqNd x y) most).T (putT T (eqNd x y) most).e).1 most (keepS T (putT T (eqNd x y) most).T (putT T (eqNd x y) most).e).2 x y).2 y x

theorem ofT_ok {T : List Nd} {a : Int} (h : (ofT T a).e = 0) : TabOk T ∧ 0 ≤ a ∧ a < T.length ∧ (ndAt T a).sort = 1 ∧ ofT T a = ⟨(baseT T a).1, (baseT T a).2, 0⟩ := by
  unfold ofT at h ⊢
  split at h
  · rename_i h1
    rw [if_pos h1]
    simp only [Bool.and_eq_true, decide_eq_true_eq] at h1
    split at h
    · rename_i h2
      rw [if_pos h2]
      exact ⟨tabB_iff.1 h1.1.1, h1.1.2, h1.2, h2, rfl⟩
    · cases h
  · cases h
theorem ofT_ext {T S : List Nd} {a : Int} (h : (ofT T a).e = 0) (ht : TabOk (T ++ S)) : ofT (T ++ S) a = ofT T a := by
  obtain ⟨h1, h2, h3, h4, h5⟩ := ofT_ok h
  rw [h5]
  unfold ofT
  rw [if_pos (by simp [tabB_iff.2 ht, h2]; omega), ndAt_append h2 h3, if_pos h4, baseT_append h2 h3]
theorem subN_ok {a b : Int} (h : (subN a b).2 = 0) : mayI a = true ∧ mayI b = true ∧ mayI (a - b) = true ∧ subN a b = (a - b, 0) := by
  unfold subN at h ⊢
  split at h
  · rename_i h1
    rw [if_pos h1]
    simp only [Bool.and_eq_true] at h1
    exact ⟨h1.1.1, h1.1.2, h1.2, rfl⟩
  · cases h
theorem addN_ok {a b : Int} (h : (addN a b).2 = 0) : mayI a = true ∧ mayI b = true ∧ mayI (a + b) = true ∧ addN a b = (a + b, 0) := by
  unfold addN at h ⊢
  split at h
  · rename_i h1
    rw [if_pos h1]
    simp only [Bool.and_eq_true] at h1
    exact ⟨h1.1.1, h1.1.2, h1.2, rfl⟩
  · cases h
theorem subN_yes {a b : Int} (h1 : mayI a = true) (h2 : mayI b = true) (h3 : mayI (a - b) = true) : subN a b = (a - b, 0) := by
  unfold subN
  rw [if_pos (by simp [h1, h2, h3])]
theorem addN_yes {a b : Int} (h1 : mayI a = true) (h2 : mayI b = true) (h3 : mayI (a + b) = true) : addN a b = (a + b, 0) := by
  unfold addN
  rw [if_pos (by simp [h1, h2, h3])]
/-- A difference that is one. -/
theorem diffT_ok {T : List Nd} {a b : Int} (h : (diffT T a b 0).e = 0) : (ofT T a).e = 0 ∧ (ofT T b).e = 0 ∧ mayI (ofT T a).n = true ∧ mayI (ofT T b).n = true ∧ mayI ((ofT T b).n - (ofT T a).n) = true ∧ diffT T a b 0 = ⟨(ofT T a).b, (ofT T b).b, (ofT T b).n - (ofT T a).n, 0⟩ := by
  unfold diffT at h ⊢
  split at h
  · rename_i h1
    exact absurd h h1
  rename_i h1
  split at h
  · rename_i h2
    exact absurd h h2
  rename_i h2
  split at h
  · rename_i h3
    exact absurd h h3
  rename_i h3
  split at h
  · rename_i h4
    exact absurd h h4
  rename_i h4
  rw [if_neg h1, if_neg h2, if_neg h3, if_neg h4]
  simp only [ne_eq, Decidable.not_not] at h1 h2 h3 h4
  obtain ⟨a1, a2, a3, a4⟩ := subN_ok h3
  obtain ⟨b1, b2, b3, b4⟩ := addN_ok h4
  rw [a4] at b1 b3 b4 ⊢
  dsimp only at b1 b3 b4 ⊢
  rw [b4]
  dsimp only
  have e : 0 - (ofT T a).n + (ofT T b).n = (ofT T b).n - (ofT T a).n := by omega
  rw [e] at b3 ⊢
  exact ⟨h1, h2, a2, b2, b3, rfl⟩
theorem diffT_yes {T : List Nd} {a b : Int} (h1 : (ofT T a).e = 0) (h2 : (ofT T b).e = 0) (m1 : mayI (ofT T a).n = true) (m2 : mayI (ofT T b).n = true) (m3 : mayI ((ofT T b).n - (ofT T a).n) = true) : diffT T a b 0 = ⟨(ofT T a).b, (ofT T b).b, (ofT T b).n - (ofT T a).n, 0⟩ := by
  have e : 0 - (ofT T a).n + (ofT T b).n = (ofT T b).n - (ofT T a).n := by omega
  have s : subN 0 (ofT T a).n = (0 - (ofT T a).n, 0) := subN_yes (by decide) m1 (by rw [mayI_iff] at m1 ⊢; omega)
  have p : addN (0 - (ofT T a).n) (ofT T b).n = ((ofT T b).n - (ofT T a).n, 0) := by
    rw [addN_yes (by rw [mayI_iff] at m1 ⊢; omega) m2 (by rw [e]; exact m3), e]
  unfold diffT
  rw [if_neg (by simp [h1]), if_neg (by simp [h2]), s]
  dsimp only
  rw [if_neg (by simp), p, if_neg (by simp)]
theorem diffT_turn {T : List Nd} {a b : Int} (h : (diffT T a b 0).e = 0) : diffT T b a 0 = ⟨(diffT T a b 0).y, (diffT T a b 0).x, -(diffT T a b 0).d, 0⟩ := by
  obtain ⟨h1, h2, h3, h4, h5, h6⟩ := diffT_ok h
  rw [diffT_yes h2 h1 h4 h3 (by rw [mayI_iff] at h5 ⊢; omega), h6]
  congr 1
  dsimp only
  omega
theorem diffT_ext {T S : List Nd} {a b : Int} (h : (diffT T a b 0).e = 0) (ht : TabOk (T ++ S)) : diffT (T ++ S) a b 0 = diffT T a b 0 := by
  obtain ⟨h1, h2, h3, h4, h5, h6⟩ := diffT_ok h
  rw [h6, ← ofT_ext h1 ht, ← ofT_ext h2 ht]
  exact diffT_yes (by rw [ofT_ext h1 ht]; exact h1) (by rw [ofT_ext h2 ht]; exact h2) (by rw [ofT_ext h1 ht]; exact h3) (by rw [ofT_ext h2 ht]; exact h4) (by rw [ofT_ext h1 ht, ofT_ext h2 ht]; exact h5)
theorem leT_ext {T : List Nd} {a b most : Int} (hx : (diffT T a b 0).x ≠ (diffT T a b 0).y) (h : (leT T a b 0 most).e = 0) : ∃ S, (leT T a b 0 most).T = T ++ S ∧ TabOk (T ++ S) := by
  unfold leT at h ⊢
  split at h
  · rename_i h1
    exact absurd h h1
  rename_i h1
  rw [if_neg h1]
  rw [if_pos hx]
  first | rw [if_pos hx] at h | skip
  obtain ⟨_, _, h3, _, S, h4, _⟩ := putT_ok h
  exact ⟨S, h4, by rw [← h4]; exact h3⟩
theorem leT_err {T : List Nd} {a b most : Int} (h : (leT T a b 0 most).e ≠ 0) : (leT T a b 0 most).T = [] := by
  unfold leT at h ⊢
  split at h
  · rename_i h1
    rw [if_pos h1]
  rename_i h1
  rw [if_neg h1]
  have key : ∀ n, (putT T n most).e ≠ 0 → (putT T n most).T = [] := fun n hn => by
    unfold putT at hn ⊢
    split at hn
    · rename_i h2
      rw [if_pos h2]
      split at hn
      · exact absurd rfl hn
      · rename_i h3
        rw [if_neg h3]
        split at hn
        · rename_i h4
          rw [if_pos h4]
        · exact absurd rfl hn
    · rename_i h2
      rw [if_neg h2]
  split at h
  · rename_i h2
    rw [if_pos h2]
    exact key _ h
  rename_i h2
  rw [if_neg h2]
  split at h
  · exact absurd rfl h
  · rename_i h3
    rw [if_neg h3]
    exact key _ h
/-- A layer's step is the laying of two. -/
theorem lay1_is (T : List Nd) (most x y : Int) : (lay1S T most x y).2 = (layT T x y most).e ∧ ((layT T x y most).e = 0 → (lay1S T most x y).1 = (layT T x y most).T) := by
  unfold lay1S layT keepS
  by_cases h1 : (putT T (eqNd x y) most).e = 0
  rotate_left
  · rw [if_neg h1, if_pos h1]
    dsimp only
    unfold diffS
    rw [if_pos h1]
    dsimp only
    rw [if_pos h1]
    exact ⟨rfl, fun h => absurd h h1⟩
  rw [if_pos h1, if_neg (by simp [h1])]
  dsimp only
  generalize (putT T (eqNd x y) most).T = T1
  by_cases h2 : (diffT T1 x y 0).e = 0
  rotate_left
  · rw [if_pos h2]
    have e : diffS T1 most 0 x y = (T1, (diffT T1 x y 0).e) := by
      unfold diffS
      rw [if_neg (by simp), if_pos (.inl h2)]
    rw [e]
    dsimp only
    unfold diffS
    rw [if_pos h2]
    exact ⟨rfl, fun h => absurd h h2⟩
  rw [if_neg (by simp [h2])]
  have ht := diffT_turn h2
  by_cases h3 : (diffT T1 x y 0).x = (diffT T1 x y 0).y
  · rw [if_pos h3]
    have e : diffS T1 most 0 x y = (T1, 0) := by
      unfold diffS
      rw [if_neg (by simp), if_pos (.inr h3), h2]
    rw [e]
    dsimp only
    unfold diffS
    rw [if_neg (by simp), ht]
    dsimp only
    rw [if_pos (.inr h3.symm)]
    exact ⟨rfl, fun _ => rfl⟩
  rw [if_neg h3]
  have e : diffS T1 most 0 x y = keepS T1 (leT T1 x y 0 most).T (leT T1 x y 0 most).e := by
    unfold diffS
    rw [if_neg (by simp), if_neg (by simp [h2, h3])]
  rw [e]
  unfold keepS
  by_cases h4 : (leT T1 x y 0 most).e = 0
  rotate_left
  · rw [if_neg h4, if_pos h4]
    dsimp only
    unfold diffS
    rw [if_pos h4]
    exact ⟨rfl, fun h => absurd h h4⟩
  rw [if_pos h4, if_neg (by simp [h4])]
  dsimp only
  obtain ⟨S, hS, hok⟩ := leT_ext h3 h4
  rw [hS]
  have hd : diffT (T1 ++ S) y x 0 = ⟨(diffT T1 x y 0).y, (diffT T1 x y 0).x, -(diffT T1 x y 0).d, 0⟩ := by rw [diffT_ext (by rw [ht]) hok, ht]
  have hg : diffS (T1 ++ S) most 0 y x = keepS (T1 ++ S) (leT (T1 ++ S) y x 0 most).T (leT (T1 ++ S) y x 0 most).e := by
    unfold diffS
    rw [if_neg (by simp), hd]
    dsimp only
    rw [if_neg (by simp; exact fun e => h3 e.symm)]
  rw [hg]
  unfold keepS
  by_cases h5 : (leT (T1 ++ S) y x 0 most).e = 0
  · rw [if_pos h5]
    exact ⟨h5.symm, fun _ => rfl⟩
  · rw [if_neg h5]
    exact ⟨rfl, fun h => absurd h h5⟩
/-- The whole laying, as a layer does it. -/
def layAllS : List (Int × Int) → List Nd → Int → List Nd × Int
  | [], T, _ => (T, 0)
  | p :: r, T, most => if (lay1S T most p.1 p.2).2 ≠ 0 then ([], (lay1S T most p.1 p.2).2) else layAllS r (lay1S T most p.1 p.2).1 most
theorem layAll_is (most : Int) : ∀ (ps : List (Int × Int)) (T : List Nd), (layAllS ps T most).2 = (laysT ps T most).e ∧ (layAllS ps T most).1 = (laysT ps T most).T
  | [], T => ⟨rfl, rfl⟩
  | p :: r, T => by
    obtain ⟨h1, h2⟩ := lay1_is T most p.1 p.2
    rw [layAllS, laysT, h1]
    by_cases h : (layT T p.1 p.2 most).e = 0
    · rw [if_neg (by simp [h]), if_neg (by simp [h]), h2 h]
      exact layAll_is most r _
    · rw [if_pos h, if_pos h]
      exact ⟨rfl, rfl⟩
end Go.Proofs.YtlipnnibagidiaaGreat

/- A layer puts a difference: layer.diff. -/
namespace Go.Proofs.YtlipnnibagidiaaGreat
open Go.RowKit

structure LayS (w : World) (l : Nat) (T : List Nd) (most e : Int) (A : Option Addr) (c : Nat) : Prop where
  lay : LayAt w l A T.length c most e
  tab : Tab w A T
  cap : T.length ≤ c
  ne : ∀ b, A = some b → b.block ≠ l
set_option maxRecDepth 100000 in
set_option maxHeartbeats 4000000 in
theorem ldiff_ok {w : World} {l : Nat} {T : List Nd} {most e : Int} {A : Option Addr} {c : Nat} (h : LayS w l T most e A c) (hl : T.length < 100000) (ho : TabOk T → ordB T = true) (x y : Int) (hx : In64 x) (hy : In64 y) :
    Calls Tryz.prog 55 #[.pointer (some ⟨l, 0, none⟩), .int .i64 x, .int .i64 y] w fun r w' => r = .returned (.tuple #[]) ∧
      (∃ A' c', LayS w' l (diffS T most e x y).1 most (diffS T most e x y).2 A' c') ∧ Kept (fun b => b = l) w w' := by
  have KD := Lib.hid (diff_ok c x y 0 hx hy h.cap h.tab ho)
  have KL := Lib.hid (fun (W : World) (hW : Below w.heap.size w W) => le_ok c x y 0 most hx hy h.cap (h.tab.below hW) hl ho)
  have HB := Lib.hid h.lay.blk
  have H := Lib.hid h
  have c0 := h.lay.blk.cell 0
  have c1 := h.lay.blk.cell 1
  have c2 := h.lay.blk.cell 2
  have f2 := h.lay.blk.frozen 2
  simp only [List.getElem?_toArray, List.getElem?_cons_zero, List.getElem?_cons_succ] at c0 c1 c2
  clear h ho
  by_cases t : e = 0
  rotate_left
  · have d : (e == 0) = false := by simp [t]
    have HS : Hid (diffS T most e x y = (T, e)) := Lib.hid (by unfold diffS; rw [if_pos t])
    clear t
    go_enter Tryz.func55, Tryz.ntmps55
    go_wp2
    refine bodyPost_ret (v := .tuple #[]) (results_none rfl _ _ _) rfl ⟨rfl, ?_, Kept.refl _ _⟩
    rw [HS.out]
    exact ⟨A, c, H.out⟩
  subst t
  go_enter Tryz.func55, Tryz.ntmps55
  go_wp2_with fail
  refine KD.out.mono ?_
  rintro r w1 ⟨rfl, hb⟩
  generalize hD : diffT T x y 0 = p at *
  obtain ⟨p1, p2, p3, p4⟩ := p
  have HB1 := Lib.hid hb
  have hb1 := HB.out.below hb HB.out.lt
  have HBL := Lib.hid hb1
  have a0 := hb1.cell 0
  have a1 := hb1.cell 1
  have a2 := hb1.cell 2
  have g2 := hb1.frozen 2
  simp only [List.getElem?_toArray, List.getElem?_cons_zero, List.getElem?_cons_succ] at a0 a1 a2
  have HS : Hid (diffS T most 0 x y = if p4 ≠ 0 ∨ p1 = p2 then (T, p4) else keepS T (leT T x y 0 most).T (leT T x y 0 most).e) := Lib.hid (by unfold diffS; rw [if_neg (by simp), hD])
  clear hb hb1 hD c0 c1 c2 f2
  by_cases t1 : p4 = 0
  rotate_left
  · have d1 : (p4 == 0) = false := by simp [t1]
    have HS' : Hid (diffS T most 0 x y = (T, p4)) := Lib.hid (by rw [HS.out, if_pos (.inl t1)])
    clear t1
    go_wp2
    refine bodyPost_ret (v := .tuple #[]) (results_none rfl _ _ _) rfl ⟨rfl, ?_, (Kept.of_below (S := fun b => b = l) HB1.out).setCell (.inl rfl) _⟩
    rw [HS'.out]
    have := HBL.out.set_ 2 (.int .i64 p4)
    refine ⟨A, c, ⟨⟨this⟩, (H.out.tab.below HB1.out).kept1 (Kept.set1 w1 l 2 _) H.out.ne, H.out.cap, H.out.ne⟩⟩
  subst t1
  by_cases t2 : p1 = p2
  · have d2 : (p1 == p2) = true := by simp [t2]
    have HS' : Hid (diffS T most 0 x y = (T, 0)) := Lib.hid (by rw [HS.out, if_pos (.inr t2)])
    clear t2
    go_wp2
    refine bodyPost_ret (v := .tuple #[]) (results_none rfl _ _ _) rfl ⟨rfl, ?_, (Kept.of_below (S := fun b => b = l) HB1.out).setCell (.inl rfl) _⟩
    rw [HS'.out]
    have := HBL.out.set_ 2 (.int .i64 0)
    refine ⟨A, c, ⟨⟨this⟩, (H.out.tab.below HB1.out).kept1 (Kept.set1 w1 l 2 _) H.out.ne, H.out.cap, H.out.ne⟩⟩
  have d2 : (p1 == p2) = false := by simp [t2]
  have HS' : Hid (diffS T most 0 x y = keepS T (leT T x y 0 most).T (leT T x y 0 most).e) := Lib.hid (by rw [HS.out, if_neg (by simp [t2])])
  clear t2
  go_upto_region 4 with (fail)
  have X1 := Lib.hid (show Below w.heap.size w w1.drew from below_drewN HB1.out 1)
  have X2 := Lib.hid (show Below w.heap.size w (w1.alloc (.cells #[.slice none 0 0] 33)).drew from below_drewN (HB1.out.alloc HB1.out.size _) 1)
  generalize leT T x y 0 most = r at *
  obtain ⟨T', id', is', e'⟩ := r
  go_region_held3 (fun w' => w'.cell? ⟨l, 0, none⟩ = some (.slice A T.length c) ∧ w'.cell? ⟨l, 1, none⟩ = some (.int .i64 most)) (go_keep) (first
    | (go_at_call 92; refine (KL.out _ X1.out).mono ?_; rintro r w2 ⟨A2, c2, rfl, ht, hc2, hf, hb⟩; have HT2 := Lib.hid ht; have HC2 := Lib.hid hc2; have HF2 := Lib.hid hf; have HB2 := Lib.hid hb; have hbl := (show Blk w1.drew l 100 #[.slice A T.length c, .int .i64 most, .int .i64 0] from HBL.out).below hb (by simp; have := HBL.out.lt; omega); have HBL2 := Lib.hid hbl; have b0 := hbl.cell 0; have b1 := hbl.cell 1; simp only [List.getElem?_toArray, List.getElem?_cons_zero, List.getElem?_cons_succ] at b0 b1; clear hbl; clear ht hc2 hf hb)
    | (go_at_call 92; refine (KL.out _ X2.out).mono ?_; rintro r w2 ⟨A2, c2, rfl, ht, hc2, hf, hb⟩; have HT2 := Lib.hid ht; have HC2 := Lib.hid hc2; have HF2 := Lib.hid hf; have HB2 := Lib.hid hb; have hbl := (show Blk (w1.alloc (.cells #[.slice none 0 0] 33)).drew l 100 #[.slice A T.length c, .int .i64 most, .int .i64 0] from HBL.out.alloc _).below hb (by simp; have := HBL.out.lt; omega); have HBL2 := Lib.hid hbl; have b0 := hbl.cell 0; have b1 := hbl.cell 1; simp only [List.getElem?_toArray, List.getElem?_cons_zero, List.getElem?_cons_succ] at b0 b1; clear hbl; have hx := (show Blk (w1.alloc (.cells #[.slice none 0 0] 33)).drew w1.heap.size 33 #[.slice none 0 0] from Blk.new w1 _ _).below hb (by simp); have HX := Lib.hid hx; have cx := hx.cell 0; have fx := hx.frozen 0; simp only [List.getElem?_toArray, List.getElem?_cons_zero] at cx; clear hx; have hbs := HBL2.out.kept (Kept.set1 w2 w1.heap.size 0 (.slice A2 T'.length c2)) (by have := HBL.out.lt; omega); have b0s := hbs.cell 0; have b1s := hbs.cell 1; simp only [List.getElem?_toArray, List.getElem?_cons_zero, List.getElem?_cons_succ] at b0s b1s; clear hbs; clear ht hc2 hf hb))
  all_goals go_wp2_with fail
  · have HW := Lib.hid (show LayAt (w2.alloc (.cells #[.slice A2 T'.length c2] 33)) l A T.length c most 0 from ⟨HBL2.out.alloc _⟩)
    have HNe : Hid (∀ b, A2 = some b → b.block ≠ l) := Lib.hid (fun b e => by
      rcases HF2.out b e with ⟨e1, _⟩ | h1
      · exact H.out.ne b e1
      · have := HBL.out.lt
        simp at h1
        omega)
    have HTW : Hid (Tab (w2.alloc (.cells #[.slice A2 T'.length c2] 33)) A2 T') := Lib.hid (HT2.out.alloc _)
    have HKW : Hid (Kept (fun b => b = l) w (w2.alloc (.cells #[.slice A2 T'.length c2] 33))) := Lib.hid (((Kept.of_below (S := fun b => b = l) X1.out).trans (Kept.of_below HB2.out)).alloc _)
    have HTO : Hid (Tab (w2.alloc (.cells #[.slice A2 T'.length c2] 33)) A T) := Lib.hid (H.out.tab.kept1 HKW.out H.out.ne)
    refine (keep_ok HW.out A2 T'.length c2 e').mono ?_
    rintro r w3 ⟨rfl, hlay, hk⟩
    have HL3 := Lib.hid hlay
    have HK3 := Lib.hid hk
    clear hlay hk
    go_wp2
    refine bodyPost_end (results_none rfl _ _ _) rfl ⟨rfl, ?_, HKW.out.trans HK3.out⟩
    rw [HS'.out]
    unfold keepS
    have hl3 := HL3.out
    by_cases te : e' = 0
    · rw [if_pos te] at hl3 ⊢
      exact ⟨A2, c2, hl3, HTW.out.kept1 HK3.out HNe.out, HC2.out, HNe.out⟩
    · rw [if_neg te] at hl3 ⊢
      exact ⟨A, c, hl3, HTO.out.kept1 HK3.out H.out.ne, H.out.cap, H.out.ne⟩
  · have HW := Lib.hid (show LayAt (w2.setCell ⟨w1.heap.size, 0, none⟩ (.slice A2 T'.length c2)) l A T.length c most 0 from ⟨HBL2.out.kept (Kept.set1 w2 w1.heap.size 0 _) (by have := HBL.out.lt; omega)⟩)
    have HNe : Hid (∀ b, A2 = some b → b.block ≠ l) := Lib.hid (fun b e => by
      rcases HF2.out b e with ⟨e1, _⟩ | h1
      · exact H.out.ne b e1
      · have := HBL.out.lt
        simp at h1
        omega)
    have HNf : Hid (∀ b, A2 = some b → b.block ≠ w1.heap.size) := Lib.hid (fun b e => by
      rcases HF2.out b e with ⟨e1, h0⟩ | h1
      · have := Tab.lt (e1 ▸ H.out.tab) h0
        have := HB1.out.size
        omega
      · simp at h1
        omega)
    have HTW : Hid (Tab (w2.setCell ⟨w1.heap.size, 0, none⟩ (.slice A2 T'.length c2)) A2 T') := Lib.hid (HT2.out.kept1 (Kept.set1 w2 w1.heap.size 0 _) HNf.out)
    have HKW : Hid (Kept (fun b => b = l) w (w2.setCell ⟨w1.heap.size, 0, none⟩ (.slice A2 T'.length c2))) := Lib.hid (((Kept.of_below (S := fun b => b = l) X2.out).trans (Kept.of_below HB2.out)).setCell (.inr HB1.out.size) _)
    have HTO : Hid (Tab (w2.setCell ⟨w1.heap.size, 0, none⟩ (.slice A2 T'.length c2)) A T) := Lib.hid (H.out.tab.kept1 HKW.out H.out.ne)
    refine (keep_ok HW.out A2 T'.length c2 e').mono ?_
    rintro r w3 ⟨rfl, hlay, hk⟩
    have HL3 := Lib.hid hlay
    have HK3 := Lib.hid hk
    clear hlay hk
    go_wp2
    refine bodyPost_end (results_none rfl _ _ _) rfl ⟨rfl, ?_, HKW.out.trans HK3.out⟩
    rw [HS'.out]
    unfold keepS
    have hl3 := HL3.out
    by_cases te : e' = 0
    · rw [if_pos te] at hl3 ⊢
      exact ⟨A2, c2, hl3, HTW.out.kept1 HK3.out HNe.out, HC2.out, HNe.out⟩
    · rw [if_neg te] at hl3 ⊢
      exact ⟨A, c, hl3, HTO.out.kept1 HK3.out H.out.ne, H.out.cap, H.out.ne⟩
end Go.Proofs.YtlipnnibagidiaaGreat

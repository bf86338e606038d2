/- The clauses of two: reader.of. -/
import Derived.Test.YtlipnnibagidiaaGreatRdA
import Derived.Test.YtlipnnibagidiaaGreatClF
import Derived.Test.YtlipnnibagidiaaGreatKeys
import Derived.Test.YtlipnnibagidiaaGreatSwA
namespace Go.Proofs.YtlipnnibagidiaaGreat
open Go.RowKit

def encR (r : Option Addr × Nat × List Int) : Value := .slice r.1 r.2.2.length r.2.1
/-- A row of ints as it lies, in one of some blocks. -/
structure RowN (N : Nat → Prop) (w : World) (A : Option Addr) (zs : List Int) : Prop where
  len : zs.length ≤ 100000
  at_ : zs.length = 0 ∨ ∃ b off, A = some ⟨b, off, none⟩ ∧ N b ∧ b < w.heap.size ∧ ∀ i (h : i < zs.length), w.cell? ⟨b, off + i, none⟩ = some (.int .i64 zs[i])
def RowsN (N : Nat → Prop) (w : World) (rows : List (Option Addr × Nat × List Int)) : Prop := ∀ r ∈ rows, RowN N w r.1 r.2.2 ∧ (r.1 = none → r.2.1 = 0) ∧ r.2.2.length ≤ r.2.1
/-- A slice of rows. -/
structure GridV (N : Nat → Prop) (w : World) (v : Value) (rows : List (Option Addr × Nat × List Int)) : Prop where
  len : rows.length ≤ 1000000
  form : ∃ A cap, v = .slice A rows.length cap ∧ (A = none → cap = 0) ∧ rows.length ≤ cap ∧ (rows.length = 0 ∨ ∃ b off, A = some ⟨b, off, none⟩ ∧ N b ∧ b < w.heap.size ∧ ∀ k (h : k < rows.length), w.cell? ⟨b, off + k, none⟩ = some (encR rows[k]))
  rows : RowsN N w rows
section
variable {N N' : Nat → Prop} {w w' : World} {A : Option Addr} {zs : List Int} {v : Value} {rows : List (Option Addr × Nat × List Int)}
theorem RowN.row (h : RowN N w A zs) : Row w A zs := ⟨h.len, h.at_.imp id fun ⟨b, off, h1, _, h2, h3⟩ => ⟨b, off, h1, h2, h3⟩⟩
theorem RowN.kept {S : Nat → Prop} (h : RowN N w A zs) (hk : Kept S w w') (hN : ∀ b, b < w.heap.size → N b → ¬ S b) : RowN N w' A zs := by
  refine ⟨h.len, h.at_.imp id fun ⟨b, off, h1, h2, h3, h4⟩ => ⟨b, off, h1, h2, Nat.lt_of_lt_of_le h3 hk.size, fun i hi => ?_⟩⟩
  have hb : w'.heap[b]? = w.heap[b]? := hk.block b h3 (hN b h3 h2)
  rw [show w'.cell? ⟨b, off + i, none⟩ = w.cell? ⟨b, off + i, none⟩ by unfold World.cell?; rw [hb]]
  exact h4 i hi
theorem RowN.mono (h : RowN N w A zs) (hN : ∀ b, b < w.heap.size → N b → N' b) : RowN N' w A zs :=
  ⟨h.len, h.at_.imp id fun ⟨b, off, h1, h2, h3, h4⟩ => ⟨b, off, h1, hN b h3 h2, h3, h4⟩⟩
theorem RowsN.kept {S : Nat → Prop} (h : RowsN N w rows) (hk : Kept S w w') (hN : ∀ b, b < w.heap.size → N b → ¬ S b) : RowsN N w' rows := fun r hr => ⟨(h r hr).1.kept hk hN, (h r hr).2⟩
theorem RowsN.mono (h : RowsN N w rows) (hN : ∀ b, b < w.heap.size → N b → N' b) : RowsN N' w rows := fun r hr => ⟨(h r hr).1.mono hN, (h r hr).2⟩
theorem RowsN.append {rows' : List (Option Addr × Nat × List Int)} (h : RowsN N w rows) (k : RowsN N w rows') : RowsN N w (rows ++ rows') := fun r hr => (List.mem_append.1 hr).elim (h r) (k r)
theorem GridV.kept {S : Nat → Prop} (h : GridV N w v rows) (hk : Kept S w w') (hN : ∀ b, b < w.heap.size → N b → ¬ S b) : GridV N w' v rows := by
  obtain ⟨A, cap, h1, h2, h2', h3⟩ := h.form
  refine ⟨h.len, ⟨A, cap, h1, h2, h2', h3.imp id fun ⟨b, off, g1, g2, g3, g4⟩ => ⟨b, off, g1, g2, Nat.lt_of_lt_of_le g3 hk.size, fun k hk' => ?_⟩⟩, h.rows.kept hk hN⟩
  have hb : w'.heap[b]? = w.heap[b]? := hk.block b g3 (hN b g3 g2)
  rw [show w'.cell? ⟨b, off + k, none⟩ = w.cell? ⟨b, off + k, none⟩ by unfold World.cell?; rw [hb]]
  exact g4 k hk'
theorem GridV.mono (h : GridV N w v rows) (hN : ∀ b, b < w.heap.size → N b → N' b) : GridV N' w v rows := by
  obtain ⟨A, cap, h1, h2, h2', h3⟩ := h.form
  exact ⟨h.len, ⟨A, cap, h1, h2, h2', h3.imp id fun ⟨b, off, g1, g2, g3, g4⟩ => ⟨b, off, g1, hN b g3 g2, g3, g4⟩⟩, h.rows.mono hN⟩
theorem RowN.of_own {B : Nat} {n c : Nat} (h : w.ownsRow B 3 1 (.slice A n c) zs.length (zs.map (Value.int .i64))) (hl : zs.length ≤ 100000) : RowN (fun b => B ≤ b) w A zs ∧ (A = none → c = 0) ∧ zs.length ≤ c ∧ n = zs.length := by
  rcases h.2 with ⟨e, h0⟩ | ⟨g, cap, cur, e, h1, hg, h3, _⟩
  · injection e with e1 e2 e3
    subst e1 e2 e3
    have h0' : zs.length = 0 := h0
    exact ⟨⟨hl, .inl h0'⟩, fun _ => rfl, by omega, h0'.symm⟩
  · injection e with e1 e2 e3
    subst e1 e2 e3
    refine ⟨⟨hl, .inr ⟨g, 0, rfl, h1, Blk.lt (t := 3) hg, fun k hk => ?_⟩⟩, fun e => (by cases e), h3, rfl⟩
    have := h.cells (g := g) rfl k (.int .i64 zs[k]) (by rw [List.getElem?_map, List.getElem?_eq_getElem hk]; rfl)
    rw [addr_add] at this
    rw [Nat.zero_add]
    exact this
theorem RowN.of_blk {g : Nat} (h : Blk w g 3 (zs.map (Value.int .i64)).toArray) (hN : N g) (hl : zs.length ≤ 100000) : RowN N w (some ⟨g, 0, none⟩) zs :=
  ⟨hl, .inr ⟨g, 0, rfl, hN, h.lt, fun k hk => by rw [Nat.zero_add, h.cell, List.getElem?_toArray, List.getElem?_map, List.getElem?_eq_getElem hk]; rfl⟩⟩
end

theorem base_may {T : List Nd} (hT : TabOk T) {x : Int} (h0 : 0 ≤ x) (h1 : x < T.length) : mayI (baseT T x).2 = true := by
  have hm := ndAt_mem h0 h1
  obtain ⟨i, hi, _, hst⟩ := hT.stands hm
  unfold baseT
  split
  · rename_i h11
    exact mayI_iff.2 (hst.numb.1 (.inr (.inl h11)))
  split
  · rename_i h10
    exact mayI_iff.2 (hst.numb.1 (.inl h10))
  · show mayI 0 = true
    decide
def OfOut (T : List Nd) (x y : Int) (bad : Bool) (r : Nat) (A : Option Addr) (c M : Nat) (w : World) (e : Ending) (w' : World) : Prop :=
  ∃ v rows, e = .returned v ∧ GridV (fun b => w.heap.size ≤ b) w' v rows ∧ (∀ l, of2 T x y = some l → rows.map (fun r => r.2.2) = l ∧ ∃ a n c, v = .slice (some a) n c) ∧ rows.length ≤ 3 ∧ (v = .slice none 0 0 ∨ 0 < rows.length) ∧ Reader w' r A T c M (bad || (of2 T x y).isNone) ∧ Kept (fun b => b = r) w w'
theorem litR_in {T : List Nd} {n : Nd} (h : T.length ≤ 100000) : 0 ≤ litR T n ∧ litR T n ≤ 200000 := by
  unfold litR
  split
  · rename_i hm
    have := List.idxOf_lt_length_iff.2 hm
    unfold litT
    omega
  · omega
theorem neg_lit {T : List Nd} {n : Nd} (h : T.length ≤ 100000) : negG (litR T n) = litR T n + 1 := by
  have h1 := litR_in (n := n) h
  rw [negG_pos h1.1 (by omega), if_pos]
  unfold litR
  split
  · unfold litT; omega
  · rfl

theorem make_len (l : List Int) : (makeM l).length ≤ l.length := by
  unfold makeM
  have h1 := compact_len ((l.filter fun x => !decide (x < 0)).mergeSort fun x y => decide (x ≤ y))
  rw [List.length_mergeSort] at h1
  exact Nat.le_trans h1 (List.length_filter_le _ _)
/-- A clause made of a row that was just built. -/
theorem make_new {w : World} {B : Nat} (hB : B ≤ w.heap.size) (zs : List Int) (hl : zs.length ≤ 1000) (n : Nat) (hn : zs.length = n) :
    Calls Tryz.prog 153 #[.slice (some ⟨w.heap.size, 0, none⟩) n n] (w.alloc (.cells (zs.map (Value.int .i64)).toArray 3)) fun e w' => ∃ A' c', e = .returned (.slice A' (makeM zs).length c') ∧ RowN (fun b => B ≤ b) w' A' (makeM zs) ∧ (A' = none → c' = 0) ∧ (makeM zs).length ≤ c' ∧ Below w.heap.size w w' := by
  subst hn
  have hr : RowN (fun _ => True) (w.alloc (.cells (zs.map (Value.int .i64)).toArray 3)) (some ⟨w.heap.size, 0, none⟩) zs := RowN.of_blk (Blk.new w _ _) trivial (by omega)
  refine (make_ok zs.length hr.row (fun e => (by cases e))).mono ?_
  rintro e w' ⟨v, rfl, ho, hb⟩
  have hb' : Below w.heap.size w w' := ((Below.refl _ w).alloc (Nat.le_refl _) _).trans (hb.mono (by simp))
  obtain ⟨A', c', rfl⟩ := own_slice ho
  obtain ⟨h1, h2, h3, _⟩ := RowN.of_own ho (by have := make_len zs; omega)
  exact ⟨A', c', rfl, h1.mono (fun b _ hb => Nat.le_trans hB (Nat.le_trans (by simp) hb)), h2, h3, hb'⟩
set_option maxRecDepth 100000 in
set_option maxHeartbeats 8000000 in
theorem of2_ok {T : List Nd} {w : World} {A : Option Addr} {r c M : Nat} {bad : Bool} (h : Reader w r A T c M bad) (hT : TabOk T) (k1 k2 : Nat) (hk1 : k1 < T.length) (hk2 : k2 < T.length) :
    Calls Tryz.prog 107 #[.pointer (some ⟨r, 0, none⟩), .int .i64 (k1 : Nat), .int .i64 (k2 : Nat)] w (OfOut T k1 k2 bad r A c M w) := by
  have hlen := h.tab.len
  have hi : ∀ k : Nat, k < T.length → In64 (k : Int) := fun k hk => by unfold In64; omega
  have HWe := Lib.hid (eq_wf (hi k1 hk1) (hi k2 hk2))
  have H := Lib.hid h
  have HT := Lib.hid hT
  have HK := Lib.hid (And.intro hk1 hk2)
  have HLen := Lib.hid hlen
  have HMa := Lib.hid (base_may hT (x := (k1 : Nat)) (by omega) (by omega))
  have HMb := Lib.hid (base_may hT (x := (k2 : Nat)) (by omega) (by omega))
  have HWFs := Lib.hid h.tab.wfs
  have HOF : Hid (of2 T k1 k2 = if eqNd k1 k2 ∈ T then
    if mayI (difN T k1 k2) = true then
      if (baseT T k1).1 = (baseT T k2).1 then some [[litT T (eqNd k1 k2) + 1]]
      else if diffNd (baseT T k1).1 (baseT T k2).1 (difN T k1 k2) ∈ T ∧ diffNd (baseT T k2).1 (baseT T k1).1 (difN T k2 k1) ∈ T then
        some [makeM [litT T (eqNd k1 k2) + 1, litT T (diffNd (baseT T k1).1 (baseT T k2).1 (difN T k1 k2))],
          makeM [litT T (eqNd k1 k2) + 1, litT T (diffNd (baseT T k2).1 (baseT T k1).1 (difN T k2 k1))],
          makeM [litT T (eqNd k1 k2), litT T (diffNd (baseT T k1).1 (baseT T k2).1 (difN T k1 k2)) + 1, litT T (diffNd (baseT T k2).1 (baseT T k1).1 (difN T k2 k1)) + 1]]
      else none
    else none
  else none) := Lib.hid rfl
  clear h hT hi hk1 hk2
  go_enter Tryz.func107, Tryz.ntmps107
  go_wp2_with fail
  refine (equality_ok _ _ _).mono ?_
  rintro e w1 ⟨rfl, hb⟩
  have HR1 := Lib.hid (H.out.keep hb)
  have HK1 := Lib.hid (Kept.of_below (S := fun b => b = r) hb)
  clear hb
  go_wp2_with fail
  refine (lit_ok HR1.out (eqNd k1 k2) HWe.out).mono ?_
  rintro e w2 ⟨rfl, hr, hk⟩
  have HR2 := Lib.hid hr
  have HK2 := Lib.hid (HK1.out.trans hk)
  have x0 := hr.blk.cell 0
  simp only [List.getElem?_toArray, List.getElem?_cons_zero] at x0
  clear hr hk
  go_wp2_with fail
  refine (sbase_ok c k1 HK.out.1 HR2.out.tab).mono ?_
  rintro e w3 ⟨rfl, hb⟩
  have HR3 := Lib.hid (HR2.out.keep hb)
  have HK3 := Lib.hid (HK2.out.trans (Kept.of_below hb))
  have x1 := HR3.out.blk.cell 0
  simp only [List.getElem?_toArray, List.getElem?_cons_zero] at x1
  clear hb x0
  go_wp2_with fail
  refine (sbase_ok c k2 HK.out.2 HR3.out.tab).mono ?_
  rintro e w4 ⟨rfl, hb⟩
  have HR4 := Lib.hid (HR3.out.keep hb)
  have HK4 := Lib.hid (HK3.out.trans (Kept.of_below hb))
  clear hb x1
  go_wp2_with fail
  refine (psub_ok _ _ _).mono ?_
  rintro e w5 ⟨rfl, hb⟩
  have HR5 := Lib.hid (HR4.out.keep hb)
  have HK5 := Lib.hid (HK4.out.trans (Kept.of_below hb))
  have HSZ5 : Hid (w.heap.size ≤ w5.heap.size) := Lib.hid HK5.out.size
  have hd : (baseT T k2).2 - (baseT T k1).2 = difN T k1 k2 := rfl
  have hsub : subN (baseT T k2).2 (baseT T k1).2 = if mayI (difN T k1 k2) = true then (difN T k1 k2, 0) else (0, 10) := by
    unfold subN
    rw [HMa.out, HMb.out, hd]
    rfl
  rw [hsub]
  have y2 := HR5.out.blk.cell 2
  have yf := HR5.out.blk.frozen 2
  simp only [List.getElem?_toArray, List.getElem?_cons_zero, List.getElem?_cons_succ] at y2
  clear hb hsub hd
  by_cases hm : mayI (difN T k1 k2) = true
  rotate_left
  · rw [if_neg hm]
    have HN : Hid (of2 T k1 k2 = none) := Lib.hid (by rw [HOF.out]; simp [hm])
    clear hm HOF
    go_wp2
    go_ret
    refine ⟨.slice none 0 0, [], rfl, ⟨by simp, ⟨none, 0, rfl, fun _ => rfl, Nat.le_refl _, .inl rfl⟩, fun r hr => (by cases hr)⟩, fun l hl => (by rw [HN.out] at hl; cases hl), by simp, .inl rfl, ?_, HK5.out.setCell (.inl rfl) _⟩
    rw [HN.out]
    have := HR5.out.bad_ true
    simpa using this
  rw [if_pos hm]
  have HM := Lib.hid hm
  have HLe := Lib.hid (litR_in (n := eqNd k1 k2) HLen.out)
  have HNe := Lib.hid (neg_lit (n := eqNd k1 k2) HLen.out)
  clear y2 yf
  have HOF2 : Hid (of2 T k1 k2 = if eqNd k1 k2 ∈ T then
      if (baseT T k1).1 = (baseT T k2).1 then some [[litT T (eqNd k1 k2) + 1]]
      else if diffNd (baseT T k1).1 (baseT T k2).1 (difN T k1 k2) ∈ T ∧ diffNd (baseT T k2).1 (baseT T k1).1 (difN T k2 k1) ∈ T then
        some [makeM [litT T (eqNd k1 k2) + 1, litT T (diffNd (baseT T k1).1 (baseT T k2).1 (difN T k1 k2))],
          makeM [litT T (eqNd k1 k2) + 1, litT T (diffNd (baseT T k2).1 (baseT T k1).1 (difN T k2 k1))],
          makeM [litT T (eqNd k1 k2), litT T (diffNd (baseT T k1).1 (baseT T k2).1 (difN T k1 k2)) + 1, litT T (diffNd (baseT T k2).1 (baseT T k1).1 (difN T k2 k1)) + 1]]
      else none
    else none) := Lib.hid (by rw [HOF.out, if_pos hm])
  have HRE : Hid (eqNd k1 k2 ∈ T → litR T (eqNd k1 k2) = litT T (eqNd k1 k2)) := Lib.hid (fun he => by unfold litR; rw [if_pos he])
  clear HOF hm
  by_cases hb : (baseT T k1).1 = (baseT T k2).1
  · have hb' : ((baseT T k1).1 == (baseT T k2).1) = true := by simp [hb]
    have HO3 : Hid (of2 T k1 k2 = if eqNd k1 k2 ∈ T then some [[litT T (eqNd k1 k2) + 1]] else none) := Lib.hid (by rw [HOF2.out, if_pos hb])
    clear hb HOF2
    go_wp2_with fail
    refine (neg_ok _ _).mono ?_
    rintro e w6 ⟨rfl, rfl⟩
    rw [HNe.out]
    go_wp2
    go_ret
    have hg1 := Blk.new w5 3 #[.int .i64 (litR T (eqNd k1 k2) + 1)]
    have hg2 := Blk.new (w5.alloc (.cells #[.int .i64 (litR T (eqNd k1 k2) + 1)] 3)) 27 #[.slice (some ⟨w5.heap.size, 0, none⟩) 1 1]
    rw [World.size_alloc] at hg2
    have hb7 : Below w5.heap.size w5 ((w5.alloc (.cells #[.int .i64 (litR T (eqNd k1 k2) + 1)] 3)).alloc (.cells #[.slice (some ⟨w5.heap.size, 0, none⟩) 1 1] 27)) := ((Below.refl _ w5).alloc (Nat.le_refl _) _).alloc (by simp) _
    refine ⟨_, [(some ⟨w5.heap.size, 0, none⟩, 1, [litR T (eqNd k1 k2) + 1])], rfl, ⟨by simp, ⟨some ⟨w5.heap.size + 1, 0, none⟩, 1, rfl, fun e => (by cases e), Nat.le_refl _, .inr ⟨w5.heap.size + 1, 0, rfl, by have := HSZ5.out; omega, hg2.lt, fun k hk => ?_⟩⟩, fun r hr => ?_⟩, fun l hl => ?_, by simp, .inr (by simp), ?_, HK5.out.trans (Kept.of_below hb7)⟩
    · obtain rfl : k = 0 := by simpa using hk
      exact hg2.cell 0
    · rw [List.mem_singleton.1 hr]
      exact ⟨RowN.of_blk (g := w5.heap.size) (zs := [litR T (eqNd k1 k2) + 1]) (hg1.alloc _) HSZ5.out (by simp), fun e => (by cases e), Nat.le_refl _⟩
    · rw [HO3.out] at hl
      split at hl
      · rename_i he
        injection hl with hl
        rw [← hl, ← HRE.out he]
        exact ⟨rfl, _, _, _, rfl⟩
      · cases hl
    · rw [HO3.out]
      have := HR5.out.keep hb7
      by_cases he : eqNd k1 k2 ∈ T
      · simpa [he] using this
      · simpa [he] using this
  have hb' : ((baseT T k1).1 == (baseT T k2).1) = false := by simp [hb]
  have HO3 : Hid (of2 T k1 k2 = if eqNd k1 k2 ∈ T then (if diffNd (baseT T k1).1 (baseT T k2).1 (difN T k1 k2) ∈ T ∧ diffNd (baseT T k2).1 (baseT T k1).1 (difN T k2 k1) ∈ T then
        some [makeM [litT T (eqNd k1 k2) + 1, litT T (diffNd (baseT T k1).1 (baseT T k2).1 (difN T k1 k2))],
          makeM [litT T (eqNd k1 k2) + 1, litT T (diffNd (baseT T k2).1 (baseT T k1).1 (difN T k2 k1))],
          makeM [litT T (eqNd k1 k2), litT T (diffNd (baseT T k1).1 (baseT T k2).1 (difN T k1 k2)) + 1, litT T (diffNd (baseT T k2).1 (baseT T k1).1 (difN T k2 k1)) + 1]]
      else none) else none) := Lib.hid (by rw [HOF2.out, if_neg hb])
  have hd21 : difN T k2 k1 = -difN T k1 k2 := by unfold difN; omega
  have hng : wrap64 (-difN T k1 k2) = difN T k2 k1 := by have := mayI_iff.1 HM.out; rw [hd21]; unfold wrap64; omega
  have HIB : Hid (In64 (baseT T k1).1 ∧ In64 (baseT T k2).1) := Lib.hid (by
    have hx : ∀ k : Nat, k < T.length → In64 (baseT T k).1 := fun k hk => by
      unfold baseT
      split
      · exact (HWFs.out _ (ndAt_mem (by omega) (by omega))).arg 0
      split
      · show In64 1
        unfold In64
        decide
      · have := HLen.out
        unfold In64
        dsimp only
        omega
    exact ⟨hx k1 HK.out.1, hx k2 HK.out.2⟩)
  have HWp : Hid (NdWf (diffNd (baseT T k1).1 (baseT T k2).1 (difN T k1 k2))) := Lib.hid (diffNd_wf HIB.out.1 HIB.out.2 (may_in HM.out))
  have HWq : Hid (NdWf (diffNd (baseT T k2).1 (baseT T k1).1 (difN T k2 k1))) := Lib.hid (diffNd_wf HIB.out.2 HIB.out.1 (may_in (may_neg HM.out)))
  clear hb HOF2 hd21
  obtain ⟨p, hp⟩ : ∃ p, diffNd (baseT T k1).1 (baseT T k2).1 (difN T k1 k2) = p := ⟨_, rfl⟩
  obtain ⟨q, hq⟩ : ∃ q, diffNd (baseT T k2).1 (baseT T k1).1 (difN T k2 k1) = q := ⟨_, rfl⟩
  have KP : Hid (∀ (W : World) (bd : Bool), Reader W r A T c M bd → Calls Tryz.prog 149 #[.pointer (some ⟨r, 0, none⟩), .agg #[.int .i8 12, .int .i8 2, .int .i64 (baseT T k1).1, .int .i64 (baseT T k2).1, .int .i64 0, .int .i64 0, .int .i64 0, .int .i64 (difN T k1 k2)]] W fun e w' => e = .returned (.int .i64 (litR T p)) ∧ Reader w' r A T c M (bd || !decide (p ∈ T)) ∧ Kept (fun b => b = r) W w') := Lib.hid (by rw [← hp]; exact fun W bd hW => lit_ok hW (diffNd (baseT T k1).1 (baseT T k2).1 (difN T k1 k2)) HWp.out)
  have KQ : Hid (∀ (W : World) (bd : Bool), Reader W r A T c M bd → Calls Tryz.prog 149 #[.pointer (some ⟨r, 0, none⟩), .agg #[.int .i8 12, .int .i8 2, .int .i64 (baseT T k2).1, .int .i64 (baseT T k1).1, .int .i64 0, .int .i64 0, .int .i64 0, .int .i64 (difN T k2 k1)]] W fun e w' => e = .returned (.int .i64 (litR T q)) ∧ Reader w' r A T c M (bd || !decide (q ∈ T)) ∧ Kept (fun b => b = r) W w') := Lib.hid (by rw [← hq]; exact fun W bd hW => lit_ok hW (diffNd (baseT T k2).1 (baseT T k1).1 (difN T k2 k1)) HWq.out)
  rw [hp, hq] at HO3
  have HPn := Lib.hid (neg_lit (n := p) HLen.out)
  have HQn := Lib.hid (neg_lit (n := q) HLen.out)
  have HPe : Hid (p ∈ T → litR T p = litT T p) := Lib.hid (fun he => by unfold litR; rw [if_pos he])
  have HQe : Hid (q ∈ T → litR T q = litT T q) := Lib.hid (fun he => by unfold litR; rw [if_pos he])
  clear hp hq
  go_wp2_with fail
  refine (KP.out _ _ HR5.out).mono ?_
  rintro e w6 ⟨rfl, hr, hk⟩
  have HR6 := Lib.hid hr
  have HK6 := Lib.hid (HK5.out.trans hk)
  clear hr hk
  go_wp2_with fail
  refine (KQ.out _ _ HR6.out).mono ?_
  rintro e w7 ⟨rfl, hr, hk⟩
  have HR7 := Lib.hid hr
  have HK7 := Lib.hid (HK6.out.trans hk)
  clear hr hk hng
  generalize litR T (eqNd k1 k2) = le at *
  generalize litR T p = lp at *
  generalize litR T q = lq at *
  go_wp2_with fail
  refine (neg_ok _ _).mono ?_
  rintro e w' ⟨rfl, rfl⟩
  rw [HNe.out]
  go_wp2_with fail
  have HSZ7 : Hid (w.heap.size ≤ w7.heap.size) := Lib.hid HK7.out.size
  refine (make_new HSZ7.out [le + 1, lp] (by simp) 2 rfl).mono ?_
  rintro e w8 ⟨A1, c1, rfl, h1, h2, h3, hb⟩
  have HB8 := Lib.hid hb
  have G1 := Lib.hid (And.intro h1 (And.intro h2 h3))
  have HSZ8 : Hid (w.heap.size ≤ w8.heap.size) := Lib.hid (Nat.le_trans HSZ7.out hb.size)
  clear h1 h2 h3 hb
  go_wp2_with fail
  refine (neg_ok _ _).mono ?_
  rintro e w' ⟨rfl, rfl⟩
  rw [HNe.out]
  go_wp2_with fail
  refine (make_new HSZ8.out [le + 1, lq] (by simp) 2 rfl).mono ?_
  rintro e w9 ⟨A2, c2, rfl, h1, h2, h3, hb⟩
  have HB9 := Lib.hid (HB8.out.trans (hb.mono HB8.out.size))
  have G1b := Lib.hid (And.intro (G1.out.1.kept (Kept.of_below (S := fun _ => False) hb) (fun _ _ _ h => h)) G1.out.2)
  have G2 := Lib.hid (And.intro h1 (And.intro h2 h3))
  have HSZ9 : Hid (w.heap.size ≤ w9.heap.size) := Lib.hid (Nat.le_trans HSZ8.out hb.size)
  clear h1 h2 h3 hb G1
  go_wp2_with fail
  refine (neg_ok _ _).mono ?_
  rintro e w' ⟨rfl, rfl⟩
  rw [HPn.out]
  go_wp2_with fail
  refine (neg_ok _ _).mono ?_
  rintro e w' ⟨rfl, rfl⟩
  rw [HQn.out]
  go_wp2_with fail
  refine (make_new HSZ9.out [le, lp + 1, lq + 1] (by simp) 3 rfl).mono ?_
  rintro e w10 ⟨A3, c3, rfl, h1, h2, h3, hb⟩
  have HB10 := Lib.hid (HB9.out.trans (hb.mono HB9.out.size))
  have G1c := Lib.hid (And.intro (G1b.out.1.kept (Kept.of_below (S := fun _ => False) hb) (fun _ _ _ h => h)) G1b.out.2)
  have G2c := Lib.hid (And.intro (G2.out.1.kept (Kept.of_below (S := fun _ => False) hb) (fun _ _ _ h => h)) G2.out.2)
  have G3 := Lib.hid (And.intro h1 (And.intro h2 h3))
  have HSZ10 : Hid (w.heap.size ≤ w10.heap.size) := Lib.hid (Nat.le_trans HSZ9.out hb.size)
  clear h1 h2 h3 hb G1b G2
  go_wp2
  go_ret
  have hg := Blk.new w10 27 #[.slice A1 (makeM [le + 1, lp]).length c1, .slice A2 (makeM [le + 1, lq]).length c2, .slice A3 (makeM [le, lp + 1, lq + 1]).length c3]
  have hbx : Below w10.heap.size w10 (w10.alloc (.cells #[.slice A1 (makeM [le + 1, lp]).length c1, .slice A2 (makeM [le + 1, lq]).length c2, .slice A3 (makeM [le, lp + 1, lq + 1]).length c3] 27)) := (Below.refl _ w10).alloc (Nat.le_refl _) _
  have hkf := Kept.of_below (S := fun _ => False) hbx
  have hb11 := HB10.out.trans (hbx.mono HB10.out.size)
  refine ⟨_, [(A1, c1, makeM [le + 1, lp]), (A2, c2, makeM [le + 1, lq]), (A3, c3, makeM [le, lp + 1, lq + 1])], rfl, ⟨by simp, ⟨some ⟨w10.heap.size, 0, none⟩, 3, rfl, fun e => (by cases e), Nat.le_refl _, .inr ⟨w10.heap.size, 0, rfl, HSZ10.out, hg.lt, fun k hk => ?_⟩⟩, fun x hx => ?_⟩, fun l hl => ?_, by simp, .inr (by simp), ?_, HK7.out.trans (Kept.of_below hb11)⟩
  · rcases (by simp at hk; omega : k = 0 ∨ k = 1 ∨ k = 2) with rfl | rfl | rfl
    · exact hg.cell 0
    · exact hg.cell 1
    · exact hg.cell 2
  · simp only [List.mem_cons, List.not_mem_nil, or_false] at hx
    rcases hx with rfl | rfl | rfl
    · exact ⟨G1c.out.1.kept hkf (fun _ _ _ h => h), G1c.out.2⟩
    · exact ⟨G2c.out.1.kept hkf (fun _ _ _ h => h), G2c.out.2⟩
    · exact ⟨G3.out.1.kept hkf (fun _ _ _ h => h), G3.out.2⟩
  · rw [HO3.out] at hl
    split at hl
    · rename_i he
      split at hl
      · rename_i hpq
        injection hl with hl
        rw [← hl, ← HRE.out he, ← HPe.out hpq.1, ← HQe.out hpq.2]
        exact ⟨rfl, _, _, _, rfl⟩
      · cases hl
    · cases hl
  · rw [HO3.out]
    have h9 := HR7.out.keep hb11
    by_cases he : eqNd k1 k2 ∈ T
    · by_cases hp : p ∈ T
      · by_cases hq : q ∈ T
        · simpa [he, hp, hq] using h9
        · simpa [he, hp, hq] using h9
      · simpa [he, hp] using h9
    · simpa [he] using h9
end Go.Proofs.YtlipnnibagidiaaGreat

/- Cells of small ints; the assignment that numbers make, node by node. -/
import Derived.Test.YtlipnnibagidiaaGreatGrF
import Derived.Test.YtlipnnibagidiaaGreatRdF
namespace Go.Proofs.YtlipnnibagidiaaGreat
def bitI (p : Prop) [Decidable p] : Int := if p then 1 else 0
structure Sem (T : List Nd) (val : Int → Int) : Prop where
  bool : ∀ i : Int, 0 ≤ i → i < T.length → (ndAt T i).sort = 0 → val i = 0 ∨ val i = 1
  tru : ∀ i : Int, 0 ≤ i → i < T.length → (ndAt T i).op = 0 → val i = 1
  not : ∀ i : Int, 0 ≤ i → i < T.length → (ndAt T i).op = 1 → val i = 1 - val (ndAt T i).a0
  and : ∀ i : Int, 0 ≤ i → i < T.length → (ndAt T i).op = 2 → val i = val (ndAt T i).a0 * val (ndAt T i).a1
  or : ∀ i : Int, 0 ≤ i → i < T.length → (ndAt T i).op = 3 → val i = max (val (ndAt T i).a0) (val (ndAt T i).a1)
  eq : ∀ i : Int, 0 ≤ i → i < T.length → (ndAt T i).op = 6 → val i = bitI (val (ndAt T i).a0 = val (ndAt T i).a1)
  ite : ∀ i : Int, 0 ≤ i → i < T.length → (ndAt T i).op = 7 → val i = if val (ndAt T i).a0 = 1 then val (ndAt T i).a1 else val (ndAt T i).a2
  num : ∀ i : Int, 0 ≤ i → i < T.length → (ndAt T i).op = 10 → val i = (ndAt T i).num
  add : ∀ i : Int, 0 ≤ i → i < T.length → (ndAt T i).op = 11 → val i = val (ndAt T i).a0 + (ndAt T i).num
  diff : ∀ i : Int, 0 ≤ i → i < T.length → (ndAt T i).op = 12 → val i = bitI (val (ndAt T i).a0 - val (ndAt T i).a1 ≤ (ndAt T i).num)
def onV (val : Int → Int) (x : Int) : Prop := val (x / 2) = 1 - x % 2
theorem onV_neg {val : Int → Int} {x : Int} (h0 : 0 ≤ x) (hv : val (x / 2) = 0 ∨ val (x / 2) = 1) : onV val (negL x) ↔ ¬ onV val x := by
  obtain ⟨_, e1, e2⟩ := negL_facts h0
  unfold onV
  rw [e1, e2]
  rcases hv with h | h <;> rw [h] <;> constructor <;> intro h' <;> omega
theorem litP_on {T : List Nd} (h : Well T) {val : Int → Int} (hv : Sem T val) {id : Int} (h0 : 0 ≤ id) (h1 : id < T.length) (hs : (ndAt T id).sort = 0) : (onV val (litP T id) ↔ val id = 1) ∧ (val (litP T id / 2) = 0 ∨ val (litP T id / 2) = 1) := by
  obtain ⟨g1, g2, g3, g4, g5, g6⟩ := litP_facts h h0 h1 hs
  have hb := hv.bool _ (by omega) g2 g3
  refine ⟨?_, hb⟩
  by_cases ho : (ndAt T id).op = 1
  · obtain ⟨e, _⟩ := g6 ho
    have hn := hv.not id h0 h1 ho
    rw [e] at hb ⊢
    have e1 : (2 * (ndAt T id).a0 + 1) / 2 = (ndAt T id).a0 := by omega
    have e2 : (2 * (ndAt T id).a0 + 1) % 2 = 1 := by omega
    unfold onV
    rw [e1] at hb
    rw [e1, e2, hn]
    constructor <;> intro h <;> omega
  · rw [g5 ho]
    have e1 : 2 * id / 2 = id := by omega
    have e2 : 2 * id % 2 = 0 := by omega
    unfold onV
    rw [e1, e2]
    simp
theorem val_base {T : List Nd} (h : Well T) {val : Int → Int} (hv : Sem T val) {x : Int} (hx : Shd T x) : val x = val (baseT T x).1 + (baseT T x).2 := by
  unfold baseT
  split
  · rename_i h11
    exact hv.add x hx.lo hx.hi h11
  · split
    · rename_i h10
      have h1 : ndAt T 1 = zeroNd := ndAt_some (i := 1) h.core.ok.t1
      have hl := h.core.ok.len
      have z := hv.num 1 (by decide) (by omega) (by rw [h1]; rfl)
      rw [h1] at z
      have z' : val 1 = 0 := z
      have := hv.num x hx.lo hx.hi h10
      show val x = val 1 + (ndAt T x).num
      omega
    · show val x = val x + 0
      omega
theorem dif_on {T : List Nd} (h : Well T) {val : Int → Int} (hv : Sem T val) {x y : Int} (hx : Shd T x) (hy : Shd T y) (hm : diffNd (baseT T x).1 (baseT T y).1 (difN T x y) ∈ T) : onV val (diffP T x y) ↔ val x ≤ val y := by
  obtain ⟨u1, u2, u3⟩ := litT_facts hm
  have hd := hv.diff _ (by omega) u2 (by rw [u3]; rfl)
  rw [u3] at hd
  have e2 := litT_half (T := T) (n := diffNd (baseT T x).1 (baseT T y).1 (difN T x y))
  have vx := val_base h hv hx
  have vy := val_base h hv hy
  have hd' : val (litT T (diffNd (baseT T x).1 (baseT T y).1 (difN T x y)) / 2) = bitI (val (baseT T x).1 - val (baseT T y).1 ≤ difN T x y) := hd
  unfold onV diffP
  rw [hd', e2.2.1]
  unfold bitI difN
  split
  · rename_i hle
    exact ⟨fun _ => by omega, fun _ => rfl⟩
  · rename_i hle
    exact ⟨fun h => by omega, fun h => by omega⟩
theorem same_on {T : List Nd} {val : Int → Int} (hv : Sem T val) {x y : Int} (hm : eqNd (min x y) (max x y) ∈ T) : onV val (sameP T x y) ↔ val x = val y := by
  obtain ⟨u1, u2, u3⟩ := litT_facts hm
  have hd := hv.eq _ (by omega) u2 (by rw [u3]; rfl)
  rw [u3] at hd
  have e2 := litT_half (T := T) (n := eqNd (min x y) (max x y))
  have hd' : val (litT T (eqNd (min x y) (max x y)) / 2) = bitI (val (min x y) = val (max x y)) := hd
  unfold onV sameP
  rw [hd', e2.2.1]
  unfold bitI
  rcases Int.le_total x y with hxy | hxy
  · rw [Int.min_eq_left hxy, Int.max_eq_right hxy]
    split
    · rename_i he
      exact ⟨fun _ => he, fun _ => rfl⟩
    · rename_i he
      exact ⟨fun h => by omega, fun h => absurd h he⟩
  · rw [Int.min_eq_right hxy, Int.max_eq_left hxy]
    split
    · rename_i he
      exact ⟨fun _ => he.symm, fun _ => rfl⟩
    · rename_i he
      exact ⟨fun h => by omega, fun h => absurd h.symm he⟩
theorem clausesP_hold {T : List Nd} (h : Well T) (hI : IteOk T) {val : Int → Int} (hv : Sem T val) {id : Int} (h0 : 0 ≤ id) (h1 : id < T.length) : ∀ c ∈ clausesP T id, ∃ x ∈ c, onV val x := by
  intro c hc
  have hst := at_of h h0 h1
  unfold clausesP at hc
  dsimp only at hc
  split at hc
  · rename_i ho
    obtain rfl := List.mem_singleton.1 hc
    refine ⟨2 * id, by simp, ?_⟩
    unfold onV
    rw [show 2 * id / 2 = id by omega, show 2 * id % 2 = 0 by omega, hv.tru id h0 h1 ho]
    rfl
  split at hc
  · rename_i ho
    obtain ⟨s0, s1, s2⟩ := srt_and h h0 h1 (.inl ho)
    obtain ⟨⟨p0, p1⟩, q0, q1⟩ := hst.two (.inr (.inr (.inl ho)))
    have gt := litP_on h hv h0 h1 s0
    have ga := litP_on h hv p0 (by omega) s1
    have gb := litP_on h hv q0 (by omega) s2
    have nt := onV_neg (litP_in h h0 h1 s0).1 gt.2
    have na := onV_neg (litP_in h p0 (by omega) s1).1 ga.2
    have nb := onV_neg (litP_in h q0 (by omega) s2).1 gb.2
    have va := hv.bool _ p0 (by omega) s1
    have vb := hv.bool _ q0 (by omega) s2
    have vt := hv.and id h0 h1 ho
    rw [gt.1] at nt
    rw [ga.1] at na
    rw [gb.1] at nb
    have gt := gt.1
    have ga := ga.1
    have gb := gb.1
    generalize litP T id = t at *
    generalize litP T (ndAt T id).a0 = a at *
    generalize litP T (ndAt T id).a1 = b at *
    simp only [List.mem_cons, List.not_mem_nil, or_false] at hc
    rcases va with va | va <;> rcases vb with vb | vb <;> rw [va, vb] at vt <;> rw [va] at na ga <;> rw [vb] at nb gb <;> rw [vt] at nt gt <;> rcases hc with rfl | rfl | rfl <;> simp [gt, ga, gb, nt, na, nb]
  split at hc
  · rename_i ho
    obtain ⟨s0, s1, s2⟩ := srt_and h h0 h1 (.inr ho)
    obtain ⟨⟨p0, p1⟩, q0, q1⟩ := hst.two (.inr (.inr (.inr ho)))
    have gt := litP_on h hv h0 h1 s0
    have ga := litP_on h hv p0 (by omega) s1
    have gb := litP_on h hv q0 (by omega) s2
    have nt := onV_neg (litP_in h h0 h1 s0).1 gt.2
    have na := onV_neg (litP_in h p0 (by omega) s1).1 ga.2
    have nb := onV_neg (litP_in h q0 (by omega) s2).1 gb.2
    have va := hv.bool _ p0 (by omega) s1
    have vb := hv.bool _ q0 (by omega) s2
    have hmax : max (0 : Int) 0 = 0 ∧ max (0 : Int) 1 = 1 ∧ max (1 : Int) 0 = 1 ∧ max (1 : Int) 1 = 1 := by decide
    have vt := hv.or id h0 h1 ho
    rw [gt.1] at nt
    rw [ga.1] at na
    rw [gb.1] at nb
    have gt := gt.1
    have ga := ga.1
    have gb := gb.1
    generalize litP T id = t at *
    generalize litP T (ndAt T id).a0 = a at *
    generalize litP T (ndAt T id).a1 = b at *
    simp only [List.mem_cons, List.not_mem_nil, or_false] at hc
    rcases va with va | va <;> rcases vb with vb | vb <;> rw [va, vb] at vt <;> simp only [hmax.1, hmax.2.1, hmax.2.2.1, hmax.2.2.2] at vt <;> rw [va] at na ga <;> rw [vb] at nb gb <;> rw [vt] at nt gt <;> rcases hc with rfl | rfl | rfl <;> simp [gt, ga, gb, nt, na, nb]
  split at hc
  · rename_i ho
    split at hc
    rotate_left
    · cases hc
    rename_i hs
    obtain ⟨s0, s1⟩ := srt_eq h h0 h1 ho
    obtain ⟨⟨p0, p1⟩, q0, q1⟩ := hst.two (.inl ho)
    have s2 : (ndAt T (ndAt T id).a1).sort = 0 := by rw [← s1]; exact hs
    have gt := litP_on h hv h0 h1 s0
    have ga := litP_on h hv p0 (by omega) hs
    have gb := litP_on h hv q0 (by omega) s2
    have nt := onV_neg (litP_in h h0 h1 s0).1 gt.2
    have na := onV_neg (litP_in h p0 (by omega) hs).1 ga.2
    have nb := onV_neg (litP_in h q0 (by omega) s2).1 gb.2
    have va := hv.bool _ p0 (by omega) hs
    have vb := hv.bool _ q0 (by omega) s2
    have vt := hv.eq id h0 h1 ho
    unfold bitI at vt
    rw [gt.1] at nt
    rw [ga.1] at na
    rw [gb.1] at nb
    have gt := gt.1
    have ga := ga.1
    have gb := gb.1
    generalize litP T id = t at *
    generalize litP T (ndAt T id).a0 = a at *
    generalize litP T (ndAt T id).a1 = b at *
    simp only [List.mem_cons, List.not_mem_nil, or_false] at hc
    rcases va with va | va <;> rcases vb with vb | vb <;> rw [va, vb] at vt <;> simp only [if_true, if_false, show ¬ (0 : Int) = 1 by decide, show ¬ (1 : Int) = 0 by decide] at vt <;> rw [va] at na ga <;> rw [vb] at nb gb <;> rw [vt] at nt gt <;> rcases hc with rfl | rfl | rfl | rfl <;> simp [gt, ga, gb, nt, na, nb]
  split at hc
  · rename_i ho
    obtain ⟨s0, s1, s2⟩ := srt_ite h h0 h1 ho
    have hl := hst.len_of (lo := 3) (by rw [ho]; decide)
    have p0 : 0 ≤ (ndAt T id).a0 ∧ (ndAt T id).a0 < id := hst.arg_lt 0 (by omega) (by rw [hl]; decide)
    have p1 : 0 ≤ (ndAt T id).a1 ∧ (ndAt T id).a1 < id := hst.arg_lt 1 (by omega) (by rw [hl]; decide)
    have p2 : 0 ≤ (ndAt T id).a2 ∧ (ndAt T id).a2 < id := hst.arg_lt 2 (by omega) (by rw [hl]; decide)
    have ga := litP_on h hv p0.1 (by omega) s0
    have na := onV_neg (litP_in h p0.1 (by omega) s0).1 ga.2
    have va := hv.bool _ p0.1 (by omega) s0
    have vt := hv.ite id h0 h1 ho
    rw [ga.1] at na
    have ga := ga.1
    split at hc
    · rename_i hs
      have gt := litP_on h hv h0 h1 hs
      have gb := litP_on h hv p1.1 (by omega) (by rw [s1, hs])
      have gc := litP_on h hv p2.1 (by omega) (by rw [s2, hs])
      have nt := onV_neg (litP_in h h0 h1 hs).1 gt.2
      have nb := onV_neg (litP_in h p1.1 (by omega) (by rw [s1, hs])).1 gb.2
      have nc := onV_neg (litP_in h p2.1 (by omega) (by rw [s2, hs])).1 gc.2
      have vb := hv.bool _ p1.1 (by omega) (by rw [s1, hs])
      have vc := hv.bool _ p2.1 (by omega) (by rw [s2, hs])
      rw [gt.1] at nt
      rw [gb.1] at nb
      rw [gc.1] at nc
      have gt := gt.1
      have gb := gb.1
      have gc := gc.1
      generalize litP T id = t at *
      generalize litP T (ndAt T id).a0 = a at *
      generalize litP T (ndAt T id).a1 = b at *
      generalize litP T (ndAt T id).a2 = d at *
      simp only [List.mem_cons, List.not_mem_nil, or_false] at hc
      rcases va with va | va <;> rcases vb with vb | vb <;> rcases vc with vc | vc <;> rw [va, vb, vc] at vt <;> simp only [if_true, if_false, show ¬ (0 : Int) = 1 by decide] at vt <;> rw [va] at na ga <;> rw [vb] at nb gb <;> rw [vc] at nc gc <;> rw [vt] at nt gt <;> rcases hc with rfl | rfl | rfl | rfl <;> simp [gt, ga, gb, gc, nt, na, nb, nc]
    · rename_i hs
      obtain ⟨idN, rfl⟩ : ∃ n : Nat, id = n := ⟨id.toNat, by omega⟩
      have hget : T[idN]? = some (ndAt T (idN : Int)) := by rw [ndAt_nat (by omega)]; exact List.getElem?_eq_getElem (by omega)
      obtain ⟨k1, k2⟩ := hI idN _ hget ho
      split at hc
      · rename_i hs1
        have hx : Shd T idN := ⟨h0, h1, hs1⟩
        have hy1 : Shd T (ndAt T (idN : Int)).a1 := ⟨p1.1, by omega, by rw [s1, hs1]⟩
        have hy2 : Shd T (ndAt T (idN : Int)).a2 := ⟨p2.1, by omega, by rw [s2, hs1]⟩
        have bi := (base_ne h (i := (idN : Int)) (a := (ndAt T (idN : Int)).a0) ⟨h0, h1⟩ ho p0).1
        obtain ⟨m1, m2, m3⟩ := k1.1 hs1
        obtain ⟨m4, m5, m6⟩ := k2.1 hs1
        have d1 := dif_on h hv hx hy1 (by rw [bi]; exact m2)
        have d2 := dif_on h hv hy1 hx (by rw [bi]; exact m3)
        have d3 := dif_on h hv hx hy2 (by rw [bi]; exact m5)
        have d4 := dif_on h hv hy2 hx (by rw [bi]; exact m6)
        generalize litP T (ndAt T (idN : Int)).a0 = a at *
        simp only [List.mem_cons, List.not_mem_nil, or_false] at hc
        rcases va with va | va
        · rw [va, if_neg (by decide)] at vt
          rw [va] at na ga
          rcases hc with rfl | rfl | rfl | rfl
          · exact ⟨negL a, by simp, na.2 (by decide)⟩
          · exact ⟨negL a, by simp, na.2 (by decide)⟩
          · exact ⟨_, by simp, d3.2 (by omega)⟩
          · exact ⟨_, by simp, d4.2 (by omega)⟩
        · rw [va, if_pos rfl] at vt
          rw [va] at na ga
          rcases hc with rfl | rfl | rfl | rfl
          · exact ⟨_, by simp, d1.2 (by omega)⟩
          · exact ⟨_, by simp, d2.2 (by omega)⟩
          · exact ⟨a, by simp, ga.2 rfl⟩
          · exact ⟨a, by simp, ga.2 rfl⟩
      · rename_i hs1
        have d1 := same_on hv (k1.2 hs hs1)
        have d2 := same_on hv (k2.2 hs hs1)
        generalize litP T (ndAt T (idN : Int)).a0 = a at *
        simp only [List.mem_cons, List.not_mem_nil, or_false] at hc
        rcases va with va | va
        · rw [va, if_neg (by decide)] at vt
          rw [va] at na ga
          rcases hc with rfl | rfl
          · exact ⟨negL a, by simp, na.2 (by decide)⟩
          · exact ⟨_, by simp, d2.2 vt⟩
        · rw [va, if_pos rfl] at vt
          rw [va] at na ga
          rcases hc with rfl | rfl
          · exact ⟨_, by simp, d1.2 vt⟩
          · exact ⟨a, by simp, ga.2 rfl⟩
  · cases hc
end Go.Proofs.YtlipnnibagidiaaGreat
namespace Go.Proofs.YtlipnnibagidiaaGreat
open Go.RowKit Go.Lib
structure Row8 (w : World) (A : Option Addr) (zs : List Int) : Prop where
  len : zs.length ≤ 100000
  at_ : zs.length = 0 ∨ ∃ b off, A = some ⟨b, off, none⟩ ∧ b < w.heap.size ∧ ∀ i (h : i < zs.length), w.cell? ⟨b, off + i, none⟩ = some (.int .i8 zs[i])
def i8Cells (n : Nat) (F : Nat → Int) : Array Value := ((List.range n).map fun i => Value.int .i8 (F i)).toArray
def updI (F : Nat → Int) (k : Nat) (b : Int) (i : Nat) : Int := if i = k then b else F i
theorem i8Cells_get {n : Nat} {F : Nat → Int} {i : Nat} (h : i < n) : (i8Cells n F)[i]? = some (.int .i8 (F i)) := by
  unfold i8Cells
  rw [List.getElem?_toArray, List.getElem?_map, List.getElem?_range h]
  rfl
theorem i8Cells_set {n : Nat} {F : Nat → Int} {k : Nat} (b : Int) : (i8Cells n F).setIfInBounds k (.int .i8 b) = i8Cells n (updI F k b) := by
  apply Array.ext'
  unfold i8Cells
  rw [Array.toList_setIfInBounds]
  apply List.ext_getElem?
  intro i
  rw [List.getElem?_set]
  simp only [List.getElem?_map, List.length_map, List.length_range]
  by_cases hi : i < n
  · rw [List.getElem?_range hi]
    by_cases hk : k = i
    · subst hk
      simp [updI, hi]
    · rw [if_neg hk]
      simp [updI, show ¬ i = k from fun e => hk e.symm]
  · rw [List.getElem?_eq_none (by simpa using hi)]
    by_cases hk : k = i
    · subst hk
      simp [hi]
    · rw [if_neg hk]
      rfl
theorem i8Cells_made (n : Nat) : madeCells #[Value.int .i8 0] n = i8Cells n (fun _ => 0) := by
  rw [made_one]
  unfold i8Cells
  congr 1
  apply List.ext_getElem?
  intro i
  rw [List.getElem?_map]
  by_cases hi : i < n
  · rw [List.getElem?_range hi, List.getElem?_replicate, if_pos hi]
    rfl
  · rw [List.getElem?_eq_none (by simpa using hi), List.getElem?_eq_none (by simpa using hi)]
    rfl
theorem int8_info : (Tryz.prog.info? 44).map (fun i => (i.zero, i.size, i.bytes)) = some (some (.int .i8 0), 1, 1) := by kernel_rfl
theorem i8_row {w : World} {b n : Nat} {F : Nat → Int} (h : Blk w b 44 (i8Cells n F)) (hn : n ≤ 100000) : Row8 w (some ⟨b, 0, none⟩) ((List.range n).map F) := by
  refine ⟨by simpa using hn, .inr ⟨b, 0, rfl, h.lt, fun i hi => ?_⟩⟩
  have hi' : i < n := by simpa using hi
  rw [Nat.zero_add, h.cell, i8Cells_get hi']
  simp
section
variable {w W W2 : World} {pO ab : Nat} {A2 : Option Addr} {U : List Nd} {c2 : Nat} {L : List Int} {i : Nat} {F : Nat → Int}
end
end Go.Proofs.YtlipnnibagidiaaGreat

/- Differences: offset.Diff, in a table that is in order. -/
import Derived.Test.YtlipnnibagidiaaNdF
import Derived.Test.YtlipnnibagidiaaEuE
import Derived.Test.YtlipnnibagidiaaShQ
namespace Go.Proofs.Ytlipnnibagidiaa
open Go.RowKit

def DiffIs (r : DiffR) (w : World) (e : Ending) (w' : World) : Prop := e = .returned (.tuple #[.int .i64 r.x, .int .i64 r.y, .int .i64 r.d, .int .i64 r.e]) ∧ Below w.heap.size w w'
def sumD (c m n : Int) : Int × Int := stepA (stepS c 0 m).1 (stepS c 0 m).2 n
theorem diffT_sum (T : List Nd) (a b c : Int) : diffT T a b c = if (ofT T a).e ≠ 0 then ⟨0, 0, 0, (ofT T a).e⟩ else if (ofT T b).e ≠ 0 then ⟨0, 0, 0, (ofT T b).e⟩ else if (sumD c (ofT T a).n (ofT T b).n).2 ≠ 0 then ⟨0, 0, 0, (sumD c (ofT T a).n (ofT T b).n).2⟩ else ⟨(ofT T a).b, (ofT T b).b, (sumD c (ofT T a).n (ofT T b).n).1, 0⟩ := by
  unfold diffT sumD stepA stepS
  simp only [if_true]
  by_cases h : (subN c (ofT T a).n).2 = 0
  · simp [h]
  · simp [h]

set_option maxRecDepth 100000 in
set_option maxHeartbeats 4000000 in
theorem diff_ok {T : List Nd} {w : World} {A : Option Addr} (k : Nat) (a b c : Int) (ha : -9223372036854775808 ≤ a ∧ a ≤ 9223372036854775807) (hb : -9223372036854775808 ≤ b ∧ b ≤ 9223372036854775807) (hk : T.length ≤ k) (h : Tab w A T) (ho : TabOk T → ordB T = true) :
    Calls Try.prog 29 #[.agg #[.slice A T.length k], .int .i64 a, .int .i64 b, .int .i64 c] w (DiffIs (diffT T a b c) w) := by
  have HB0 := Lib.hid (show Below w.heap.size w (w.alloc (.cells #[.slice A T.length k] 24)) from (Below.refl _ w).alloc (Nat.le_refl _) _)
  have HBL := Lib.hid (show Blk (w.alloc (.cells #[.slice A T.length k] 24)) w.heap.size 24 #[.slice A T.length k] from Blk.new w _ _)
  have HL1 : Hid (w.heap.size < (w.alloc (.cells #[.slice A T.length k] 24)).heap.size) := Lib.hid (by simp)
  have KA := Lib.hid (fun (W : World) (hw : Below w.heap.size w W) => of_ok k a ha hk (h.below hw) ho)
  have KB := Lib.hid (fun (W : World) (hw : Below w.heap.size w W) => of_ok k b hb hk (h.below hw) ho)
  have HD := Lib.hid (diffT_sum T a b c)
  clear h ho hk ha hb
  go_enter Try.func29, Try.ntmps29
  go_wp2_with fail
  refine (KA.out _ HB0.out).mono ?_
  rintro e w1 ⟨rfl, hb⟩
  generalize ofT T a = p at *
  obtain ⟨p1, p2, p3⟩ := p
  have c0 := (HBL.out.below hb HL1.out).cell 0
  simp only [List.getElem?_toArray, List.getElem?_cons_zero] at c0
  have HB1 : Hid (Below w.heap.size w w1) := Lib.hid (HB0.out.trans (hb.mono (Nat.le_of_lt HL1.out)))
  have HBL1 := Lib.hid (HBL.out.below hb HL1.out)
  clear hb
  by_cases t1 : p3 = 0
  · subst t1
    go_wp2_with fail
    refine (KB.out _ HB1.out).mono ?_
    rintro e w2 ⟨rfl, hb⟩
    generalize ofT T b = q at *
    obtain ⟨q1, q2, q3⟩ := q
    have HB2 : Hid (Below w.heap.size w w2) := Lib.hid (HB1.out.trans (hb.mono HB1.out.size))
    clear hb
    by_cases t2 : q3 = 0
    · subst t2
      have HSM := Lib.hid (show Blk (w2.alloc (.cells #[.int .i64 c, .int .i64 0] 86)) w2.heap.size 86 #[.int .i64 c, .int .i64 0] from Blk.new w2 _ _)
      have HB3 := Lib.hid (HB2.out.alloc HB2.out.size (.cells #[.int .i64 c, .int .i64 0] 86))
      have HS : Hid (diffT T a b c = if (sumD c p2 q2).2 ≠ 0 then ⟨0, 0, 0, (sumD c p2 q2).2⟩ else ⟨p1, q1, (sumD c p2 q2).1, 0⟩) := Lib.hid (by rw [HD.out]; simp)
      go_wp2_with fail
      refine (ssub_ok c 0 p2 HSM.out).mono ?_
      rintro e w3 ⟨rfl, hs, hk3⟩
      have HS3 := Lib.hid hs
      have HB4 := Lib.hid (HB3.out.trans (hk3.below (B := w.heap.size) HB3.out.size (fun k e => by have := HB2.out.size; omega)))
      clear hs hk3
      go_wp2_with fail
      refine (sadd_ok _ _ q2 HS3.out).mono ?_
      rintro e w4 ⟨rfl, hs, hk4⟩
      have HS4 := Lib.hid (show Blk w4 w2.heap.size 86 #[.int .i64 (sumD c p2 q2).1, .int .i64 (sumD c p2 q2).2] from hs)
      have HB5 := Lib.hid (HB4.out.trans (hk4.below (B := w.heap.size) HB4.out.size (fun k e => by have := HB2.out.size; omega)))
      clear hs hk4
      have s0 := HS4.out.cell 0
      have s1 := HS4.out.cell 1
      simp only [List.getElem?_toArray, List.getElem?_cons_zero, List.getElem?_cons_succ] at s0 s1
      generalize sumD c p2 q2 = z at *
      obtain ⟨z1, z2⟩ := z
      by_cases t3 : z2 = 0
      · subst t3
        go_wp2
        go_quiet (fail)
        go_wp2
        refine bodyPost_ret (v := .tuple #[.int .i64 p1, .int .i64 q1, .int .i64 z1, .int .i64 0]) (by simp [results, Try.results29, go_sem]) rfl ?_
        rw [HS.out, if_neg (by simp)]
        exact ⟨rfl, below_drewN HB5.out _⟩
      · have d3 : (z2 == 0) = false := by simp [t3]
        have HS' : Hid (diffT T a b c = ⟨0, 0, 0, z2⟩) := Lib.hid (by rw [HS.out, if_pos t3])
        clear t3
        go_wp2
        go_quiet (fail)
        go_wp2
        refine bodyPost_ret (v := .tuple #[.int .i64 0, .int .i64 0, .int .i64 0, .int .i64 z2]) (by simp [results, Try.results29, go_sem]) rfl ?_
        rw [HS'.out]
        exact ⟨rfl, below_drewN HB5.out _⟩
    · have d2 : (q3 == 0) = false := by simp [t2]
      have HS : Hid (diffT T a b c = ⟨0, 0, 0, q3⟩) := Lib.hid (by rw [HD.out]; simp [t2])
      clear t2
      go_wp2
      refine bodyPost_ret (v := .tuple #[.int .i64 0, .int .i64 0, .int .i64 0, .int .i64 q3]) (by simp [results, Try.results29, go_sem]) rfl ?_
      rw [HS.out]
      exact ⟨rfl, HB2.out⟩
  · have d1 : (p3 == 0) = false := by simp [t1]
    have HS : Hid (diffT T a b c = ⟨0, 0, 0, p3⟩) := Lib.hid (by rw [HD.out]; simp [t1])
    clear t1
    go_wp2
    refine bodyPost_ret (v := .tuple #[.int .i64 0, .int .i64 0, .int .i64 0, .int .i64 p3]) (by simp [results, Try.results29, go_sem]) rfl ?_
    rw [HS.out]
    exact ⟨rfl, HB1.out⟩
end Go.Proofs.Ytlipnnibagidiaa

/- Nodes' places, as a map (the table's nodes are all unlike). -/
namespace Go.Proofs.Ytlipnnibagidiaa
open Go.RowKit

/-- A map of nodes' places. -/
def PlaceF (T : List Nd) (i : Nat) (f : Value → Option Value) : Prop := ∀ n : Nd, f (nodeVal n) = if n ∈ T.take i then some (.int .i64 ((T.idxOf n : Nat) : Int)) else none
def PlMap (T : List Nd) (w : World) (e : Ending) (w' : World) : Prop := ∃ M f, e = .returned (.tuple #[.map (some M), .bool true]) ∧ MapSz Try.prog 36 w' M T.length f ∧ PlaceF T T.length f ∧ Below w.heap.size w w'
theorem idxOf_nodup {T : List Nd} (h : T.Nodup) {i : Nat} (hi : i < T.length) : T.idxOf T[i] = i := by
  have h1 : T.idxOf T[i] < T.length := List.idxOf_lt_length_iff.2 (List.getElem_mem hi)
  exact (List.getElem_inj (i := T.idxOf T[i]) (j := i) (h₀ := h1) (h₁ := hi) h).1 (by simp)

set_option maxHeartbeats 2000000 in
set_option maxRecDepth 100000 in
theorem placesN_ok {T : List Nd} {w : World} {A : Option Addr} (c : Nat) (h : Tab w A T) (hnd : T.Nodup) : Calls Try.prog 33 #[.agg #[.slice A T.length c]] w (PlMap T w) := by
  have hlen := h.len
  have H := Lib.hid h
  have HND := Lib.hid hnd
  clear h hnd
  have hmm : ∀ W : World, (Instr.makeMap 69 (some (.int .i64 (T.length : Int)))).run Try.prog W = .ok (.map (some W.heap.size)) (W.alloc (.map #[] 0)) := fun W => by simp [Instr.makeMap, run_underlying Try.underlying69, asInt, asIntOf, Result.andThen]
  have hM := MapSz.made Try.prog 36 (w.alloc (.cells #[.slice A T.length c] 24))
  rw [World.size_alloc] at hM
  have HM := Lib.hid hM
  clear hM
  go_enter Try.func33, Try.ntmps33
  go_wp2
  go_loopg [14] T.length (fun g v wr => ∃ i : Nat, ∃ f, i + g = T.length ∧ v = .int .i64 i ∧ MapSz Try.prog 36 wr (w.heap.size + 1) i f ∧ PlaceF T i f ∧ Below w.heap.size w wr ∧ Blk wr w.heap.size 24 #[.slice A T.length c])
  case atStart =>
    refine ⟨0, _, by omega, rfl, HM.out, fun n => ?_, ((Below.refl _ w).alloc (Nat.le_refl _) _).alloc (by simp) _, (Blk.new w _ _).alloc _⟩
    simp
  case round =>
    obtain ⟨i, f, hig, rfl, hmap, hkeys, hb, hbl⟩ := hrel
    have HMp := Lib.hid hmap
    have HK := Lib.hid hkeys
    have HB := Lib.hid hb
    have HBL := Lib.hid hbl
    have cb := hbl.cell 0
    simp only [List.getElem?_toArray, List.getElem?_cons_zero] at cb
    clear hmap hkeys hb hbl
    cases gk with
    | zero =>
      obtain rfl : i = T.length := by omega
      have d1 : decide ((T.length : Int) < T.length) = false := by simp
      have hl1 : ∀ k ty, (Builtin.len_ #[69] ty #[.map (some (w.heap.size + 1))]).run Try.prog (wr.drewN k) = .ok (.int .i64 T.length) (wr.drewN k) := fun k ty => (show MapSz Try.prog 36 (wr.drewN k) (w.heap.size + 1) T.length f from HMp.out).len Try.underlying69 ty
      have de : ((T.length : Int) == (T.length : Int)) = true := by simp
      go_wp2
      go_quiet (fail)
      go_wp2
      go_ret2
      exact ⟨w.heap.size + 1, f, rfl, HMp.out, HK.out, below_drewN HB.out _⟩
    | succ gk =>
      have hlt : i < T.length := by omega
      have d1 : decide ((i : Int) < T.length) = true := by simp; omega
      obtain ⟨b, off, hA, hbb, hcell⟩ := (H.out.below HB.out).at_.resolve_left (by omega)
      subst hA
      have y := hcell i hlt
      obtain ⟨y0, y1, y2, y3, y4, y5, y6, y7⟩ := y.all
      have hT : T.take (i + 1) = T.take i ++ [T[i]] := by rw [List.take_add_one, List.getElem?_eq_getElem hlt]; rfl
      have hnot : T[i] ∉ T.take i := fun hm => by
        obtain ⟨j, hj, e⟩ := List.mem_iff_getElem.1 hm
        rw [List.length_take] at hj
        rw [List.getElem_take] at e
        have := (List.getElem_inj (i := j) (j := i) (h₀ := by omega) (h₁ := hlt) HND.out).1 e
        omega
      have hidx := idxOf_nodup HND.out hlt
      obtain ⟨kl, hkl⟩ := node_keyOf y.wf
      generalize T[i] = n at *
      obtain ⟨w2, hrun, hmap2, hgr⟩ := (HMp.out.alloc (.cells (nodeCells n).toArray 36)).store node_key Try.underlying69 (by unfold maxLen; omega) hkl (.int .i64 i) (g := putFn f (nodeVal n) (.int .i64 i)) (putFn_at _ _ _) (fun x hx => putFn_far _ _ _ _ hx)
      rw [show f (nodeVal n) = none by rw [HK.out n, if_neg hnot]] at hmap2
      simp only [nodeVal, nodeCells] at hrun
      have HT := Lib.hid hT
      have HM2 := Lib.hid hmap2
      have HG := Lib.hid hgr
      have HI := Lib.hid hidx
      have HNt := Lib.hid hnot
      clear hcell y hkl hT hmap2 hgr hidx hnot
      have t1 : (0 : Int) ≤ (i : Int) := by omega
      have t2 : (i : Int) < (T.length : Int) := by omega
      go_wp2
      go_roundg gk
      case measure => omega
      case rel =>
        refine ⟨i + 1, _, by omega, by go_num, by simpa using HM2.out, fun m => ?_, ?_, ?_⟩
        · rw [HT.out]
          by_cases hm : m = n
          · subst hm
            rw [putFn_at, if_pos (by simp), HI.out]
          · rw [putFn_far _ _ _ _ (fun e => hm (nodeVal_inj e)), HK.out m]
            simp [hm]
        · exact grown_below HG.out (HB.out.alloc (by have := HB.out.size; omega) _) (by have := HB.out.size; simp; omega) (fun k e => by injection e with e; omega)
        · exact (HBL.out.alloc _).grown HG.out (fun e => by injection e with e; omega)
end Go.Proofs.Ytlipnnibagidiaa

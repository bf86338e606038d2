/- Rows of nodes that grow. -/
import Derived.Test.YtlipnnibagidiaaGreatOfE
import Derived.Test.YtlipnnibagidiaaGreatEuG
import Derived.Laws.AppendOwn
namespace Go.Proofs.YtlipnnibagidiaaGreat
open Go.RowKit Go.Lib
theorem nodup_of {T : List Nd} (h : ∀ i k, k < i → (hi : i < T.length) → (hk : k < T.length) → T[k] ≠ T[i]) : T.Nodup :=
  List.pairwise_iff_getElem.2 fun i j hi hj hij => h j i hij hj hi
theorem once_of {T : List Nd} (h : T.Nodup) {i k : Nat} (hki : k < i) (hi : i < T.length) : T[k]'(by omega) ≠ T[i] :=
  List.pairwise_iff_getElem.1 h k i (by omega) hi hki
set_option maxRecDepth 100000 in
set_option maxHeartbeats 4000000 in
theorem rcheck_ok {T : List Nd} {w : World} {A : Option Addr} (c : Nat) (h : Tab w A T) : Calls Tryz.prog 34 #[.agg #[.slice A T.length c]] w (ErrIs (TabOk T) w) := by
  have hlen := h.len
  have HB1 := zzh (show Below w.heap.size w (w.alloc (.cells #[.slice A T.length c] 33)) from (Below.refl _ w).alloc (Nat.le_refl _) _)
  have HBL := zzh (show Blk (w.alloc (.cells #[.slice A T.length c] 33)) w.heap.size 33 #[.slice A T.length c] from Blk.new w _ _)
  have HL1 : Hid (w.heap.size < (w.alloc (.cells #[.slice A T.length c] 33)).heap.size) := zzh (by simp)
  have H := zzh h
  clear h
  go_enter Tryz.func34, Tryz.ntmps34
  go_wp2_with fail
  refine (rnew_ok _).mono ?_
  rintro e w1 ⟨A2, rfl, ht2, hb2⟩
  have hbl1 := HBL.out.below hb2 HL1.out
  have HW1 := zzh (HB1.out.trans (hb2.mono (Nat.le_of_lt HL1.out)))
  have hx : Below w.heap.size w (w1.alloc (.cells #[.slice A2 2 2] 33)) := HW1.out.alloc HW1.out.size _
  have hbl2 := hbl1.alloc (.cells #[.slice A2 2 2] 33)
  have hbx2 : Blk (w1.alloc (.cells #[.slice A2 2 2] 33)) w1.heap.size 33 #[.slice A2 2 2] := Blk.new w1 _ _
  have ht3 := ht2.below ((Below.refl _ w1).alloc (Nat.le_refl _) (.cells #[.slice A2 2 2] 33))
  have c0 := hbl2.cell 0
  have c1 := hbx2.cell 0
  simp only [zzg, zzi] at c0 c1
  have HX := zzh hx
  have HBL2 := zzh hbl2
  have HT3 := zzh ht3
  have hs1 := hbl2.lt
  have hs2 := hbx2.lt
  clear hb2 hbl1 hx hbl2 hbx2 ht2 ht3
  by_cases h2 : T.length < 2
  · have d1 : decide ((T.length : Int) < 2) = true := by simp; omega
    have HN : Hid (¬ TabOk T) := zzh fun ht => by have := ht.len; omega
    clear h2
    go_wp2
    go_quiet (fail)
    go_wp2
    go_ret
    exact ErrIs.no HN.out (below_drewN HX.out _)
  have d1 : decide ((T.length : Int) < 2) = false := by simp; omega
  obtain ⟨b, off, hA, hbb, hcell⟩ := H.out.at_.resolve_left (by omega)
  obtain ⟨b2, off2, hA2, hbb2, hcell2⟩ := HT3.out.at_.resolve_left (by decide)
  subst hA hA2
  have hn0 := (hcell 0 (by omega)).below HX.out
  have hn1 := (hcell 1 (by omega)).below HX.out
  have hm0 := hcell2 0 (by decide)
  have hm1 := hcell2 1 (by decide)
  rw [show twoNd[0]'(by decide) = trueNd from rfl] at hm0
  rw [show twoNd[1]'(by decide) = zeroNd from rfl] at hm1
  obtain ⟨r0, hr0, he0⟩ := node_eq hn0.wf hm0.wf
  obtain ⟨r1, hr1, he1⟩ := node_eq hn1.wf hm1.wf
  have hg0 : T[0]? = some (T[0]'(by omega)) := List.getElem?_eq_getElem (by omega)
  have hg1 : T[1]? = some (T[1]'(by omega)) := List.getElem?_eq_getElem (by omega)
  have HR0 := zzh (show r0 = true ↔ T[0]? = some trueNd by rw [hr0, hg0]; simp)
  have HR1 := zzh (show r1 = true ↔ T[1]? = some zeroNd by rw [hr1, hg1]; simp)
  clear hr0 hr1 hg0 hg1
  simp only [Nat.zero_mul, Nat.add_zero, Nat.one_mul] at hn0 hn1 hm0 hm1
  obtain ⟨x0, x1, x2, x3, x4, x5, x6, x7⟩ := hn0.all
  obtain ⟨y0, y1, y2, y3, y4, y5, y6, y7⟩ := hn1.all
  obtain ⟨u0, u1, u2, u3, u4, u5, u6, u7⟩ := hm0.all
  obtain ⟨v0, v1, v2, v3, v4, v5, v6, v7⟩ := hm1.all
  simp only [trueNd] at u0 u1 u2 u3 u4 u5 u6 u7
  simp only [zeroNd] at v0 v1 v2 v3 v4 v5 v6 v7
  simp only [nodeVal, nodeCells, trueNd] at he0
  simp only [nodeVal, nodeCells, zeroNd] at he1
  have g0 := node_neq he0
  have g1 := node_neq he1
  have gg := node_guard
  have HC := zzh hcell
  have l2 : (2 : Int) ≤ T.length := by omega
  clear he0 he1 hn0 hn1 hm0 hm1 hcell hcell2
  generalize T[0] = n0 at *
  generalize T[1] = n1 at *
  clear h2
  cases r0 with
  | false =>
    go_wp2
    go_quiet (fail)
    go_wp2
    go_ret
    exact ErrIs.no (fun ht => by have := HR0.out.2 ht.t0; cases this) (below_drewN HX.out _)
  | true =>
    cases r1 with
    | false =>
      go_wp2
      go_quiet (fail)
      go_wp2
      go_ret
      exact ErrIs.no (fun ht => by have := HR1.out.2 ht.t1; cases this) (below_drewN HX.out _)
    | true =>
      have HTwo := zzh (And.intro (HR0.out.1 rfl) (HR1.out.1 rfl))
      go_wp2
      go_quiet (fail)
      clear g0 g1 x0 x1 x2 x3 x4 x5 x6 x7 y0 y1 y2 y3 y4 y5 y6 y7 u0 u1 u2 u3 u4 u5 u6 u7 v0 v1 v2 v3 v4 v5 v6 v7 c0 c1
      go_wp2
      go_loopg [4] T.length (fun g v wr => ∃ i : Nat, i + g = T.length ∧ v = .int .i64 i ∧ Below w.heap.size w wr ∧ Blk wr w.heap.size 33 #[.slice (some ⟨b, off, none⟩) T.length c] ∧ (∀ (k : Nat) (n : Nd), k < i → T[k]? = some n → Stands n k) ∧ ∀ j k : Nat, k < j → j < i → T[k]? ≠ T[j]?)
      case atStart => exact ⟨0, by omega, rfl, below_drewN HX.out _, HBL2.out, fun k n hk => absurd hk (Nat.not_lt_zero _), fun j k _ hj => absurd hj (Nat.not_lt_zero _)⟩
      case round =>
        obtain ⟨i, hig, rfl, hbw, hblr, hinv, honce⟩ := hrel
        have HBW := zzh hbw
        have HBR := zzh hblr
        have HI := zzh hinv
        have HO := zzh honce
        have c4 := hblr.cell 0
        have hls := hblr.lt
        simp only [zzg, zzi] at c4
        clear hbw hblr hinv honce
        cases gk with
        | zero =>
          obtain rfl : i = T.length := by omega
          have d2 : decide ((T.length : Int) < T.length) = false := by simp
          go_wp2
          go_ret
          refine ErrIs.yes ⟨HTwo.out.1, HTwo.out.2, fun k n hn => HI.out k n (List.getElem?_eq_some_iff.1 hn).1 hn, nodup_of fun j k hkj hj hk e => ?_⟩ HBW.out
          refine HO.out j k hkj hj ?_
          rw [List.getElem?_eq_getElem hj, List.getElem?_eq_getElem hk, e]
        | succ gk =>
          have hlt : i < T.length := by omega
          have d2 : decide ((i : Int) < T.length) = true := by simp; omega
          have t1 : (0 : Int) ≤ (i : Int) := by omega
          have t2 : (i : Int) < (T.length : Int) := by omega
          have hn := (HC.out i hlt).below HBW.out
          have HNat := zzh (HC.out i hlt)
          have HWf := zzh hn.wf
          obtain ⟨x0, x1, x2, x3, x4, x5, x6, x7⟩ := hn.all
          have HTi := zzh (List.getElem?_eq_getElem hlt)
          clear hn
          generalize T[i] = n at *
          go_wp2_with fail
          refine (rstands_ok n HWf.out i wr).mono ?_
          rintro e w5 ⟨r, rfl, hr, hb5⟩
          have HR5 := zzh hr
          have HB5 := zzh (HBW.out.trans (hb5.mono HBW.out.size))
          have HBR5 := zzh (HBR.out.below hb5 HBR.out.lt)
          clear hr hb5 x0 x1 x2 x3 x4 x5 x6 x7 c4
          cases r with
          | false =>
            go_wp2
            go_ret
            exact ErrIs.no (fun ht => by have := HR5.out.2 (ht.st i _ HTi.out); cases this) HB5.out
          | true =>
            go_wp2
            go_loopg [5] i (fun g v wx => ∃ k : Nat, k + g = i ∧ v = .int .i64 k ∧ Below w.heap.size w wx ∧ Blk wx w.heap.size 33 #[.slice (some ⟨b, off, none⟩) T.length c] ∧ ∀ j : Nat, j < k → T[j]? ≠ T[i]?)
            case atStart => exact ⟨0, by omega, rfl, HB5.out, HBR5.out, fun j hj => absurd hj (Nat.not_lt_zero _)⟩
            case round =>
              obtain ⟨k, hkg, rfl, hbx, hblx, hne⟩ := hrel
              have HBX := zzh hbx
              have HBLX := zzh hblx
              have HNE := zzh hne
              have c5 := hblx.cell 0
              have hls5 := hblx.lt
              simp only [zzg, zzi] at c5
              clear hbx hblx hne
              cases gk with
              | zero =>
                obtain rfl : k = i := by omega
                have d3 : decide (k < k) = false := by simp
                have d4 : decide ((k : Int) < (k : Int)) = false := by simp
                go_wp2
                go_roundg gk
                case measure => omega
                case rel =>
                  refine ⟨k + 1, by omega, by go_num, HBX.out, HBLX.out, fun j m hj hm => ?_, fun j q hq hj => ?_⟩
                  · rcases Nat.lt_succ_iff_lt_or_eq.1 hj with hj | rfl
                    · exact HI.out j m hj hm
                    · rw [HTi.out] at hm
                      injection hm with hm
                      subst hm
                      exact (by have := HR5.out; simpa using this)
                  · rcases Nat.lt_succ_iff_lt_or_eq.1 hj with hj | rfl
                    · exact HO.out j q hq hj
                    · exact HNE.out q hq
              | succ g2 =>
                have hki : k < i := by omega
                have hkT : k < T.length := by omega
                have d3 : decide (k < i) = true := by simp; omega
                have d4 : decide ((k : Int) < (i : Int)) = true := by simp; omega
                have t3 : (0 : Int) ≤ (k : Int) := by omega
                have t4 : (k : Int) < (T.length : Int) := by omega
                have hn := HNat.out.below HBX.out
                have hm := (HC.out k hkT).below HBX.out
                obtain ⟨r, hr, he⟩ := node_eq hm.wf hn.wf
                have HTk := zzh (List.getElem?_eq_getElem hkT)
                obtain ⟨x0, x1, x2, x3, x4, x5, x6, x7⟩ := hn.all
                obtain ⟨y0, y1, y2, y3, y4, y5, y6, y7⟩ := hm.all
                have HR := zzh hr
                clear hn hm hr
                generalize T[k] = m at *
                simp only [nodeVal, nodeCells] at he
                have g0 := node_eql he
                clear he
                cases r with
                | true =>
                  have HN : Hid (¬ TabOk T) := zzh fun ht => by
                    have h1 := once_of ht.once hki hlt
                    have e1 := HTk.out
                    have e2 := HTi.out
                    rw [List.getElem?_eq_getElem hkT] at e1
                    rw [List.getElem?_eq_getElem hlt] at e2
                    injection e1 with e1
                    injection e2 with e2
                    exact h1 (e1.trans ((HR.out.1 rfl).trans e2.symm))
                  go_wp2
                  go_quiet (fail)
                  go_wp2
                  go_ret
                  exact ErrIs.no HN.out (below_drewN HBX.out _)
                | false =>
                  go_wp2
                  go_quiet (fail)
                  go_wp2
                  go_roundg g2
                  case measure => omega
                  case rel =>
                    refine ⟨k + 1, by omega, by go_num, below_drewN HBX.out _, HBLX.out, fun j hj => ?_⟩
                    rcases Nat.lt_succ_iff_lt_or_eq.1 hj with hj | rfl
                    · exact HNE.out j hj
                    · rw [HTk.out, HTi.out]
                      intro e
                      injection e with e
                      have := HR.out.2 e
                      cases this
def PlaceF (T : List Nd) (i : Nat) (f : Value → Option Value) : Prop := ∀ n : Nd, f (nodeVal n) = if n ∈ T.take i then some (.int .i64 ((T.idxOf n : Nat) : Int)) else none
def PlMap (T : List Nd) (w : World) (e : Ending) (w' : World) : Prop := ∃ M f, e = .returned (.tuple #[.map (some M), .bool true]) ∧ MapSz Tryz.prog 51 w' M T.length f ∧ PlaceF T T.length f ∧ Below w.heap.size w w'
theorem idxOf_nodup {T : List Nd} (h : T.Nodup) {i : Nat} (hi : i < T.length) : T.idxOf T[i] = i := by
  have h1 : T.idxOf T[i] < T.length := List.idxOf_lt_length_iff.2 (List.getElem_mem hi)
  exact (List.getElem_inj (i := T.idxOf T[i]) (j := i) (h₀ := h1) (h₁ := hi) h).1 (by simp)
set_option maxHeartbeats 2000000 in
set_option maxRecDepth 100000 in
theorem placesN_ok {T : List Nd} {w : World} {A : Option Addr} (c : Nat) (h : Tab w A T) (hnd : T.Nodup) : Calls Tryz.prog 78 #[.agg #[.slice A T.length c]] w (PlMap T w) := by
  have hlen := h.len
  have H := zzh h
  have HND := zzh hnd
  clear h hnd
  have hmm : ∀ W : World, (Instr.makeMap 130 (some (.int .i64 (T.length : Int)))).run Tryz.prog W = .ok (.map (some W.heap.size)) (W.alloc (.map #[] 0)) := fun W => by simp [Instr.makeMap, run_underlying Tryz.underlying130, asInt, asIntOf, Result.andThen]
  have hM := MapSz.made Tryz.prog 51 (w.alloc (.cells #[.slice A T.length c] 33))
  rw [World.size_alloc] at hM
  have HM := zzh hM
  clear hM
  go_enter Tryz.func78, Tryz.ntmps78
  go_wp2
  go_loopg [14] T.length (fun g v wr => ∃ i : Nat, ∃ f, i + g = T.length ∧ v = .int .i64 i ∧ MapSz Tryz.prog 51 wr (w.heap.size + 1) i f ∧ PlaceF T i f ∧ Below w.heap.size w wr ∧ Blk wr w.heap.size 33 #[.slice A T.length c])
  case atStart =>
    refine ⟨0, _, by omega, rfl, HM.out, fun n => ?_, ((Below.refl _ w).alloc (Nat.le_refl _) _).alloc (by simp) _, (Blk.new w _ _).alloc _⟩
    simp
  case round =>
    obtain ⟨i, f, hig, rfl, hmap, hkeys, hb, hbl⟩ := hrel
    have HMp := zzh hmap
    have HK := zzh hkeys
    have HB := zzh hb
    have HBL := zzh hbl
    have cb := hbl.cell 0
    simp only [zzg, zzi] at cb
    clear hmap hkeys hb hbl
    cases gk with
    | zero =>
      obtain rfl : i = T.length := by omega
      have d1 : decide ((T.length : Int) < T.length) = false := by simp
      have hl1 : ∀ k ty, (Builtin.len_ #[130] ty #[.map (some (w.heap.size + 1))]).run Tryz.prog (wr.drewN k) = .ok (.int .i64 T.length) (wr.drewN k) := fun k ty => (show MapSz Tryz.prog 51 (wr.drewN k) (w.heap.size + 1) T.length f from HMp.out).len Tryz.underlying130 ty
      have de : ((T.length : Int) == (T.length : Int)) = true := by simp
      go_wp2
      go_quiet (fail)
      go_wp2
      go_ret2
      exact ⟨w.heap.size + 1, f, rfl, HMp.out, HK.out, below_drewN HB.out _⟩
    | succ gk =>
      have hlt : i < T.length := by omega
      have d1 : decide ((i : Int) < T.length) = true := by simp; omega
      obtain ⟨b, off, hA, hbb, hcell⟩ := (H.out.below HB.out).at_.resolve_left (by omega)
      subst hA
      have y := hcell i hlt
      obtain ⟨y0, y1, y2, y3, y4, y5, y6, y7⟩ := y.all
      have hT : T.take (i + 1) = T.take i ++ [T[i]] := by rw [List.take_add_one, List.getElem?_eq_getElem hlt]; rfl
      have hnot : T[i] ∉ T.take i := fun hm => by
        obtain ⟨j, hj, e⟩ := List.mem_iff_getElem.1 hm
        rw [List.length_take] at hj
        rw [List.getElem_take] at e
        have := (List.getElem_inj (i := j) (j := i) (h₀ := by omega) (h₁ := hlt) HND.out).1 e
        omega
      have hidx := idxOf_nodup HND.out hlt
      obtain ⟨kl, hkl⟩ := node_keyOf y.wf
      generalize T[i] = n at *
      obtain ⟨w2, hrun, hmap2, hgr⟩ := (HMp.out.alloc (.cells (nodeCells n).toArray 51)).store node_key Tryz.underlying130 (by unfold maxLen; omega) hkl (.int .i64 i) (g := putFn f (nodeVal n) (.int .i64 i)) (putFn_at _ _ _) (fun x hx => putFn_far _ _ _ _ hx)
      rw [show f (nodeVal n) = none by rw [HK.out n, if_neg hnot]] at hmap2
      simp only [nodeVal, nodeCells] at hrun
      have HT := zzh hT
      have HM2 := zzh hmap2
      have HG := zzh hgr
      have HI := zzh hidx
      have HNt := zzh hnot
      clear hcell y hkl hT hmap2 hgr hidx hnot
      have t1 : (0 : Int) ≤ (i : Int) := by omega
      have t2 : (i : Int) < (T.length : Int) := by omega
      go_wp2
      go_roundg gk
      case measure => omega
      case rel =>
        refine ⟨i + 1, _, by omega, by go_num, by simpa using HM2.out, fun m => ?_, ?_, ?_⟩
        · rw [HT.out]
          by_cases hm : m = n
          · subst hm
            rw [putFn_at, if_pos (by simp), HI.out]
          · rw [putFn_far _ _ _ _ (fun e => hm (nodeVal_inj e)), HK.out m]
            simp [hm]
        · exact grown_below HG.out (HB.out.alloc (by have := HB.out.size; omega) _) (by have := HB.out.size; simp; omega) (fun k e => by injection e with e; omega)
        · exact (HBL.out.alloc _).grown HG.out (fun e => by injection e with e; omega)
def OwnN (w : World) (B : Nat) (v : Value) (T : List Nd) : Prop := w.ownsRow B 51 8 v T.length (T.flatMap nodeCells)
theorem nd_flat (T : List Nd) : (T.flatMap nodeCells).length = T.length * 8 := by
  induction T with
  | nil => rfl
  | cons n r ih =>
    rw [List.flatMap_cons, List.length_append, ih, List.length_cons]
    show 8 + r.length * 8 = _
    omega
theorem OwnN.tab {w : World} {B : Nat} {v : Value} {T : List Nd} (h : OwnN w B v T) (hl : T.length ≤ 100000) (hw : ∀ n ∈ T, NdWf n) : ∃ A c, v = .slice A T.length c ∧ Tab w A T ∧ T.length ≤ c ∧ (A = none → c = 0) := by
  rcases h.2 with ⟨rfl, h0⟩ | ⟨g, cap, cur, rfl, hb, hg, hc, hM, _⟩
  · exact ⟨none, 0, by rw [h0], ⟨hl, .inl h0⟩, by omega, fun _ => rfl⟩
  · refine ⟨_, cap, rfl, ⟨hl, .inr ⟨g, 0, rfl, Blk.lt hg, fun i hi => ⟨Blk.lt hg, fun j hj => ?_, hw _ (List.getElem_mem hi)⟩⟩⟩, hc, fun e => by cases e⟩
    have := own_cell nodeCells (fun _ => rfl) h hi hj
    rw [Nat.zero_add]
    exact this
theorem Tab.news {w : World} {b off : Nat} {T : List Nd} (hc : ∀ i (h : i < T.length), NdAt w b (off + i * 8) T[i]) : ∀ j u, (T.flatMap nodeCells)[j]? = some u → w.cell? ((⟨b, off, none⟩ : Addr).add j) = some u := by
  intro j u hj
  have hjl : j < T.length * 8 := by
    rw [← nd_flat]
    exact (List.getElem?_eq_some_iff.1 hj).1
  have hi : j / 8 < T.length := by omega
  have hr : j % 8 < 8 := Nat.mod_lt _ (by decide)
  have h1 := flat_get nodeCells 8 (fun _ => rfl) T (j / 8) (j % 8) hi hr
  have e : j / 8 * 8 + j % 8 = j := by omega
  rw [e, hj] at h1
  have h2 := (hc (j / 8) hi).cells (j % 8) hr
  rw [← h1] at h2
  rw [show (⟨b, off, none⟩ : Addr).add j = ⟨b, off + j, none⟩ by unfold Addr.add; split <;> simp_all, show off + j = off + j / 8 * 8 + j % 8 by omega]
  exact h2
theorem one_nodes {T : List Nd} : ∀ u ∈ T.flatMap nodeCells, u.oneCell' = true := by
  intro u hu
  obtain ⟨n, _, hu⟩ := List.mem_flatMap.1 hu
  simp only [nodeCells, List.mem_cons, List.not_mem_nil, or_false] at hu
  rcases hu with rfl | rfl | rfl | rfl | rfl | rfl | rfl | rfl <;> rfl
theorem wp_append_nodes {o : Oper} {a : Act} {K : Act → World → Prop} {Q : Exit → Act → World → Prop} (w : World) (s x : Operand)
    (ho : o.op = .call { callee := .builtin .append, args := #[s, x], argTypes := #[31, 31] })
    (base : Nat) (v : Value) (T : List Nd) (hs : a.eval s = v) (hown : OwnN w base v T)
    (A : Option Addr) (cap : Nat) (S : List Nd) (hx : a.eval x = .slice A S.length cap) (hS : Tab w A S) (hnil : A = none → cap = 0) (hb : T.length + S.length ≤ 100000) (hbase : base ≤ w.heap.size)
    (h : ∀ v' w', OwnN w' base v' (T ++ S) → w.grownBy w' v.ownBlock → K (a.put o.dst v') w') : o.wp Tryz.prog a w K Q := by
  obtain ⟨i0, hi, hz0, hz1, hz2⟩ := info_parts node_info
  have key : ∀ v' w', w'.ownsRow base 51 8 v' (T.length + S.length) (T.flatMap nodeCells ++ S.flatMap nodeCells) → OwnN w' base v' (T ++ S) := fun v' w' h2 => by
    unfold OwnN
    rw [List.length_append, List.flatMap_append]
    exact h2
  rcases Nat.eq_zero_or_pos S.length with h0 | hp
  · obtain rfl := List.eq_nil_of_length_eq_zero h0
    cases A with
    | none =>
      obtain rfl := hnil rfl
      have hrun := run_append_owned_none (P := Tryz.prog) (w := w) base 31 o.type 51 i0 8 Tryz.underlying31 hi v T.length _ hown
      have h1 := h v w (by rw [List.append_nil]; exact hown) ⟨rfl, rfl, rfl, Nat.le_refl _, fun _ _ _ => rfl⟩
      unfold Oper.wp execOp
      simp only [ho, resolve, invoke, builtin, Sem.run_bind, Sem.run_pure, Result.andThen_ok, List.map_toArray, List.map_cons, List.map_nil, hs, hx]
      simp only [List.length_nil] at hrun ⊢
      rw [hrun]
      exact h1
    | some ad =>
      exact wp_append_own w s x 31 ho base 51 i0 (.agg #[.int .i8 0, .int .i8 0, .int .i64 0, .int .i64 0, .int .i64 0, .int .i64 0, .int .i64 0, .int .i64 0]) 8 56 Tryz.underlying31 hi hz0 hz1 hz2 rfl (by decide) v T.length _ hs hown ad 0 cap [] hx rfl (fun j u hj => by cases hj) (fun u hu => by cases hu) (by unfold maxLen; omega) (by omega) hbase
        fun v' w' h2 h3 _ => h v' w' (key v' w' (by simpa using h2)) h3
  · obtain ⟨b, off, rfl, hbb, hc⟩ := hS.at_.resolve_left (by omega)
    exact wp_append_own w s x 31 ho base 51 i0 (.agg #[.int .i8 0, .int .i8 0, .int .i64 0, .int .i64 0, .int .i64 0, .int .i64 0, .int .i64 0, .int .i64 0]) 8 56 Tryz.underlying31 hi hz0 hz1 hz2 rfl (by decide) v T.length _ hs hown ⟨b, off, none⟩ S.length cap _ hx (nd_flat S) (Tab.news hc) one_nodes (by unfold maxLen; omega) (by omega) hbase
      fun v' w' h2 h3 _ => h v' w' (key v' w' h2) h3
theorem list_append_nodes {ops : Array Oper} {rest : List Oper} {o : Oper} {a : Act} {Q : Exit → Act → World → Prop} (w : World) (hw : Region.wanted o (yielded ops a.tmps) = true) (s x : Operand)
    (ho : o.op = .call { callee := .builtin .append, args := #[s, x], argTypes := #[31, 31] })
    (base : Nat) (v : Value) (T : List Nd) (hs : a.eval s = v) (hown : OwnN w base v T)
    (A : Option Addr) (cap : Nat) (S : List Nd) (hx : a.eval x = .slice A S.length cap) (hS : Tab w A S) (hnil : A = none → cap = 0) (hb : T.length + S.length ≤ 100000) (hbase : base ≤ w.heap.size)
    (h : ∀ v' w', OwnN w' base v' (T ++ S) → w.grownBy w' v.ownBlock → wpList Tryz.prog ops Q rest (a.put o.dst v') w') : wpList Tryz.prog ops Q (o :: rest) a w :=
  wpList_step fun K hK => by
    rw [if_pos hw]
    exact wp_append_nodes w s x ho base v T hs hown A cap S hx hS hnil hb hbase fun v' w' h1 h2 => hK _ _ (h v' w' h1 h2)
theorem wp_grow_node {o : Oper} {a : Act} {K : Act → World → Prop} {Q : Exit → Act → World → Prop} (w : World) (s x : Operand)
    (ho : o.op = .call { callee := .builtin .append, args := #[s, x], argTypes := #[31, 31] })
    (A : Option Addr) (T : List Nd) (hs : a.eval s = .slice A T.length T.length) (hT : Tab w A T) (hp : 0 < T.length) (hT1 : T.length < 100000) (hwf : ∀ n ∈ T, NdWf n)
    (g : Nat) (n : Nd) (hx : a.eval x = .slice (some ⟨g, 0, none⟩) 1 1) (hg : Blk w g 51 (nodeCells n).toArray) (hn : NdWf n)
    (h : ∀ A' c' w', Tab w' A' (T ++ [n]) → (T ++ [n]).length ≤ c' → Below w.heap.size w w' → (∀ b, A' = some b → w.heap.size ≤ b.block) → K (a.put o.dst (.slice A' (T ++ [n]).length c')) w') : o.wp Tryz.prog a w K Q := by
  obtain ⟨i0, hi, hz0, hz1, hz2⟩ := info_parts node_info
  obtain ⟨b, off, rfl, hbb, hc⟩ := hT.at_.resolve_left (by omega)
  have hnews : ∀ j u, (nodeCells n)[j]? = some u → w.cell? ((⟨g, 0, none⟩ : Addr).add j) = some u := fun j u hj => by
    rw [show (⟨g, 0, none⟩ : Addr).add j = ⟨g, j, none⟩ by unfold Addr.add; split <;> simp_all, hg.cell, zzg]
    exact hj
  have hr := run_append_grow (P := Tryz.prog) w 31 o.type 51 i0 (.agg #[.int .i8 0, .int .i8 0, .int .i64 0, .int .i64 0, .int .i64 0, .int .i64 0, .int .i64 0, .int .i64 0]) Tryz.underlying31 hi hz0 ⟨b, off, none⟩ T.length T.length (T.flatMap nodeCells) (by rw [nd_flat, hz1]) (Tab.news hc) ⟨g, 0, none⟩ 1 1 (nodeCells n) (by rw [hz1]; rfl) hnews (by omega) (by omega) (by
    have := nextslicecap_le (need := T.length + 1) (old := T.length) (by omega)
    rw [hz2]
    omega)
  have hge := grownCap_ge w (T.length + 1) T.length 51
  have hcm := grownCap_le_maxLen w (T.length + 1) T.length 51 (by unfold maxLen; omega)
  generalize grownCap w (T.length + 1) T.length 51 = gc at *
  have hlen : (T ++ [n]).length = T.length + 1 := by simp
  have hblk : Blk (w.drew.alloc (.cells ((T.flatMap nodeCells).toArray ++ (nodeCells n).toArray ++ Builtin.zeroCells (Value.agg #[.int .i8 0, .int .i8 0, .int .i64 0, .int .i64 0, .int .i64 0, .int .i64 0, .int .i64 0, .int .i64 0]).cells (gc - (T.length + 1))) 51)) w.heap.size 51 ((T.flatMap nodeCells).toArray ++ (nodeCells n).toArray ++ Builtin.zeroCells (Value.agg #[.int .i8 0, .int .i8 0, .int .i64 0, .int .i64 0, .int .i64 0, .int .i64 0, .int .i64 0, .int .i64 0]).cells (gc - (T.length + 1))) := Blk.new w.drew _ _
  have hwf2 : ∀ m ∈ T ++ [n], NdWf m := fun m hm => (List.mem_append.1 hm).elim (hwf m) fun e => by rw [List.mem_singleton.1 e]; exact hn
  have h1 := h (some ⟨w.heap.size, 0, none⟩) gc _ ⟨by rw [hlen]; omega, .inr ⟨w.heap.size, 0, rfl, hblk.lt, fun i hi' => ⟨hblk.lt, fun j hj => ?_, hwf2 _ (List.getElem_mem hi')⟩⟩⟩ (by rw [hlen]; exact hge) ((below_drewN (Below.refl _ w) 1).alloc (Nat.le_refl _) _) (fun b' e => by injection e with e; rw [← e]; exact Nat.le_refl _)
  · unfold Oper.wp execOp
    simp only [ho, resolve, invoke, builtin, Sem.run_bind, Sem.run_pure, Result.andThen_ok, List.map_toArray, List.map_cons, List.map_nil, hs, hx]
    rw [hr]
    rw [hlen] at h1
    exact h1
  · have e : 0 + i * 8 + j = i * 8 + j := by omega
    rw [e, hblk.cell]
    have hfg := flat_get nodeCells 8 (fun _ => rfl) (T ++ [n]) i j hi' hj
    rw [← hfg, List.flatMap_append]
    have hlt : i * 8 + j < (T.flatMap nodeCells ++ [n].flatMap nodeCells).length := by
      rw [← List.flatMap_append, nd_flat]
      omega
    have e3 : [n].flatMap nodeCells = nodeCells n := by simp
    rw [e3] at hlt ⊢
    rw [← Array.getElem?_toList]
    simp only [Array.toList_append]
    rw [List.getElem?_append_left (by simpa using hlt)]
end Go.Proofs.YtlipnnibagidiaaGreat

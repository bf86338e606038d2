/- The reader of clauses: atoms.Make, atoms.Neg, share.read, reader.lit. -/
import Derived.Test.YtlipnnibagidiaaGreatSwH
import Derived.Test.YtlipnnibagidiaaGreatTaA
import Derived.Test.YtlipnnibagidiaaGreatBits
import Derived.Test.YtlipnnibagidiaaGreatCoP
namespace Go.Proofs.YtlipnnibagidiaaGreat
open Go.RowKit

theorem atom_ok (k : Int) (hk : 0 ≤ k ∧ k ≤ 1000000) (w : World) : Calls Tryz.prog 127 #[.int .i64 k, .bool false] w fun e w' => e = .returned (.int .i64 (2 * k)) ∧ w = w' := by
  have h2 : wrap64 (k * 2 ^ 1) = 2 * k := by unfold wrap64; omega
  go_enter Tryz.func127, Tryz.ntmps127
  go_wp2
  go_ret
  exact ⟨ret_int (by omega), rfl⟩
def negG (x : Int) : Int := bits .xor .i64 x 1
theorem negG_pos {x : Int} (h0 : 0 ≤ x) (h1 : x < 9223372036854775808) : negG x = if x % 2 = 0 then x + 1 else x - 1 := i64_xor_one x h0 h1
theorem neg_ok (x : Int) (w : World) : Calls Tryz.prog 152 #[.int .i64 x] w fun e w' => e = .returned (.int .i64 (negG x)) ∧ w = w' := by
  go_enter Tryz.func152, Tryz.ntmps152
  go_wp2
  go_ret
  exact ⟨rfl, rfl⟩

/-- A reader as it lies. -/
structure Reader (w : World) (r : Nat) (A : Option Addr) (T : List Nd) (c M : Nat) (bad : Bool) : Prop where
  blk : Blk w r 163 #[.slice A T.length c, .map (some M), .bool bad]
  map : ∃ n f, MapAt Tryz.prog 51 w M n f ∧ PlaceF T T.length f
  tab : Tab w A T
  cap : T.length ≤ c
  ne : M ≠ r
theorem Reader.keep {w w' : World} {r : Nat} {A : Option Addr} {T : List Nd} {c M : Nat} {bad : Bool} (h : Reader w r A T c M bad) (hb : Below w.heap.size w w') : Reader w' r A T c M bad := by
  obtain ⟨n, f, h1, h2⟩ := h.map
  exact ⟨h.blk.below hb h.blk.lt, ⟨n, f, h1.below hb h1.lt, h2⟩, h.tab.below hb, h.cap, h.ne⟩
theorem Blk.small3 {W : World} {g : Nat} {t : TypeId} {a b c : Value} (h : Blk W g t #[a, b, c]) (i : Nat) : W.cell? ⟨g, i + 7, none⟩ = none := by
  rw [h.cell]
  simp
theorem Reader.bad_ {w : World} {r : Nat} {A : Option Addr} {T : List Nd} {c M : Nat} {bad : Bool} (h : Reader w r A T c M bad) (b : Bool) : Reader (w.setCell ⟨r, 2, none⟩ (.bool b)) r A T c M b := by
  have hk := Kept.set1 w r 2 (.bool b)
  obtain ⟨n, f, h1, h2⟩ := h.map
  exact ⟨h.blk.set_ 2 _, ⟨n, f, h1.kept hk h.ne, h2⟩, h.tab.far (fun i => h.blk.small3 i) hk, h.cap, h.ne⟩

set_option maxRecDepth 100000 in
set_option maxHeartbeats 4000000 in
theorem read_ok {T : List Nd} {w : World} {A : Option Addr} (c : Nat) (hc : T.length ≤ c) (h : Tab w A T) (hT : TabOk T) : Calls Tryz.prog 106 #[.agg #[.slice A T.length c]] w fun e w' => ∃ r M, e = .returned (.pointer (some ⟨r, 0, none⟩)) ∧ Reader w' r A T c M false ∧ w.heap.size ≤ r ∧ w.heap.size ≤ M ∧ Below w.heap.size w w' := by
  have hlen := h.len
  have hmm := @run_makeMap Tryz.prog
  have hb0 : Below w.heap.size w (w.alloc (.cells #[.slice A T.length c] 33)) := (Below.refl _ w).alloc (Nat.le_refl _) _
  have hM := MapAt.made Tryz.prog 51 (w.alloc (.cells #[.slice A T.length c] 33))
  rw [World.size_alloc] at hM
  have HM0 := Lib.hid (hM.alloc (.cells #[.slice A T.length c, .map (some (w.heap.size + 1)), .bool false] 163))
  have HB0 := Lib.hid (show Below w.heap.size w (((w.alloc (.cells #[.slice A T.length c] 33)).alloc (.map #[] 0)).alloc (.cells #[.slice A T.length c, .map (some (w.heap.size + 1)), .bool false] 163)) from (hb0.alloc (by simp) _).alloc (by simp; omega) _)
  have HBT := Lib.hid (((Blk.new w 33 #[.slice A T.length c]).alloc (.map #[] 0)).alloc (.cells #[.slice A T.length c, .map (some (w.heap.size + 1)), .bool false] 163))
  have HBR := Lib.hid (Blk.new_at (show ((w.alloc (.cells #[.slice A T.length c] 33)).alloc (.map #[] 0)).heap.size = w.heap.size + 1 + 1 by simp) 163 #[.slice A T.length c, .map (some (w.heap.size + 1)), .bool false])
  have HT := Lib.hid hT
  have H := Lib.hid h
  have HC := Lib.hid hc
  have c0 := HBT.out.cell 0
  simp only [List.getElem?_toArray, List.getElem?_cons_zero] at c0
  clear h hT hM hb0 hc
  go_enter Tryz.func106, Tryz.ntmps106
  go_wp2
  go_loopg [13] T.length (fun g v wr => ∃ (i : Nat) (f : Value → Option Value), i + g = T.length ∧ v = .int .i64 i ∧ MapAt Tryz.prog 51 wr (w.heap.size + 1) i f ∧ PlaceF T i f ∧ Blk wr w.heap.size 33 #[.slice A T.length c] ∧ Blk wr (w.heap.size + 1 + 1) 163 #[.slice A T.length c, .map (some (w.heap.size + 1)), .bool false] ∧ Below w.heap.size w wr)
  case atStart => exact ⟨0, _, by omega, rfl, HM0.out, fun n => by simp, HBT.out, HBR.out, HB0.out⟩
  case round =>
    obtain ⟨i, f, hig, rfl, hmap, hpl, hbt, hbr, hb⟩ := hrel
    have HM := Lib.hid hmap
    have HP := Lib.hid hpl
    have HT1 := Lib.hid hbt
    have HR1 := Lib.hid hbr
    have HB := Lib.hid hb
    have c1 := hbt.cell 0
    have r1 := hbr.cell 1
    simp only [List.getElem?_toArray, List.getElem?_cons_zero, List.getElem?_cons_succ] at c1 r1
    clear hmap hpl hbt hbr hb c0
    cases gk with
    | zero =>
      obtain rfl : i = T.length := by omega
      have d1 : decide ((T.length : Int) < T.length) = false := by simp
      go_wp2
      go_ret
      exact ⟨w.heap.size + 1 + 1, w.heap.size + 1, rfl, ⟨HR1.out, ⟨_, f, HM.out, HP.out⟩, H.out.below HB.out, HC.out, by omega⟩, by omega, by omega, HB.out⟩
    | succ gk =>
      have hlt : i < T.length := by omega
      have d1 : decide ((i : Int) < T.length) = true := by simp; omega
      have t1 : (0 : Int) ≤ (i : Int) := by omega
      have t2 : (i : Int) < (T.length : Int) := by omega
      obtain ⟨b, off, hA, hbb, hcell⟩ := (H.out.below HB.out).at_.resolve_left (by omega)
      subst hA
      have y := hcell i hlt
      obtain ⟨y0, y1, y2, y3, y4, y5, y6, y7⟩ := y.all
      have hTk : T.take (i + 1) = T.take i ++ [T[i]] := by rw [List.take_add_one, List.getElem?_eq_getElem hlt]; rfl
      have hnot : T[i] ∉ T.take i := fun hm => by
        obtain ⟨j, hj, e⟩ := List.mem_iff_getElem.1 hm
        rw [List.length_take] at hj
        rw [List.getElem_take] at e
        have := (List.getElem_inj (i := j) (j := i) (h₀ := by omega) (h₁ := hlt) HT.out.once).1 e
        omega
      have HIX := Lib.hid (idxOf_nodup HT.out.once hlt)
      obtain ⟨kl, hkl⟩ := node_keyOf y.wf
      have HTk := Lib.hid hTk
      have HNt := Lib.hid hnot
      generalize T[i] = n at *
      have hbN : Below wr.heap.size wr (wr.alloc (.cells (nodeCells n).toArray 51)) := (Below.refl _ wr).alloc (Nat.le_refl _) _
      obtain ⟨w2, hrun, hmap2, hgr⟩ := ((HM.out.alloc (.cells (nodeCells n).toArray 51)).drew).store node_key Tryz.underlying130 (by unfold maxLen; omega) hkl (.int .i64 i) (g := putFn f (nodeVal n) (.int .i64 i)) (putFn_at _ _ _) (fun x hx => putFn_far _ _ _ _ hx)
      have HM2 := Lib.hid hmap2
      have hgr' := grown_undrew hgr
      have HT2 := Lib.hid ((HT1.out.alloc _).grown hgr' (by simp))
      have HR2 := Lib.hid ((HR1.out.alloc _).grown hgr' (by simp))
      have HB2 : Hid (Below w.heap.size w w2) := Lib.hid (Below.grown (HB.out.alloc HB.out.size _) hgr' (Nat.le_trans HB.out.size (by simp)) (fun k e => by injection e with e; omega))
      have hlr := HR1.out.lt
      have r2 := ((hbN.cell (p := ⟨w.heap.size + 1 + 1, 1, none⟩) HR1.out.lt).trans r1)
      simp only [nodeVal, nodeCells] at hrun r2 hbN
      clear y hkl hTk hnot hmap2 hgr hgr' hcell hbN
      go_wp2
      go_region
      go_wp2
      go_roundg gk
      case measure => omega
      case rel =>
        refine ⟨i + 1, _, by omega, by go_num, HM2.out, fun m => ?_, HT2.out, HR2.out, HB2.out⟩
        rw [HTk.out]
        by_cases hm : m = n
        · subst hm
          rw [putFn_at, if_pos (by simp), HIX.out]
        · rw [putFn_far _ _ _ _ (fun e => hm (nodeVal_inj e)), HP.out m]
          simp [hm]

/-- A node's literal; of one that is not there, nought. -/
def litR (T : List Nd) (n : Nd) : Int := if n ∈ T then litT T n else 0
set_option maxRecDepth 100000 in
set_option maxHeartbeats 4000000 in
theorem lit_ok {T : List Nd} {w : World} {A : Option Addr} {r c M : Nat} {bad : Bool} (h : Reader w r A T c M bad) (n : Nd) (hn : NdWf n) :
    Calls Tryz.prog 149 #[.pointer (some ⟨r, 0, none⟩), nodeVal n] w fun e w' => e = .returned (.int .i64 (litR T n)) ∧ Reader w' r A T c M (bad || !decide (n ∈ T)) ∧ Kept (fun b => b = r) w w' := by
  have hlen := h.tab.len
  obtain ⟨m, f, h1, h2⟩ := h.map
  obtain ⟨kl, hkl⟩ := node_keyOf hn
  have hb0 : Below w.heap.size w (w.alloc (.cells (nodeCells n).toArray 51)) := (Below.refl _ w).alloc (Nat.le_refl _) _
  have HR0 := Lib.hid (h.keep hb0)
  have HK0 := Lib.hid (Kept.of_below (S := fun b => b = r) hb0)
  have HBN := Lib.hid (Blk.new w 51 (nodeCells n).toArray)
  have hlook := fun k => ((h1.alloc (.cells (nodeCells n).toArray 51)).drewN k).look node_key Tryz.underlying130 (zero_intP _) hkl true
  have hfn := h2 n
  rw [List.take_length] at hfn
  have x0 := HR0.out.blk.cell 0
  have x1 := HR0.out.blk.cell 1
  have x2 := HR0.out.blk.cell 2
  have f2 := HR0.out.blk.frozen 2
  have n0 := HBN.out.cell 0
  have n1 := HBN.out.cell 1
  have n2 := HBN.out.cell 2
  have n3 := HBN.out.cell 3
  have n4 := HBN.out.cell 4
  have n5 := HBN.out.cell 5
  have n6 := HBN.out.cell 6
  have n7 := HBN.out.cell 7
  simp only [nodeVal, nodeCells, List.getElem?_toArray, List.getElem?_cons_zero, List.getElem?_cons_succ] at x0 x1 x2 f2 n0 n1 n2 n3 n4 n5 n6 n7 hlook HR0 HK0 hfn ⊢
  by_cases hm : n ∈ T
  · have HIX : Hid (((T.idxOf n : Nat) : Int) ≤ 1000000) := Lib.hid (by have := List.idxOf_lt_length_iff.2 hm; omega)
    have HL : Hid (litR T n = 2 * ((T.idxOf n : Nat) : Int)) := Lib.hid (by unfold litR; rw [if_pos hm]; rfl)
    have HD : Hid ((bad || !decide (n ∈ T)) = bad) := Lib.hid (by simp [hm])
    rw [if_pos hm] at hfn
    simp only [hfn, if_true] at hlook
    clear hm h h1 h2 hkl hb0 hfn
    cases bad with
    | true =>
      go_enter Tryz.func149, Tryz.ntmps149
      go_wp2
      go_quiet (fail)
      go_wp2_with fail
      refine (atom_ok (T.idxOf n : Nat) ⟨by omega, HIX.out⟩ _).mono ?_
      rintro e w' ⟨rfl, rfl⟩
      go_wp2
      go_ret
      rw [HL.out, HD.out]
      exact ⟨rfl, (HR0.out.keep (below_drewN (Below.refl _ _) nq)).bad_ true, (HK0.out.drewN nq).setCell (.inl rfl) _⟩
    | false =>
      go_enter Tryz.func149, Tryz.ntmps149
      go_wp2
      go_quiet (fail)
      go_wp2_with fail
      refine (atom_ok (T.idxOf n : Nat) ⟨by omega, HIX.out⟩ _).mono ?_
      rintro e w' ⟨rfl, rfl⟩
      go_wp2
      go_ret
      rw [HL.out, HD.out]
      exact ⟨rfl, (HR0.out.keep (below_drewN (Below.refl _ _) nq)).bad_ false, (HK0.out.drewN nq).setCell (.inl rfl) _⟩
  · have HL : Hid (litR T n = 2 * 0) := Lib.hid (by unfold litR; rw [if_neg hm]; rfl)
    have HD : Hid ((bad || !decide (n ∈ T)) = true) := Lib.hid (by simp [hm])
    rw [if_neg hm] at hfn
    simp only [hfn, if_true] at hlook
    clear hm h h1 h2 hkl hb0 hfn
    cases bad with
    | true =>
      go_enter Tryz.func149, Tryz.ntmps149
      go_wp2
      go_quiet (fail)
      go_wp2_with fail
      refine (atom_ok 0 ⟨by decide, by decide⟩ _).mono ?_
      rintro e w' ⟨rfl, rfl⟩
      go_wp2
      go_ret
      rw [HL.out, HD.out]
      exact ⟨rfl, (HR0.out.keep (below_drewN (Below.refl _ _) nq)).bad_ true, (HK0.out.drewN nq).setCell (.inl rfl) _⟩
    | false =>
      go_enter Tryz.func149, Tryz.ntmps149
      go_wp2
      go_quiet (fail)
      go_wp2_with fail
      refine (atom_ok 0 ⟨by decide, by decide⟩ _).mono ?_
      rintro e w' ⟨rfl, rfl⟩
      go_wp2
      go_ret
      rw [HL.out, HD.out]
      exact ⟨rfl, (HR0.out.keep (below_drewN (Below.refl _ _) nq)).bad_ true, (HK0.out.drewN nq).setCell (.inl rfl) _⟩
end Go.Proofs.YtlipnnibagidiaaGreat

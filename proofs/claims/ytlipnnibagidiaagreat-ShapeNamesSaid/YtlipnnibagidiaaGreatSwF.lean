/- The shared nodes of a table: share.nodes. -/
import Derived.Test.YtlipnnibagidiaaGreatSwM
import Derived.Test.YtlipnnibagidiaaGreatRowA
namespace Go.Proofs.YtlipnnibagidiaaGreat
open Go.RowKit
open Go.Maps (Keyed)

theorem int_key : Keyed Tryz.prog 3 := Go.Maps.int_keyed Tryz.underlying3
theorem int_key_of {x : Int} (h0 : -9223372036854775808 ≤ x) (h1 : x ≤ 9223372036854775807) : keyOf Tryz.prog 3 (.int .i64 x) = some (.int .i64 x) :=
  Go.Maps.keyOf_int_mk Tryz.underlying3 (by simp [Lit.wf, IntKind.min, IntKind.max, IntKind.bits, IntKind.signed]; omega)
theorem zero_bool (w : World) : (zeroValue 4).run Tryz.prog w = .ok (.bool false) w := by kernel_rfl
theorem own_base_le {w : World} {B n : Nat} {va : Value} {xs : List Value} {e : TypeId} (h : w.ownsRow B e 1 va n xs) : ∀ k, va.ownBlock = some k → B ≤ k := fun k hk => (h.lt k hk).1
/-- A row of ints of the call's own. -/
def OwnL (w : World) (B : Nat) (v : Value) (zs : List Int) : Prop := w.ownsRow B 3 1 v zs.length (zs.map (Value.int .i64))
theorem slice_arr0 (g : Nat) (W : World) : (Instr.sliceAt 49 (.pointer (some ⟨g, 2, none⟩)) none (some (.int .i8 0)) none).run Tryz.prog W = .ok (.slice (some ⟨g, 2, none⟩) 0 3) W := by kernel_rfl
theorem slice_arr1 (g : Nat) (W : World) : (Instr.sliceAt 49 (.pointer (some ⟨g, 2, none⟩)) none (some (.int .i8 1)) none).run Tryz.prog W = .ok (.slice (some ⟨g, 2, none⟩) 1 3) W := by kernel_rfl
theorem slice_arr2 (g : Nat) (W : World) : (Instr.sliceAt 49 (.pointer (some ⟨g, 2, none⟩)) none (some (.int .i8 2)) none).run Tryz.prog W = .ok (.slice (some ⟨g, 2, none⟩) 2 3) W := by kernel_rfl
theorem slice_arr3 (g : Nat) (W : World) : (Instr.sliceAt 49 (.pointer (some ⟨g, 2, none⟩)) none (some (.int .i8 3)) none).run Tryz.prog W = .ok (.slice (some ⟨g, 2, none⟩) 3 3) W := by kernel_rfl
theorem slice_arr (g ln : Nat) (h : ln ≤ 3) (W : World) : (Instr.sliceAt 49 (.pointer (some ⟨g, 2, none⟩)) none (some (.int .i8 (ln : Int))) none).run Tryz.prog W = .ok (.slice (some ⟨g, 2, none⟩) ln 3) W := by
  have hc : ln = 0 ∨ ln = 1 ∨ ln = 2 ∨ ln = 3 := by omega
  rcases hc with rfl | rfl | rfl | rfl
  · exact slice_arr0 g W
  · exact slice_arr1 g W
  · exact slice_arr2 g W
  · exact slice_arr3 g W
theorem NdAt.arg {w : World} {b o : Nat} {n : Nd} (h : NdAt w b o n) (k : Nat) (hk : k < 3) : w.cell? ⟨b, o + 2 + k, none⟩ = some (.int .i64 (n.arg k)) := by
  rw [Nat.add_assoc, h.cells (2 + k) (by omega)]
  match k, hk with
  | 0, _ => rfl
  | 1, _ => rfl
  | 2, _ => rfl

/-- A map of marks. -/
def MarkF (P : Int → Prop) (f : Value → Option Value) : Prop := ∀ i : Int, (f (.int .i64 i) = some (.bool true) ∧ P i) ∨ (f (.int .i64 i) = none ∧ ¬ P i)
theorem MarkF.congr {P Q : Int → Prop} {f : Value → Option Value} (h : MarkF P f) (hp : ∀ i, Q i ↔ P i) : MarkF Q f := fun i => (h i).imp (fun ⟨a, b⟩ => ⟨a, (hp i).2 b⟩) fun ⟨a, b⟩ => ⟨a, fun c => b ((hp i).1 c)⟩
theorem MarkF.put {P : Int → Prop} {f : Value → Option Value} (h : MarkF P f) (k : Int) : MarkF (fun i => P i ∨ i = k) (putFn f (.int .i64 k) (.bool true)) := fun i => by
  by_cases hi : i = k
  · subst hi
    exact .inl ⟨putFn_at _ _ _, .inr rfl⟩
  · rw [putFn_far _ _ _ _ (fun e => hi (by injection e))]
    exact (h i).imp (fun ⟨a, b⟩ => ⟨a, .inl b⟩) fun ⟨a, b⟩ => ⟨a, fun c => c.elim b hi⟩
def NodesIs (w : World) (l : List Int) (e : Ending) (w' : World) : Prop := ∃ v, e = .returned v ∧ OwnL w' w.heap.size v l ∧ Below w.heap.size w w'

set_option maxRecDepth 100000 in
set_option maxHeartbeats 8000000 in
theorem nodes_ok {T : List Nd} {w : World} {A : Option Addr} (c : Nat) (h : Tab w A T) (hT : TabOk T) : Calls Tryz.prog 54 #[.agg #[.slice A T.length c]] w (NodesIs w (nodesT T)) := by
  obtain ⟨i0, hi0, hz0, hz1, hz2⟩ := info_parts int_info
  have hlen := h.len
  have hmm := @run_makeMap Tryz.prog
  have hb0 : Below w.heap.size w (w.alloc (.cells #[.slice A T.length c] 33)) := (Below.refl _ w).alloc (Nat.le_refl _) _
  have HB0 := Lib.hid (show Below w.heap.size w ((w.alloc (.cells #[.slice A T.length c] 33)).alloc (.map #[] 0)) from hb0.alloc (by simp) _)
  have HBT := Lib.hid ((Blk.new w 33 #[.slice A T.length c]).alloc (.map #[] 0))
  have hM := MapAt.made Tryz.prog 3 (w.alloc (.cells #[.slice A T.length c] 33))
  rw [World.size_alloc] at hM
  have HM0 := Lib.hid hM
  have HT := Lib.hid hT
  have H := Lib.hid h
  clear h hT hM hb0
  go_enter Tryz.func54, Tryz.ntmps54
  go_wp2
  have c0 := HBT.out.cell 0
  simp only [List.getElem?_toArray, List.getElem?_cons_zero] at c0
  go_loopg [13] T.length (fun g v wr => ∃ (i : Nat) (f : Value → Option Value), i + g = T.length ∧ v = .int .i64 i ∧ MapAt Tryz.prog 3 wr (w.heap.size + 1) (4 * i) f ∧ MarkF (Mark T i) f ∧ Blk wr w.heap.size 33 #[.slice A T.length c] ∧ Below w.heap.size w wr)
  case atStart => exact ⟨0, _, by omega, rfl, HM0.out, fun i => .inr ⟨rfl, Mark.zero T i⟩, HBT.out, HB0.out⟩
  case round =>
    obtain ⟨wo, rfl⟩ : ∃ wo : World, wo = wr := ⟨_, rfl⟩
    obtain ⟨i, f, hig, rfl, hmap, hmk, hbt, hb⟩ := hrel
    have HM := Lib.hid hmap
    have HF := Lib.hid hmk
    have HT1 := Lib.hid hbt
    have HB := Lib.hid hb
    have c1 := hbt.cell 0
    simp only [List.getElem?_toArray, List.getElem?_cons_zero] at c1
    clear hmap hmk hbt hb
    cases gk with
    | zero =>
      obtain rfl : i = T.length := by omega
      have d1 : decide ((T.length : Int) < T.length) = false := by simp
      have HML : Hid (∀ j : Nat, j < T.length → (Mark T T.length j ↔ sharedB T j = true)) := Lib.hid (fun j hj => mark_all (fun n hn => by obtain ⟨q, _, _, hst⟩ := HT.out.stands hn; have := hst.len; omega) hj)
      go_wp2
      go_loopg [54, 2] T.length (fun g v vo wr => ∃ k : Nat, k + g = T.length ∧ v = .int .i64 k ∧ OwnL wr w.heap.size vo (nodesTo T k) ∧ MapAt Tryz.prog 3 wr (w.heap.size + 1) (4 * T.length) f ∧ (∀ p, vo.ownBlock = some p → w.heap.size + 1 < p) ∧ Below w.heap.size w wr)
      case atStart => exact ⟨0, by omega, rfl, World.ownsRow_nil _ _ _ _, HM.out, fun p e => (by cases e), HB.out⟩
      case round =>
        obtain ⟨k, hkg, rfl, hown, hmap, hob, hb⟩ := hrel
        have HO := Lib.hid hown
        have HM2 := Lib.hid hmap
        have HOB := Lib.hid hob
        have HB2 := Lib.hid hb
        clear hown hmap hob hb
        cases gk with
        | zero =>
          obtain rfl : k = T.length := by omega
          have d2 : decide ((T.length : Int) < T.length) = false := by simp
          go_wp2
          go_ret
          exact ⟨_, rfl, HO.out, HB2.out⟩
        | succ gk =>
          have hlt : k < T.length := by omega
          have d2 : decide ((k : Int) < T.length) = true := by simp; omega
          have u1 : (0 : Int) ≤ (k : Int) := by omega
          have u2 : (k : Int) < (T.length : Int) := by omega
          have hlk := HM2.out.look int_key Tryz.underlying140 (zero_bool wr) (int_key_of (x := (k : Int)) (by omega) (by omega)) false
          have HST := Lib.hid (nodesTo_step T k)
          have HLN := Lib.hid (nodesTo_len T k)
          rcases HF.out (k : Int) with ⟨hf, hm⟩ | ⟨hf, hm⟩
          · rw [hf] at hlk
            dsimp only at hlk
            have HS := Lib.hid ((HML.out k hlt).1 hm)
            clear hf hm
            rw [HS.out] at HST
            obtain ⟨fs, hfs⟩ : ∃ fs, nodesTo T k = fs := ⟨_, rfl⟩
            rw [hfs] at HO HST HLN
            clear hfs
            have X1 := Lib.hid (show (fs.length + 1) * 8 ≤ 140737488355328 by have := HLN.out; omega)
            go_wp2_with (at_builtin; refine list_push _ rfl (.tmp 60) (.tmp 62) 27 rfl w.heap.size 3 i0 (.int .i64 0) 1 8 Tryz.underlying27 hi0 hz0 hz1 hz2 rfl (by decide) _ fs.length (fs.map (Value.int .i64)) rfl (own_kept HO.out ((Kept.refl (fun _ => False) wr).alloc _) (fun _ _ h => h)) wr.heap.size #[.int .i64 k] rfl (Blk.new wr _ _) rfl (by intro u hu; rw [List.mem_singleton.1 hu]; rfl) X1.out (by decide) HB2.out.size ?_; intro ga ca w3 ho3 hg3 hx3 _; have HO3 := Lib.hid ho3; have HG3 := Lib.hid hg3; have HX3 := Lib.hid hx3; have HB3 := Lib.hid (Below.grown (HB2.out.alloc HB2.out.size _) hg3 (Nat.le_trans HB2.out.size (by simp)) (own_base_le HO.out)); clear ho3 hg3 hx3)
            go_roundg gk
            case measure => omega
            case rel =>
              refine ⟨k + 1, by omega, by go_num, ?_, (HM2.out.alloc _).grown HG3.out (fun e => by have := HOB.out _ e.symm; omega), fun p e => ?_, HB3.out⟩
              · rw [HST.out, if_pos trivial]
                unfold OwnL
                rw [List.length_append, List.map_append]
                exact HO3.out
              · have e' : ga = p := Option.some.inj e
                rcases HX3.out with h | h
                · exact HOB.out p (h.trans (congrArg some e'))
                · have := HM2.out.lt
                  rw [World.size_alloc] at h
                  omega
          · rw [hf] at hlk
            dsimp only at hlk
            have HS : Hid (sharedB T k = false) := Lib.hid (Bool.eq_false_iff.2 fun h => hm ((HML.out k hlt).2 h))
            clear hf hm
            rw [HS.out] at HST
            go_wp2
            go_roundg gk
            case measure => omega
            case rel => exact ⟨k + 1, by omega, by go_num, by rw [HST.out, if_neg (by simp), List.append_nil]; exact HO.out, HM2.out, HOB.out, HB2.out⟩
    | succ gk =>
      have hlt : i < T.length := by omega
      have d1 : decide ((i : Int) < T.length) = true := by simp; omega
      have t1 : (0 : Int) ≤ (i : Int) := by omega
      have t2 : (i : Int) < (T.length : Int) := by omega
      obtain ⟨b, off, hA, hbb, hcell⟩ := (H.out.below HB.out).at_.resolve_left (by omega)
      subst hA
      have hn := hcell i hlt
      obtain ⟨y0, y1, y2, y3, y4, y5, y6, y7⟩ := hn.all
      have HG := Lib.hid (List.getElem?_eq_getElem hlt)
      have HWf := Lib.hid hn.wf
      have HST := Lib.hid (HT.out.st i _ (List.getElem?_eq_getElem hlt))
      clear hcell hn
      generalize T[i] = n at *
      obtain ⟨ln, hln⟩ : ∃ ln : Nat, n.len = ln := ⟨n.len.toNat, by have := HST.out.len; omega⟩
      have hln3 : ln ≤ 3 := by have := HST.out.len; omega
      have HLN := Lib.hid hln
      rw [hln] at y1
      clear hln
      obtain ⟨ov, hov⟩ : ∃ ov, n.op = ov := ⟨_, rfl⟩
      have HOV := Lib.hid hov
      rw [hov] at y0
      obtain ⟨sv, hsv⟩ : ∃ sv, n.sort = sv := ⟨_, rfl⟩
      have HSV := Lib.hid hsv
      rw [hsv] at y5
      have hbN : Below wo.heap.size wo (wo.alloc (.cells #[.int .i8 ov, .int .i8 (ln : Int), .int .i64 n.a0, .int .i64 n.a1, .int .i64 n.a2, .int .i64 sv, .int .i64 n.fn, .int .i64 n.num] 51)) := (Below.refl _ wo).alloc (Nat.le_refl _) _
      have HN2 := Lib.hid (Blk.new wo 51 #[.int .i8 ov, .int .i8 (ln : Int), .int .i64 n.a0, .int .i64 n.a1, .int .i64 n.a2, .int .i64 sv, .int .i64 n.fn, .int .i64 n.num])
      have HM2 := Lib.hid (HM.out.below hbN HM.out.lt)
      have HT2 := Lib.hid (HT1.out.below hbN HT1.out.lt)
      have HB2 := Lib.hid (HB.out.trans (hbN.mono HB.out.size))
      clear hov hsv hbN
      have HLT := Lib.hid (show w.heap.size + 1 < wo.heap.size from HM.out.lt)
      by_cases o13 : ov = 13
      rotate_left
      · have b13 : (ov != 13) = true := by simp [o13]
        have b13' : (ov == 13) = false := by simp [o13]
        have HO13 := Lib.hid o13
        clear o13
        go_wp2
        go_roundg gk
        case measure => omega
        case rel => exact ⟨i + 1, f, by omega, by go_num, HM2.out.mono (by omega), HF.out.congr fun x => (Mark.step HG.out x).trans ⟨fun h => h.resolve_right fun h => HO13.out (HOV.out ▸ h.1), .inl⟩, HT2.out, HB2.out⟩
      subst o13
      have hsl := slice_arr wo.heap.size ln hln3
      obtain ⟨go, rfl⟩ : ∃ go : Nat, go = gk := ⟨_, rfl⟩
      have HMS : Hid (∀ x, Mark T (i + 1) x ↔ (Mark T i x ∨ SelfM n i x) ∨ ArgM T n ln x) := Lib.hid (fun x => (Mark.step HG.out x).trans (by rw [HLN.out, Int.toNat_natCast, HOV.out]; simp [or_assoc]))
      by_cases hs : 0 < ln ∧ sv = 1
      · obtain ⟨hs1, hs2⟩ := hs
        have HF3 : Hid (MarkF (fun x => Mark T i x ∨ SelfM n i x) (putFn f (.int .i64 i) (.bool true))) := Lib.hid ((HF.out.put i).congr fun x => or_congr Iff.rfl ⟨fun h => h.2.2, fun h => ⟨by rw [HLN.out]; omega, by rw [HSV.out]; exact hs2, h⟩⟩)
        obtain ⟨w5, hrun, hm5, hg5⟩ := HM2.out.store int_key Tryz.underlying140 (by unfold maxLen; omega) (int_key_of (x := (i : Int)) (by omega) (by omega)) (.bool true) (g := putFn f (.int .i64 i) (.bool true)) (putFn_at _ _ _) (fun y hy => putFn_far _ _ _ y hy)
        have HM3 := Lib.hid hm5
        have HT3 := Lib.hid (HT2.out.grown hg5 (by simp))
        have HN3 := Lib.hid (HN2.out.grown hg5 (by have := HLT.out; simp; omega))
        have HB3 : Hid (Below w.heap.size w w5) := Lib.hid (Below.grown HB2.out hg5 HB2.out.size (fun k e => by injection e with e; omega))
        subst hs2
        have e1 : decide (0 < (ln : Int)) = true := by simp; omega
        clear hm5 hg5
        generalize putFn f (.int .i64 i) (.bool true) = f3 at *
        have z1 := HN3.out.cell 1
        simp only [List.getElem?_toArray, List.getElem?_cons_zero, List.getElem?_cons_succ] at z1
        go_wp2
        go_loopg [36] ln (fun g v wx => ∃ (k : Nat) (f4 : Value → Option Value), k + g = ln ∧ v = .int .i64 k ∧ MapAt Tryz.prog 3 wx (w.heap.size + 1) (4 * i + 1 + k) f4 ∧ MarkF (fun x => (Mark T i x ∨ SelfM n i x) ∨ ArgM T n k x) f4 ∧ Blk wx w.heap.size 33 #[.slice (some ⟨b, off, none⟩) T.length c] ∧ Blk wx wo.heap.size 51 #[.int .i8 13, .int .i8 (ln : Int), .int .i64 n.a0, .int .i64 n.a1, .int .i64 n.a2, .int .i64 1, .int .i64 n.fn, .int .i64 n.num] ∧ Below w.heap.size w wx)
        case atStart => exact ⟨0, _, by omega, rfl, HM3.out, HF3.out.congr fun x => ⟨fun h => h.resolve_right (ArgM.zero T n x), .inl⟩, HT3.out, HN3.out, HB3.out⟩
        case round =>
          obtain ⟨k, f4, hkg, rfl, hmp, hmk, hbt, hnb, hb⟩ := hrel
          have HM4 := Lib.hid hmp
          have HF4 := Lib.hid hmk
          have HT4 := Lib.hid hbt
          have HN4 := Lib.hid hnb
          have HB4 := Lib.hid hb
          have c4 := hbt.cell 0
          simp only [List.getElem?_toArray, List.getElem?_cons_zero] at c4
          clear hmp hmk hbt hnb hb
          cases gk with
          | zero =>
            obtain rfl : k = ln := by omega
            have d4 : decide ((k : Int) < (k : Int)) = false := by simp
            go_wp2
            go_roundg go
            case measure => omega
            case rel => exact ⟨i + 1, f4, by omega, by go_num, HM4.out.mono (by omega), HF4.out.congr HMS.out, HT4.out, HB4.out⟩
          | succ g2 =>
            have hkl : k < ln := by omega
            have d4 : decide ((k : Int) < (ln : Int)) = true := by simp; omega
            have hk3 : k < 3 := by omega
            have hnd : NdAt wr wo.heap.size 0 n := ⟨HN4.out.lt, fun j hj => by rw [HN4.out.cell, List.getElem?_toArray, Nat.zero_add]; simp only [nodeCells, HOV.out, HLN.out, HSV.out], HWf.out⟩
            have z2 := hnd.arg k hk3
            simp only [Nat.zero_add] at z2
            have harg := (HST.out.args k hk3).1 (by rw [HLN.out]; omega)
            obtain ⟨av, hav⟩ : ∃ av : Nat, n.arg k = av := ⟨(n.arg k).toNat, by omega⟩
            have hav2 : av < T.length := by omega
            rw [hav] at z2
            have HAV := Lib.hid hav
            obtain ⟨b5, off5, hA5, hbb5, hcell5⟩ := (H.out.below HB4.out).at_.resolve_left (by omega)
            obtain ⟨rfl, rfl⟩ : b = b5 ∧ off = off5 := by simp at hA5; exact hA5
            obtain ⟨q0, q1, q2, q3, q4, q5, q6, q7⟩ := (hcell5 av hav2).all
            have HSN : Hid ((ndAt T av).sort = T[av].sort) := Lib.hid (by rw [ndAt_nat hav2])
            have u1 : (0 : Int) ≤ (av : Int) := by omega
            have u2 : (av : Int) < (T.length : Int) := by omega
            have tk1 : (0 : Int) ≤ (k : Int) := by omega
            have tk2 : (k : Int) < (ln : Int) := by omega
            have tk3 : (2 : Int) + (k : Int) < 5 := by omega
            clear hnd hav harg hA5 hbb5 hcell5
            generalize T[av] = m at *
            by_cases sm : m.sort = 1
            · rw [sm] at q5
              obtain ⟨w6, hrun6, hm6, hg6⟩ := HM4.out.store int_key Tryz.underlying140 (by unfold maxLen; omega) (int_key_of (x := (av : Int)) (by omega) (by omega)) (.bool true) (g := putFn f4 (.int .i64 av) (.bool true)) (putFn_at _ _ _) (fun y hy => putFn_far _ _ _ y hy)
              have HM6 := Lib.hid hm6
              have HT6 := Lib.hid (HT4.out.grown hg6 (by simp))
              have HN6 := Lib.hid (HN4.out.grown hg6 (by have := HLT.out; simp; omega))
              have HB6 : Hid (Below w.heap.size w w6) := Lib.hid (Below.grown HB4.out hg6 HB4.out.size (fun k e => by injection e with e; omega))
              have HSM := Lib.hid sm
              clear hm6 hg6 sm
              go_wp2
              go_roundg g2
              case measure => omega
              case rel => exact ⟨k + 1, _, by omega, by go_num, HM6.out.mono (by omega), (HF4.out.put av).congr fun x => by rw [ArgM.step, ← or_assoc, HAV.out]; exact or_congr Iff.rfl ⟨fun h => h.1.symm, fun h => ⟨h.symm, by rw [h, HSN.out]; exact HSM.out⟩⟩, HT6.out, HN6.out, HB6.out⟩
            · have e5 : (m.sort == 1) = false := by simp [sm]
              have HSM := Lib.hid sm
              clear sm
              go_wp2
              go_roundg g2
              case measure => omega
              case rel => exact ⟨k + 1, f4, by omega, by go_num, HM4.out.mono (by omega), HF4.out.congr fun x => by rw [ArgM.step, ← or_assoc]; exact ⟨fun h => h.resolve_right fun h => HSM.out (by rw [← HSN.out, ← HAV.out, h.1]; exact h.2), .inl⟩, HT4.out, HN4.out, HB4.out⟩
      · have HF3 : Hid (MarkF (fun x => Mark T i x ∨ SelfM n i x) f) := Lib.hid (HF.out.congr fun x => ⟨fun h => h.resolve_right fun h => hs ⟨by have := h.1; rw [HLN.out] at this; omega, by rw [← HSV.out]; exact h.2.1⟩, .inl⟩)
        have HM3 := Lib.hid (HM2.out.mono (show 4 * i ≤ 4 * i + 1 by omega))
        have HT3 := HT2
        have HN3 := HN2
        have HB3 := HB2
        have hcase : ln = 0 ∨ (0 < ln ∧ sv ≠ 1) := by omega
        rcases hcase with h0 | ⟨h0, h1⟩
        · have e1 : decide (0 < (ln : Int)) = false := by simp; omega
          have e1' : decide (0 < ln) = false := by simp; omega
          clear hs h0
          go_wp2
          go_loopg [36] ln (fun g v wx => ∃ (k : Nat) (f4 : Value → Option Value), k + g = ln ∧ v = .int .i64 k ∧ MapAt Tryz.prog 3 wx (w.heap.size + 1) (4 * i + 1 + k) f4 ∧ MarkF (fun x => (Mark T i x ∨ SelfM n i x) ∨ ArgM T n k x) f4 ∧ Blk wx w.heap.size 33 #[.slice (some ⟨b, off, none⟩) T.length c] ∧ Blk wx wo.heap.size 51 #[.int .i8 13, .int .i8 (ln : Int), .int .i64 n.a0, .int .i64 n.a1, .int .i64 n.a2, .int .i64 sv, .int .i64 n.fn, .int .i64 n.num] ∧ Below w.heap.size w wx)
          case atStart => exact ⟨0, _, by omega, rfl, HM3.out, HF3.out.congr fun x => ⟨fun h => h.resolve_right (ArgM.zero T n x), .inl⟩, HT3.out, HN3.out, HB3.out⟩
          case round =>
            obtain ⟨k, f4, hkg, rfl, hmp, hmk, hbt, hnb, hb⟩ := hrel
            have HM4 := Lib.hid hmp
            have HF4 := Lib.hid hmk
            have HT4 := Lib.hid hbt
            have HN4 := Lib.hid hnb
            have HB4 := Lib.hid hb
            have c4 := hbt.cell 0
            simp only [List.getElem?_toArray, List.getElem?_cons_zero] at c4
            clear hmp hmk hbt hnb hb
            cases gk with
            | zero =>
              obtain rfl : k = ln := by omega
              have d4 : decide ((k : Int) < (k : Int)) = false := by simp
              go_wp2
              go_roundg go
              case measure => omega
              case rel => exact ⟨i + 1, f4, by omega, by go_num, HM4.out.mono (by omega), HF4.out.congr HMS.out, HT4.out, HB4.out⟩
            | succ g2 =>
              have hkl : k < ln := by omega
              have d4 : decide ((k : Int) < (ln : Int)) = true := by simp; omega
              have hk3 : k < 3 := by omega
              have hnd : NdAt wr wo.heap.size 0 n := ⟨HN4.out.lt, fun j hj => by rw [HN4.out.cell, List.getElem?_toArray, Nat.zero_add]; simp only [nodeCells, HOV.out, HLN.out, HSV.out], HWf.out⟩
              have z2 := hnd.arg k hk3
              simp only [Nat.zero_add] at z2
              have harg := (HST.out.args k hk3).1 (by rw [HLN.out]; omega)
              obtain ⟨av, hav⟩ : ∃ av : Nat, n.arg k = av := ⟨(n.arg k).toNat, by omega⟩
              have hav2 : av < T.length := by omega
              rw [hav] at z2
              have HAV := Lib.hid hav
              obtain ⟨b5, off5, hA5, hbb5, hcell5⟩ := (H.out.below HB4.out).at_.resolve_left (by omega)
              obtain ⟨rfl, rfl⟩ : b = b5 ∧ off = off5 := by simp at hA5; exact hA5
              obtain ⟨q0, q1, q2, q3, q4, q5, q6, q7⟩ := (hcell5 av hav2).all
              have HSN : Hid ((ndAt T av).sort = T[av].sort) := Lib.hid (by rw [ndAt_nat hav2])
              have u1 : (0 : Int) ≤ (av : Int) := by omega
              have u2 : (av : Int) < (T.length : Int) := by omega
              have tk1 : (0 : Int) ≤ (k : Int) := by omega
              have tk2 : (k : Int) < (ln : Int) := by omega
              have tk3 : (2 : Int) + (k : Int) < 5 := by omega
              clear hnd hav harg hA5 hbb5 hcell5
              generalize T[av] = m at *
              by_cases sm : m.sort = 1
              · rw [sm] at q5
                obtain ⟨w6, hrun6, hm6, hg6⟩ := HM4.out.store int_key Tryz.underlying140 (by unfold maxLen; omega) (int_key_of (x := (av : Int)) (by omega) (by omega)) (.bool true) (g := putFn f4 (.int .i64 av) (.bool true)) (putFn_at _ _ _) (fun y hy => putFn_far _ _ _ y hy)
                have HM6 := Lib.hid hm6
                have HT6 := Lib.hid (HT4.out.grown hg6 (by simp))
                have HN6 := Lib.hid (HN4.out.grown hg6 (by have := HLT.out; simp; omega))
                have HB6 : Hid (Below w.heap.size w w6) := Lib.hid (Below.grown HB4.out hg6 HB4.out.size (fun k e => by injection e with e; omega))
                have HSM := Lib.hid sm
                clear hm6 hg6 sm
                go_wp2
                go_roundg g2
                case measure => omega
                case rel => exact ⟨k + 1, _, by omega, by go_num, HM6.out.mono (by omega), (HF4.out.put av).congr fun x => by rw [ArgM.step, ← or_assoc, HAV.out]; exact or_congr Iff.rfl ⟨fun h => h.1.symm, fun h => ⟨h.symm, by rw [h, HSN.out]; exact HSM.out⟩⟩, HT6.out, HN6.out, HB6.out⟩
              · have e5 : (m.sort == 1) = false := by simp [sm]
                have HSM := Lib.hid sm
                clear sm
                go_wp2
                go_roundg g2
                case measure => omega
                case rel => exact ⟨k + 1, f4, by omega, by go_num, HM4.out.mono (by omega), HF4.out.congr fun x => by rw [ArgM.step, ← or_assoc]; exact ⟨fun h => h.resolve_right fun h => HSM.out (by rw [← HSN.out, ← HAV.out, h.1]; exact h.2), .inl⟩, HT4.out, HN4.out, HB4.out⟩
        · have e1 : decide (0 < (ln : Int)) = true := by simp; omega
          have e2 : (sv == 1) = false := by simp [h1]
          clear hs
          go_wp2
          go_loopg [36] ln (fun g v wx => ∃ (k : Nat) (f4 : Value → Option Value), k + g = ln ∧ v = .int .i64 k ∧ MapAt Tryz.prog 3 wx (w.heap.size + 1) (4 * i + 1 + k) f4 ∧ MarkF (fun x => (Mark T i x ∨ SelfM n i x) ∨ ArgM T n k x) f4 ∧ Blk wx w.heap.size 33 #[.slice (some ⟨b, off, none⟩) T.length c] ∧ Blk wx wo.heap.size 51 #[.int .i8 13, .int .i8 (ln : Int), .int .i64 n.a0, .int .i64 n.a1, .int .i64 n.a2, .int .i64 sv, .int .i64 n.fn, .int .i64 n.num] ∧ Below w.heap.size w wx)
          case atStart => exact ⟨0, _, by omega, rfl, HM3.out, HF3.out.congr fun x => ⟨fun h => h.resolve_right (ArgM.zero T n x), .inl⟩, HT3.out, HN3.out, HB3.out⟩
          case round =>
            obtain ⟨k, f4, hkg, rfl, hmp, hmk, hbt, hnb, hb⟩ := hrel
            have HM4 := Lib.hid hmp
            have HF4 := Lib.hid hmk
            have HT4 := Lib.hid hbt
            have HN4 := Lib.hid hnb
            have HB4 := Lib.hid hb
            have c4 := hbt.cell 0
            simp only [List.getElem?_toArray, List.getElem?_cons_zero] at c4
            clear hmp hmk hbt hnb hb
            cases gk with
            | zero =>
              obtain rfl : k = ln := by omega
              have d4 : decide ((k : Int) < (k : Int)) = false := by simp
              go_wp2
              go_roundg go
              case measure => omega
              case rel => exact ⟨i + 1, f4, by omega, by go_num, HM4.out.mono (by omega), HF4.out.congr HMS.out, HT4.out, HB4.out⟩
            | succ g2 =>
              have hkl : k < ln := by omega
              have d4 : decide ((k : Int) < (ln : Int)) = true := by simp; omega
              have hk3 : k < 3 := by omega
              have hnd : NdAt wr wo.heap.size 0 n := ⟨HN4.out.lt, fun j hj => by rw [HN4.out.cell, List.getElem?_toArray, Nat.zero_add]; simp only [nodeCells, HOV.out, HLN.out, HSV.out], HWf.out⟩
              have z2 := hnd.arg k hk3
              simp only [Nat.zero_add] at z2
              have harg := (HST.out.args k hk3).1 (by rw [HLN.out]; omega)
              obtain ⟨av, hav⟩ : ∃ av : Nat, n.arg k = av := ⟨(n.arg k).toNat, by omega⟩
              have hav2 : av < T.length := by omega
              rw [hav] at z2
              have HAV := Lib.hid hav
              obtain ⟨b5, off5, hA5, hbb5, hcell5⟩ := (H.out.below HB4.out).at_.resolve_left (by omega)
              obtain ⟨rfl, rfl⟩ : b = b5 ∧ off = off5 := by simp at hA5; exact hA5
              obtain ⟨q0, q1, q2, q3, q4, q5, q6, q7⟩ := (hcell5 av hav2).all
              have HSN : Hid ((ndAt T av).sort = T[av].sort) := Lib.hid (by rw [ndAt_nat hav2])
              have u1 : (0 : Int) ≤ (av : Int) := by omega
              have u2 : (av : Int) < (T.length : Int) := by omega
              have tk1 : (0 : Int) ≤ (k : Int) := by omega
              have tk2 : (k : Int) < (ln : Int) := by omega
              have tk3 : (2 : Int) + (k : Int) < 5 := by omega
              clear hnd hav harg hA5 hbb5 hcell5
              generalize T[av] = m at *
              by_cases sm : m.sort = 1
              · rw [sm] at q5
                obtain ⟨w6, hrun6, hm6, hg6⟩ := HM4.out.store int_key Tryz.underlying140 (by unfold maxLen; omega) (int_key_of (x := (av : Int)) (by omega) (by omega)) (.bool true) (g := putFn f4 (.int .i64 av) (.bool true)) (putFn_at _ _ _) (fun y hy => putFn_far _ _ _ y hy)
                have HM6 := Lib.hid hm6
                have HT6 := Lib.hid (HT4.out.grown hg6 (by simp))
                have HN6 := Lib.hid (HN4.out.grown hg6 (by have := HLT.out; simp; omega))
                have HB6 : Hid (Below w.heap.size w w6) := Lib.hid (Below.grown HB4.out hg6 HB4.out.size (fun k e => by injection e with e; omega))
                have HSM := Lib.hid sm
                clear hm6 hg6 sm
                go_wp2
                go_roundg g2
                case measure => omega
                case rel => exact ⟨k + 1, _, by omega, by go_num, HM6.out.mono (by omega), (HF4.out.put av).congr fun x => by rw [ArgM.step, ← or_assoc, HAV.out]; exact or_congr Iff.rfl ⟨fun h => h.1.symm, fun h => ⟨h.symm, by rw [h, HSN.out]; exact HSM.out⟩⟩, HT6.out, HN6.out, HB6.out⟩
              · have e5 : (m.sort == 1) = false := by simp [sm]
                have HSM := Lib.hid sm
                clear sm
                go_wp2
                go_roundg g2
                case measure => omega
                case rel => exact ⟨k + 1, f4, by omega, by go_num, HM4.out.mono (by omega), HF4.out.congr fun x => by rw [ArgM.step, ← or_assoc]; exact ⟨fun h => h.resolve_right fun h => HSM.out (by rw [← HSN.out, ← HAV.out, h.1]; exact h.2), .inl⟩, HT4.out, HN4.out, HB4.out⟩
end Go.Proofs.YtlipnnibagidiaaGreat

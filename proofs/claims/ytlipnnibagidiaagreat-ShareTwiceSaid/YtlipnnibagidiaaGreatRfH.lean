/- The document's shared nodes: gantryref26.nodes. -/
import Derived.Test.YtlipnnibagidiaaGreatRfG
import Derived.Test.YtlipnnibagidiaaGreatSwF
import Derived.Laws.MakeOwn
namespace Go.Proofs.YtlipnnibagidiaaGreat
open Go.RowKit

def boolCells (n : Nat) (F : Nat → Bool) : Array Value := ((List.range n).map fun i => Value.bool (F i)).toArray
def updB (F : Nat → Bool) (k : Nat) (b : Bool) (i : Nat) : Bool := if i = k then b else F i
theorem boolCells_get {n : Nat} {F : Nat → Bool} {i : Nat} (h : i < n) : (boolCells n F)[i]? = some (.bool (F i)) := by
  unfold boolCells
  rw [List.getElem?_toArray, List.getElem?_map, List.getElem?_range h]
  rfl
theorem boolCells_set {n : Nat} {F : Nat → Bool} {k : Nat} (b : Bool) : (boolCells n F).setIfInBounds k (.bool b) = boolCells n (updB F k b) := by
  apply Array.ext'
  unfold boolCells
  rw [Array.toList_setIfInBounds]
  apply List.ext_getElem?
  intro i
  rw [List.getElem?_set]
  simp only [List.getElem?_map, List.length_map, List.length_range]
  by_cases hi : i < n
  · rw [List.getElem?_range hi]
    by_cases hk : k = i
    · subst hk
      simp [updB, hi]
    · rw [if_neg hk]
      simp [updB, show ¬ i = k from fun e => hk e.symm]
  · rw [List.getElem?_eq_none (by simpa using hi)]
    by_cases hk : k = i
    · subst hk
      simp [hi]
    · rw [if_neg hk]
      rfl
theorem boolCells_made (n : Nat) : madeCells #[Value.bool false] n = boolCells n (fun _ => false) := by
  rw [made_one]
  unfold boolCells
  congr 1
  apply List.ext_getElem?
  intro i
  rw [List.getElem?_map]
  by_cases hi : i < n
  · rw [List.getElem?_range hi, List.getElem?_replicate, if_pos hi]
    rfl
  · rw [List.getElem?_eq_none (by simpa using hi), List.getElem?_eq_none (by simpa using hi)]
    rfl
theorem bool_info : (Tryz.prog.info? 4).map (fun i => (i.zero, i.size, i.bytes)) = some (some (.bool false), 1, 1) := by kernel_rfl
/-- No node marks one that comes no earlier. -/
theorem mark_fresh {T : List Nd} (hT : TabOk T) {i k : Nat} (hk : k ≤ i) : ¬ Mark T k i := by
  rintro ⟨j, n, hj, hn, _, ⟨_, _, e⟩ | ⟨r, hr, e, _⟩⟩
  · omega
  · have hst := hT.st j n hn
    have hl := hst.len
    have h3 : r < 3 := by omega
    have := (hst.args r h3).1 (by omega)
    omega
def MarkB (P : Int → Prop) (n : Nat) (F : Nat → Bool) : Prop := ∀ i : Nat, i < n → (F i = true ↔ P i)
theorem MarkB.congr {P Q : Int → Prop} {n : Nat} {F : Nat → Bool} (h : MarkB P n F) (hp : ∀ i : Nat, i < n → (Q i ↔ P i)) : MarkB Q n F := fun i hi => (h i hi).trans (hp i hi).symm
theorem MarkB.put {P Q : Int → Prop} {n : Nat} {F : Nat → Bool} (h : MarkB P n F) (k : Nat) (b : Bool) (h1 : b = true ↔ Q k) (h2 : ∀ i : Nat, i < n → i ≠ k → (Q i ↔ P i)) : MarkB Q n (updB F k b) := fun i hi => by
  unfold updB
  by_cases e : i = k
  · subst e
    rw [if_pos rfl]
    exact h1
  · rw [if_neg e, h i hi]
    exact (h2 i hi e).symm

set_option maxRecDepth 100000 in
set_option maxHeartbeats 8000000 in
theorem rnodes_ok {T : List Nd} {w : World} {A : Option Addr} (c : Nat) (h : Tab w A T) (hT : TabOk T) : Calls Tryz.prog 96 #[.agg #[.slice A T.length c]] w (NodesIs w (nodesT T)) := by
  obtain ⟨i0, hi0, hz0, hz1, hz2⟩ := info_parts int_info
  obtain ⟨j0, ji0, jz0, jz1, jz2⟩ := info_parts bool_info
  have hlen := h.len
  have hb0 : Below w.heap.size w (w.alloc (.cells #[.slice A T.length c] 33)) := (Below.refl _ w).alloc (Nat.le_refl _) _
  have HB0 := Lib.hid (show Below w.heap.size w ((w.alloc (.cells #[.slice A T.length c] 33)).alloc (.cells (boolCells T.length fun _ => false) 4)) from hb0.alloc (by simp) _)
  have HBT := Lib.hid ((Blk.new w 33 #[.slice A T.length c]).alloc (.cells (boolCells T.length fun _ => false) 4))
  have HBI := Lib.hid (Blk.new_at (show (w.alloc (.cells #[.slice A T.length c] 33)).heap.size = w.heap.size + 1 by simp) 4 (boolCells T.length fun _ => false))
  have hms := run_make_rowN (P := Tryz.prog) 65 4 j0 (.bool false) Tryz.underlying65 ji0 jz0 .i64 .i64 T.length T.length (Nat.le_refl _) (by rw [jz2]; omega) (by omega) (w.alloc (.cells #[.slice A T.length c] 33))
  rw [jz1, Nat.mul_one, show (Value.bool false).cells = #[Value.bool false] from rfl, boolCells_made] at hms
  have HT := Lib.hid hT
  have H := Lib.hid h
  clear h hT hb0
  go_enter Tryz.func96, Tryz.ntmps96
  go_wp2
  clear hms
  go_loopg [4] T.length (fun g v wr => ∃ (i : Nat) (F : Nat → Bool), i + g = T.length ∧ v = .int .i64 i ∧ Blk wr (w.heap.size + 1) 4 (boolCells T.length F) ∧ MarkB (Mark T i) T.length F ∧ Blk wr w.heap.size 33 #[.slice A T.length c] ∧ Below w.heap.size w wr)
  case atStart => exact ⟨0, _, by omega, rfl, HBI.out, fun i _ => ⟨fun e => (by cases e), fun e => absurd e (Mark.zero T i)⟩, HBT.out, HB0.out⟩
  case round =>
    obtain ⟨wo, rfl⟩ : ∃ wo : World, wo = wr := ⟨_, rfl⟩
    obtain ⟨i, F, hig, rfl, hbi, hmk, hbt, hb⟩ := hrel
    have HI := Lib.hid hbi
    have HF := Lib.hid hmk
    have HT1 := Lib.hid hbt
    have HB := Lib.hid hb
    have c1 := hbt.cell 0
    simp only [List.getElem?_toArray, List.getElem?_cons_zero] at c1
    clear hbi hmk hbt hb
    cases gk with
    | zero =>
      obtain rfl : i = T.length := by omega
      have d1 : decide ((T.length : Int) < T.length) = false := by simp
      have HML : Hid (∀ j : Nat, j < T.length → (Mark T T.length j ↔ sharedB T j = true)) := Lib.hid (fun j hj => mark_all (fun n hn => by obtain ⟨q, _, _, hst⟩ := HT.out.stands hn; have := hst.len; omega) hj)
      go_wp2
      go_loopg [8, 7] T.length (fun g v vo wr => ∃ k : Nat, k + g = T.length ∧ v = .int .i64 k ∧ OwnL wr (w.heap.size + 2) vo (nodesTo T k) ∧ Blk wr (w.heap.size + 1) 4 (boolCells T.length F) ∧ Below w.heap.size w wr ∧ w.heap.size + 2 ≤ wr.heap.size)
      case atStart => exact ⟨0, by omega, rfl, World.ownsRow_nil _ _ _ _, HI.out, HB.out, by have := HI.out.lt; omega⟩
      case round =>
        obtain ⟨k, hkg, rfl, hown, hbi, hb, hsz⟩ := hrel
        have HO := Lib.hid hown
        have HI2 := Lib.hid hbi
        have HB2 := Lib.hid hb
        have HZ2 := Lib.hid hsz
        clear hown hbi hb hsz
        cases gk with
        | zero =>
          obtain rfl : k = T.length := by omega
          have d2 : decide ((T.length : Int) < T.length) = false := by simp
          go_wp2
          go_ret
          exact ⟨_, rfl, own_base HO.out (fun g hg => by have := (HO.out.lt g hg).1; omega), HB2.out⟩
        | succ gk =>
          have hlt : k < T.length := by omega
          have d2 : decide ((k : Int) < T.length) = true := by simp; omega
          have u1 : (0 : Int) ≤ (k : Int) := by omega
          have u2 : (k : Int) < (T.length : Int) := by omega
          have HST := Lib.hid (nodesTo_step T k)
          have HLN := Lib.hid (nodesTo_len T k)
          have q1 := HI2.out.cell k
          rw [boolCells_get hlt] at q1
          have HFB : Hid (F k = true ↔ sharedB T k = true) := Lib.hid ((HF.out k hlt).trans (HML.out k hlt))
          obtain ⟨fb, hfb⟩ : ∃ fb, F k = fb := ⟨_, rfl⟩
          rw [hfb] at q1 HFB
          clear hfb
          cases fb with
          | true =>
            have HS := Lib.hid (HFB.out.1 rfl)
            rw [HS.out] at HST
            obtain ⟨fs, hfs⟩ : ∃ fs, nodesTo T k = fs := ⟨_, rfl⟩
            rw [hfs] at HO HST HLN
            clear hfs
            have X1 := Lib.hid (show (fs.length + 1) * 8 ≤ 140737488355328 by have := HLN.out; omega)
            go_wp2_with (at_builtin; refine list_push _ rfl (.tmp 72) (.tmp 74) 27 rfl (w.heap.size + 2) 3 i0 (.int .i64 0) 1 8 Tryz.underlying27 hi0 hz0 hz1 hz2 rfl (by decide) _ fs.length (fs.map (Value.int .i64)) rfl (own_kept HO.out ((Kept.refl (fun _ => False) wr).alloc _) (fun _ _ h => h)) wr.heap.size #[.int .i64 k] rfl (Blk.new wr _ _) rfl (by intro u hu; rw [List.mem_singleton.1 hu]; rfl) X1.out (by decide) HZ2.out ?_; intro ga ca w3 ho3 hg3 hx3 _; have HO3 := Lib.hid ho3; have HG3 := Lib.hid hg3; have HB3 := Lib.hid (Below.grown (HB2.out.alloc HB2.out.size _) hg3 (Nat.le_trans HB2.out.size (by simp)) (fun k hk => by have := (HO.out.lt k hk).1; omega)); clear ho3 hg3 hx3)
            go_roundg gk
            case measure => omega
            case rel =>
              refine ⟨k + 1, by omega, by go_num, ?_, (HI2.out.alloc _).grown HG3.out (fun e => by have := (HO.out.lt _ e.symm).1; omega), HB3.out, Nat.le_trans HZ2.out (Nat.le_trans (by simp) HG3.out.size)⟩
              rw [HST.out, if_pos trivial]
              unfold OwnL
              rw [List.length_append, List.map_append]
              exact HO3.out
          | false =>
            have HS : Hid (sharedB T k = false) := Lib.hid (Bool.eq_false_iff.2 fun h => by have := HFB.out.2 h; cases this)
            rw [HS.out] at HST
            go_wp2
            go_roundg gk
            case measure => omega
            case rel => exact ⟨k + 1, by omega, by go_num, by rw [HST.out, if_neg (by simp), List.append_nil]; exact HO.out, HI2.out, HB2.out, HZ2.out⟩
    | succ gk =>
      have hlt : i < T.length := by omega
      have d1 : decide ((i : Int) < T.length) = true := by simp; omega
      have t1 : (0 : Int) ≤ (i : Int) := by omega
      have t2 : (i : Int) < (T.length : Int) := by omega
      obtain ⟨b, off, hA, hbb, hcell⟩ := (H.out.below HB.out).at_.resolve_left (by omega)
      subst hA
      have hn := hcell i hlt
      obtain ⟨y0, y1, y2, y3, y4, y5, y6, y7⟩ := hn.all
      have HG := Lib.hid (List.getElem?_eq_getElem hlt)
      have HWf := Lib.hid hn.wf
      have HST := Lib.hid (HT.out.st i _ (List.getElem?_eq_getElem hlt))
      have HFr := Lib.hid (mark_fresh HT.out (Nat.le_refl i))
      clear hcell hn
      generalize T[i] = n at *
      obtain ⟨ln, hln⟩ : ∃ ln : Nat, n.len = ln := ⟨n.len.toNat, by have := HST.out.len; omega⟩
      have hln3 : ln ≤ 3 := by have := HST.out.len; omega
      have HLN := Lib.hid hln
      rw [hln] at y1
      clear hln
      obtain ⟨ov, hov⟩ : ∃ ov, n.op = ov := ⟨_, rfl⟩
      have HOV := Lib.hid hov
      rw [hov] at y0
      obtain ⟨sv, hsv⟩ : ∃ sv, n.sort = sv := ⟨_, rfl⟩
      have HSV := Lib.hid hsv
      rw [hsv] at y5
      have hbN : Below wo.heap.size wo (wo.alloc (.cells #[.int .i8 ov, .int .i8 (ln : Int), .int .i64 n.a0, .int .i64 n.a1, .int .i64 n.a2, .int .i64 sv, .int .i64 n.fn, .int .i64 n.num] 51)) := (Below.refl _ wo).alloc (Nat.le_refl _) _
      have HN2 := Lib.hid (Blk.new wo 51 #[.int .i8 ov, .int .i8 (ln : Int), .int .i64 n.a0, .int .i64 n.a1, .int .i64 n.a2, .int .i64 sv, .int .i64 n.fn, .int .i64 n.num])
      have HI2 := Lib.hid (HI.out.below hbN HI.out.lt)
      have HT2 := Lib.hid (HT1.out.below hbN HT1.out.lt)
      have HB2 := Lib.hid (HB.out.trans (hbN.mono HB.out.size))
      have HLT := Lib.hid (show w.heap.size + 1 < wo.heap.size from HI.out.lt)
      clear hov hsv hbN
      by_cases o13 : ov = 13
      rotate_left
      · have b13 : (ov != 13) = true := by simp [o13]
        have b13' : (ov == 13) = false := by simp [o13]
        have HO13 := Lib.hid o13
        clear o13
        go_wp2
        go_roundg gk
        case measure => omega
        case rel => exact ⟨i + 1, F, by omega, by go_num, HI2.out, HF.out.congr fun x _ => (Mark.step HG.out x).trans ⟨fun h => h.resolve_right fun h => HO13.out (HOV.out ▸ h.1), .inl⟩, HT2.out, HB2.out⟩
      subst o13
      obtain ⟨go, rfl⟩ : ∃ go : Nat, go = gk := ⟨_, rfl⟩
      have HMS : Hid (∀ x, Mark T (i + 1) x ↔ (Mark T i x ∨ SelfM n i x) ∨ ArgM T n ln x) := Lib.hid (fun x => (Mark.step HG.out x).trans (by rw [HLN.out, Int.toNat_natCast, HOV.out]; simp [or_assoc]))
      have q1 := HI2.out.cell i
      rw [boolCells_get hlt] at q1
      have q2 := HI2.out.frozen i
      by_cases hs : 0 < ln ∧ sv = 1
      · obtain ⟨hs1, hs2⟩ := hs
        have HF3 : Hid (MarkB (fun x => Mark T i x ∨ SelfM n i x) T.length (updB F i true)) := Lib.hid (HF.out.put i true ⟨fun _ => .inr ⟨by rw [HLN.out]; omega, by rw [HSV.out]; exact hs2, rfl⟩, fun _ => rfl⟩ fun x hx hne => ⟨fun h => h.resolve_right fun h => hne (by have := h.2.2; omega), .inl⟩)
        have hk3 := Kept.set1 (wo.alloc (.cells #[.int .i8 13, .int .i8 (ln : Int), .int .i64 n.a0, .int .i64 n.a1, .int .i64 n.a2, .int .i64 sv, .int .i64 n.fn, .int .i64 n.num] 51)) (w.heap.size + 1) i (.bool true)
        have hi3 := HI2.out.set_ i (.bool true)
        rw [boolCells_set] at hi3
        have HI3 := Lib.hid hi3
        have HT3 := Lib.hid (HT2.out.kept hk3 (by omega))
        have HN3 := Lib.hid (HN2.out.kept hk3 (by have := HLT.out; omega))
        have HB3 : Hid (Below w.heap.size w _) := Lib.hid (HB2.out.setCell (p := ⟨w.heap.size + 1, i, none⟩) (by simp) (.bool true))
        subst hs2
        have e1 : decide (0 < (ln : Int)) = true := by simp; omega
        clear hk3 hi3
        generalize updB F i true = F3 at *
        go_wp2
        go_loopg [6] ln (fun g v wx => ∃ (k : Nat) (F4 : Nat → Bool), k + g = ln ∧ v = .int .i64 k ∧ Blk wx (w.heap.size + 1) 4 (boolCells T.length F4) ∧ MarkB (fun x => (Mark T i x ∨ SelfM n i x) ∨ ArgM T n k x) T.length F4 ∧ Blk wx w.heap.size 33 #[.slice (some ⟨b, off, none⟩) T.length c] ∧ Blk wx wo.heap.size 51 #[.int .i8 13, .int .i8 (ln : Int), .int .i64 n.a0, .int .i64 n.a1, .int .i64 n.a2, .int .i64 1, .int .i64 n.fn, .int .i64 n.num] ∧ Below w.heap.size w wx)
        case atStart => exact ⟨0, _, by omega, rfl, HI3.out, HF3.out.congr fun x _ => ⟨fun h => h.resolve_right (ArgM.zero T n x), .inl⟩, HT3.out, HN3.out, HB3.out⟩
        case round =>
          obtain ⟨k, F4, hkg, rfl, hbi, hmk, hbt, hnb, hb⟩ := hrel
          have HI4 := Lib.hid hbi
          have HF4 := Lib.hid hmk
          have HT4 := Lib.hid hbt
          have HN4 := Lib.hid hnb
          have HB4 := Lib.hid hb
          have c4 := hbt.cell 0
          have n4 := hnb.cell 1
          simp only [List.getElem?_toArray, List.getElem?_cons_zero, List.getElem?_cons_succ] at c4 n4
          have hw8 : IntKind.i64.wrap (ln : Int) = ln := by have : ln ≤ 3 := hln3; unfold IntKind.wrap; simp [IntKind.bits, IntKind.signed]; omega
          clear hbi hmk hbt hnb hb
          cases gk with
          | zero =>
            obtain rfl : k = ln := by omega
            have d4 : decide ((k : Int) < (k : Int)) = false := by simp
            go_wp2
            go_roundg go
            case measure => omega
            case rel => exact ⟨i + 1, F4, by omega, by go_num, HI4.out, HF4.out.congr fun x _ => HMS.out x, HT4.out, HB4.out⟩
          | succ g2 =>
            have hkl : k < ln := by omega
            have d4 : decide ((k : Int) < (ln : Int)) = true := by simp; omega
            have hk3 : k < 3 := by omega
            have hnd : NdAt wr wo.heap.size 0 n := ⟨HN4.out.lt, fun j hj => by rw [HN4.out.cell, List.getElem?_toArray, Nat.zero_add]; simp only [nodeCells, HOV.out, HLN.out, HSV.out], HWf.out⟩
            have z2 := hnd.arg k hk3
            simp only [Nat.zero_add] at z2
            have harg := (HST.out.args k hk3).1 (by rw [HLN.out]; omega)
            obtain ⟨av, hav⟩ : ∃ av : Nat, n.arg k = av := ⟨(n.arg k).toNat, by omega⟩
            have hav2 : av < T.length := by omega
            rw [hav] at z2
            have HAV := Lib.hid hav
            obtain ⟨b5, off5, hA5, hbb5, hcell5⟩ := (H.out.below HB4.out).at_.resolve_left (by omega)
            obtain ⟨rfl, rfl⟩ : b = b5 ∧ off = off5 := by simp at hA5; exact hA5
            obtain ⟨q0, q1, q2, q3, q4, q5, q6, q7⟩ := (hcell5 av hav2).all
            have HSN : Hid ((ndAt T av).sort = T[av].sort) := Lib.hid (by rw [ndAt_nat hav2])
            have s1 := HI4.out.cell av
            rw [boolCells_get hav2] at s1
            have s2 := HI4.out.frozen av
            have u1 : (0 : Int) ≤ (av : Int) := by omega
            have u2 : (av : Int) < (T.length : Int) := by omega
            have tk1 : (0 : Int) ≤ (k : Int) := by omega
            have tk2 : (k : Int) < (ln : Int) := by omega
            have tk3 : (k : Int) < 3 := by omega
            have tk4 : (2 : Int) + (k : Int) < 5 := by omega
            clear hnd hav harg hA5 hbb5 hcell5
            generalize T[av] = m at *
            by_cases sm : m.sort = 1
            · rw [sm] at q5
              have HSM := Lib.hid sm
              have hk6 := Kept.set1 wr (w.heap.size + 1) av (.bool true)
              have hi6 := HI4.out.set_ av (.bool true)
              rw [boolCells_set] at hi6
              have HI6 := Lib.hid (hi6.drewN)
              have HT6 := Lib.hid (HT4.out.kept hk6 (by omega))
              have HN6 := Lib.hid (HN4.out.kept hk6 (by have := HLT.out; omega))
              have HB6 : Hid (Below w.heap.size w _) := Lib.hid (HB4.out.setCell (p := ⟨w.heap.size + 1, av, none⟩) (by simp) (.bool true))
              clear sm hk6 hi6
              go_wp2
              go_quiet (fail)
              go_wp2
              go_roundg g2
              case measure => omega
              case rel => exact ⟨k + 1, _, by omega, by go_num, HI6.out nq, HF4.out.put av true ⟨fun _ => .inr ((ArgM.step T n k av).2 (.inr ⟨HAV.out, by rw [HSN.out]; exact HSM.out⟩)), fun _ => rfl⟩ (fun x hx hne => or_congr Iff.rfl ((ArgM.step T n k x).trans ⟨fun h => h.resolve_right fun h => hne (by have := h.1; rw [HAV.out] at this; omega), .inl⟩)), HT6.out.drewN nq, HN6.out.drewN nq, below_drewN HB6.out nq⟩
            · have e5 : (m.sort == 1) = false := by simp [sm]
              have HSM := Lib.hid sm
              go_wp2
              go_quiet (fail)
              go_wp2
              go_roundg g2
              case measure => omega
              case rel => exact ⟨k + 1, F4, by omega, by go_num, HI4.out.drewN nq, HF4.out.congr fun x _ => or_congr Iff.rfl ((ArgM.step T n k x).trans ⟨fun h => h.resolve_right fun h => HSM.out (by rw [← HSN.out, ← HAV.out, h.1]; exact h.2), .inl⟩), HT4.out.drewN nq, HN4.out.drewN nq, below_drewN HB4.out nq⟩
      · have hkey : ∀ x : Nat, x < T.length → ¬ SelfM n i x := fun x hx h => hs ⟨by have := h.1; rw [HLN.out] at this; omega, by rw [← HSV.out]; exact h.2.1⟩
        have HF3 : Hid (MarkB (fun x => Mark T i x ∨ SelfM n i x) T.length (updB F i false)) := Lib.hid (HF.out.put i false ⟨fun e => (by cases e), fun h => absurd h fun h => h.elim HFr.out (hkey i hlt)⟩ fun x hx hne => ⟨fun h => h.resolve_right (hkey x hx), .inl⟩)
        have hk3 := Kept.set1 (wo.alloc (.cells #[.int .i8 13, .int .i8 (ln : Int), .int .i64 n.a0, .int .i64 n.a1, .int .i64 n.a2, .int .i64 sv, .int .i64 n.fn, .int .i64 n.num] 51)) (w.heap.size + 1) i (.bool false)
        have hi3 := HI2.out.set_ i (.bool false)
        rw [boolCells_set] at hi3
        have HI3 := Lib.hid hi3
        have HT3 := Lib.hid (HT2.out.kept hk3 (by omega))
        have HN3 := Lib.hid (HN2.out.kept hk3 (by have := HLT.out; omega))
        have HB3 : Hid (Below w.heap.size w _) := Lib.hid (HB2.out.setCell (p := ⟨w.heap.size + 1, i, none⟩) (by simp) (.bool false))
        clear hk3 hi3 hkey
        generalize updB F i false = F3 at *
        have hcase : ln = 0 ∨ (0 < ln ∧ sv ≠ 1) := by omega
        rcases hcase with h0 | ⟨h0, h1⟩
        · have e1 : decide (0 < (ln : Int)) = false := by simp; omega
          have e1' : decide (0 < ln) = false := by simp; omega
          clear hs h0
          go_wp2
          go_loopg [6] ln (fun g v wx => ∃ (k : Nat) (F4 : Nat → Bool), k + g = ln ∧ v = .int .i64 k ∧ Blk wx (w.heap.size + 1) 4 (boolCells T.length F4) ∧ MarkB (fun x => (Mark T i x ∨ SelfM n i x) ∨ ArgM T n k x) T.length F4 ∧ Blk wx w.heap.size 33 #[.slice (some ⟨b, off, none⟩) T.length c] ∧ Blk wx wo.heap.size 51 #[.int .i8 13, .int .i8 (ln : Int), .int .i64 n.a0, .int .i64 n.a1, .int .i64 n.a2, .int .i64 sv, .int .i64 n.fn, .int .i64 n.num] ∧ Below w.heap.size w wx)
          case atStart => exact ⟨0, _, by omega, rfl, HI3.out, HF3.out.congr fun x _ => ⟨fun h => h.resolve_right (ArgM.zero T n x), .inl⟩, HT3.out, HN3.out, HB3.out⟩
          case round =>
            obtain ⟨k, F4, hkg, rfl, hbi, hmk, hbt, hnb, hb⟩ := hrel
            have HI4 := Lib.hid hbi
            have HF4 := Lib.hid hmk
            have HT4 := Lib.hid hbt
            have HN4 := Lib.hid hnb
            have HB4 := Lib.hid hb
            have c4 := hbt.cell 0
            have n4 := hnb.cell 1
            simp only [List.getElem?_toArray, List.getElem?_cons_zero, List.getElem?_cons_succ] at c4 n4
            have hw8 : IntKind.i64.wrap (ln : Int) = ln := by have : ln ≤ 3 := hln3; unfold IntKind.wrap; simp [IntKind.bits, IntKind.signed]; omega
            clear hbi hmk hbt hnb hb
            cases gk with
            | zero =>
              obtain rfl : k = ln := by omega
              have d4 : decide ((k : Int) < (k : Int)) = false := by simp
              go_wp2
              go_roundg go
              case measure => omega
              case rel => exact ⟨i + 1, F4, by omega, by go_num, HI4.out, HF4.out.congr fun x _ => HMS.out x, HT4.out, HB4.out⟩
            | succ g2 =>
              have hkl : k < ln := by omega
              have d4 : decide ((k : Int) < (ln : Int)) = true := by simp; omega
              have hk3 : k < 3 := by omega
              have hnd : NdAt wr wo.heap.size 0 n := ⟨HN4.out.lt, fun j hj => by rw [HN4.out.cell, List.getElem?_toArray, Nat.zero_add]; simp only [nodeCells, HOV.out, HLN.out, HSV.out], HWf.out⟩
              have z2 := hnd.arg k hk3
              simp only [Nat.zero_add] at z2
              have harg := (HST.out.args k hk3).1 (by rw [HLN.out]; omega)
              obtain ⟨av, hav⟩ : ∃ av : Nat, n.arg k = av := ⟨(n.arg k).toNat, by omega⟩
              have hav2 : av < T.length := by omega
              rw [hav] at z2
              have HAV := Lib.hid hav
              obtain ⟨b5, off5, hA5, hbb5, hcell5⟩ := (H.out.below HB4.out).at_.resolve_left (by omega)
              obtain ⟨rfl, rfl⟩ : b = b5 ∧ off = off5 := by simp at hA5; exact hA5
              obtain ⟨q0, q1, q2, q3, q4, q5, q6, q7⟩ := (hcell5 av hav2).all
              have HSN : Hid ((ndAt T av).sort = T[av].sort) := Lib.hid (by rw [ndAt_nat hav2])
              have s1 := HI4.out.cell av
              rw [boolCells_get hav2] at s1
              have s2 := HI4.out.frozen av
              have u1 : (0 : Int) ≤ (av : Int) := by omega
              have u2 : (av : Int) < (T.length : Int) := by omega
              have tk1 : (0 : Int) ≤ (k : Int) := by omega
              have tk2 : (k : Int) < (ln : Int) := by omega
              have tk3 : (k : Int) < 3 := by omega
              have tk4 : (2 : Int) + (k : Int) < 5 := by omega
              clear hnd hav harg hA5 hbb5 hcell5
              generalize T[av] = m at *
              by_cases sm : m.sort = 1
              · rw [sm] at q5
                have HSM := Lib.hid sm
                have hk6 := Kept.set1 wr (w.heap.size + 1) av (.bool true)
                have hi6 := HI4.out.set_ av (.bool true)
                rw [boolCells_set] at hi6
                have HI6 := Lib.hid (hi6.drewN)
                have HT6 := Lib.hid (HT4.out.kept hk6 (by omega))
                have HN6 := Lib.hid (HN4.out.kept hk6 (by have := HLT.out; omega))
                have HB6 : Hid (Below w.heap.size w _) := Lib.hid (HB4.out.setCell (p := ⟨w.heap.size + 1, av, none⟩) (by simp) (.bool true))
                clear sm hk6 hi6
                go_wp2
                go_quiet (fail)
                go_wp2
                go_roundg g2
                case measure => omega
                case rel => exact ⟨k + 1, _, by omega, by go_num, HI6.out nq, HF4.out.put av true ⟨fun _ => .inr ((ArgM.step T n k av).2 (.inr ⟨HAV.out, by rw [HSN.out]; exact HSM.out⟩)), fun _ => rfl⟩ (fun x hx hne => or_congr Iff.rfl ((ArgM.step T n k x).trans ⟨fun h => h.resolve_right fun h => hne (by have := h.1; rw [HAV.out] at this; omega), .inl⟩)), HT6.out.drewN nq, HN6.out.drewN nq, below_drewN HB6.out nq⟩
              · have e5 : (m.sort == 1) = false := by simp [sm]
                have HSM := Lib.hid sm
                go_wp2
                go_quiet (fail)
                go_wp2
                go_roundg g2
                case measure => omega
                case rel => exact ⟨k + 1, F4, by omega, by go_num, HI4.out.drewN nq, HF4.out.congr fun x _ => or_congr Iff.rfl ((ArgM.step T n k x).trans ⟨fun h => h.resolve_right fun h => HSM.out (by rw [← HSN.out, ← HAV.out, h.1]; exact h.2), .inl⟩), HT4.out.drewN nq, HN4.out.drewN nq, below_drewN HB4.out nq⟩
        · have e1 : decide (0 < (ln : Int)) = true := by simp; omega
          have e2 : (sv == 1) = false := by simp [h1]
          clear hs
          go_wp2
          go_loopg [6] ln (fun g v wx => ∃ (k : Nat) (F4 : Nat → Bool), k + g = ln ∧ v = .int .i64 k ∧ Blk wx (w.heap.size + 1) 4 (boolCells T.length F4) ∧ MarkB (fun x => (Mark T i x ∨ SelfM n i x) ∨ ArgM T n k x) T.length F4 ∧ Blk wx w.heap.size 33 #[.slice (some ⟨b, off, none⟩) T.length c] ∧ Blk wx wo.heap.size 51 #[.int .i8 13, .int .i8 (ln : Int), .int .i64 n.a0, .int .i64 n.a1, .int .i64 n.a2, .int .i64 sv, .int .i64 n.fn, .int .i64 n.num] ∧ Below w.heap.size w wx)
          case atStart => exact ⟨0, _, by omega, rfl, HI3.out, HF3.out.congr fun x _ => ⟨fun h => h.resolve_right (ArgM.zero T n x), .inl⟩, HT3.out, HN3.out, HB3.out⟩
          case round =>
            obtain ⟨k, F4, hkg, rfl, hbi, hmk, hbt, hnb, hb⟩ := hrel
            have HI4 := Lib.hid hbi
            have HF4 := Lib.hid hmk
            have HT4 := Lib.hid hbt
            have HN4 := Lib.hid hnb
            have HB4 := Lib.hid hb
            have c4 := hbt.cell 0
            have n4 := hnb.cell 1
            simp only [List.getElem?_toArray, List.getElem?_cons_zero, List.getElem?_cons_succ] at c4 n4
            have hw8 : IntKind.i64.wrap (ln : Int) = ln := by have : ln ≤ 3 := hln3; unfold IntKind.wrap; simp [IntKind.bits, IntKind.signed]; omega
            clear hbi hmk hbt hnb hb
            cases gk with
            | zero =>
              obtain rfl : k = ln := by omega
              have d4 : decide ((k : Int) < (k : Int)) = false := by simp
              go_wp2
              go_roundg go
              case measure => omega
              case rel => exact ⟨i + 1, F4, by omega, by go_num, HI4.out, HF4.out.congr fun x _ => HMS.out x, HT4.out, HB4.out⟩
            | succ g2 =>
              have hkl : k < ln := by omega
              have d4 : decide ((k : Int) < (ln : Int)) = true := by simp; omega
              have hk3 : k < 3 := by omega
              have hnd : NdAt wr wo.heap.size 0 n := ⟨HN4.out.lt, fun j hj => by rw [HN4.out.cell, List.getElem?_toArray, Nat.zero_add]; simp only [nodeCells, HOV.out, HLN.out, HSV.out], HWf.out⟩
              have z2 := hnd.arg k hk3
              simp only [Nat.zero_add] at z2
              have harg := (HST.out.args k hk3).1 (by rw [HLN.out]; omega)
              obtain ⟨av, hav⟩ : ∃ av : Nat, n.arg k = av := ⟨(n.arg k).toNat, by omega⟩
              have hav2 : av < T.length := by omega
              rw [hav] at z2
              have HAV := Lib.hid hav
              obtain ⟨b5, off5, hA5, hbb5, hcell5⟩ := (H.out.below HB4.out).at_.resolve_left (by omega)
              obtain ⟨rfl, rfl⟩ : b = b5 ∧ off = off5 := by simp at hA5; exact hA5
              obtain ⟨q0, q1, q2, q3, q4, q5, q6, q7⟩ := (hcell5 av hav2).all
              have HSN : Hid ((ndAt T av).sort = T[av].sort) := Lib.hid (by rw [ndAt_nat hav2])
              have s1 := HI4.out.cell av
              rw [boolCells_get hav2] at s1
              have s2 := HI4.out.frozen av
              have u1 : (0 : Int) ≤ (av : Int) := by omega
              have u2 : (av : Int) < (T.length : Int) := by omega
              have tk1 : (0 : Int) ≤ (k : Int) := by omega
              have tk2 : (k : Int) < (ln : Int) := by omega
              have tk3 : (k : Int) < 3 := by omega
              have tk4 : (2 : Int) + (k : Int) < 5 := by omega
              clear hnd hav harg hA5 hbb5 hcell5
              generalize T[av] = m at *
              by_cases sm : m.sort = 1
              · rw [sm] at q5
                have HSM := Lib.hid sm
                have hk6 := Kept.set1 wr (w.heap.size + 1) av (.bool true)
                have hi6 := HI4.out.set_ av (.bool true)
                rw [boolCells_set] at hi6
                have HI6 := Lib.hid (hi6.drewN)
                have HT6 := Lib.hid (HT4.out.kept hk6 (by omega))
                have HN6 := Lib.hid (HN4.out.kept hk6 (by have := HLT.out; omega))
                have HB6 : Hid (Below w.heap.size w _) := Lib.hid (HB4.out.setCell (p := ⟨w.heap.size + 1, av, none⟩) (by simp) (.bool true))
                clear sm hk6 hi6
                go_wp2
                go_quiet (fail)
                go_wp2
                go_roundg g2
                case measure => omega
                case rel => exact ⟨k + 1, _, by omega, by go_num, HI6.out nq, HF4.out.put av true ⟨fun _ => .inr ((ArgM.step T n k av).2 (.inr ⟨HAV.out, by rw [HSN.out]; exact HSM.out⟩)), fun _ => rfl⟩ (fun x hx hne => or_congr Iff.rfl ((ArgM.step T n k x).trans ⟨fun h => h.resolve_right fun h => hne (by have := h.1; rw [HAV.out] at this; omega), .inl⟩)), HT6.out.drewN nq, HN6.out.drewN nq, below_drewN HB6.out nq⟩
              · have e5 : (m.sort == 1) = false := by simp [sm]
                have HSM := Lib.hid sm
                go_wp2
                go_quiet (fail)
                go_wp2
                go_roundg g2
                case measure => omega
                case rel => exact ⟨k + 1, F4, by omega, by go_num, HI4.out.drewN nq, HF4.out.congr fun x _ => or_congr Iff.rfl ((ArgM.step T n k x).trans ⟨fun h => h.resolve_right fun h => HSM.out (by rw [← HSN.out, ← HAV.out, h.1]; exact h.2), .inl⟩), HT4.out.drewN nq, HN4.out.drewN nq, below_drewN HB4.out nq⟩
end Go.Proofs.YtlipnnibagidiaaGreat

/- put: numerals behind a list. -/
import Derived.Test.YtiklliiamljogaaGreatDoorPfT
namespace Go.Proofs.YtiklliiamljogaaGreatDoor
open Go.RowKit

def zeroC : C3 := ⟨0, ⟨#[]⟩, none, 0, 0⟩
theorem zero_lies (S : Nat → Prop) (w : World) : Lies S w zeroC.val (.mk 0 [] []) := Lies.leaf S w 0 []
theorem Row.kept {w w' : World} {A : Option Addr} {zs : List Int} {K : Nat → Prop} (h : Row .i64 w A zs) (hk : Kept K w w') (hK : ∀ a, A = some a → ¬ K a.block) : Row .i64 w' A zs := by
  refine ⟨h.len, h.at_.imp id ?_⟩
  rintro ⟨b, off, rfl, hlt, hc⟩
  have hb := hk.block b hlt (hK _ rfl)
  refine ⟨b, off, rfl, Nat.lt_of_lt_of_le hlt hk.size, fun i hi => ?_⟩
  rw [← hc i hi]
  unfold World.cell?
  rw [hb]
/-- The cells of the last expression of a row. -/
theorem last3 {w : World} {D g cap n : Nat} {cs : List C3} {xs : List Sx} {y0 : C3} (h : Acc w D (.slice (some ⟨g, 0, none⟩) (n + 1) cap) (cs ++ [y0]) xs) (hn : cs.length = n) :
    w.cell? ⟨g, n * 3, none⟩ = some (.int .i8 y0.k) ∧ w.cell? ⟨g, n * 3 + 1, none⟩ = some (.string y0.t) ∧ w.cell? ⟨g, n * 3 + 2, none⟩ = some (.slice y0.A y0.n y0.c) ∧ w.frozen? ⟨g, n * 3, none⟩ = false ∧ w.frozen? ⟨g, n * 3 + 1, none⟩ = false ∧ w.frozen? ⟨g, n * 3 + 2, none⟩ = false := by
  subst hn
  have ho := h.own
  have hl : (cs ++ [y0]).length = cs.length + 1 := by simp
  rw [hl] at ho
  have hi : cs.length < (cs ++ [y0]).length := by omega
  have he : (cs ++ [y0])[cs.length] = y0 := by simp
  have c0 := own_cell C3.cells C3.cells_len ho (j := 0) hi (by decide)
  have c1 := own_cell C3.cells C3.cells_len ho (j := 1) hi (by decide)
  have c2 := own_cell C3.cells C3.cells_len ho (j := 2) hi (by decide)
  rw [he] at c0 c1 c2
  exact ⟨c0, c1, c2, ho.frozenAt _, ho.frozenAt _, ho.frozenAt _⟩
/-- What put leaves behind. -/
structure PutX (w w' : World) (D bx : Nat) (k : Int) (t : ByteArray) (sv : Value) (cs : List C3) (xs : List Sx) : Prop where
  out : ∃ sv', Blk w' bx 28 #[.int .i8 k, .string t, sv'] ∧ Lvs w' D sv' cs xs ∧ ∀ g, sv'.ownBlock = some g → sv.ownBlock = some g ∨ w.heap.size ≤ g
  kept : Kept (fun i => i = bx ∨ sv.ownBlock = some i) w w'

theorem own_ga {ga n c g : Nat} (h : (Value.slice (some ⟨ga, 0, none⟩) n c).ownBlock = some g) : ga = g := by simpa [Value.ownBlock] using h
theorem Lvs.stored {w : World} {D g cap : Nat} {cs : List C3} {xs : List Sx} {y0 y : C3} {X0 X : Sx} (h : Lvs w D (.slice (some ⟨g, 0, none⟩) (cs.length + 1) cap) (cs ++ [y0]) (xs ++ [X0])) (hy : ∀ S w', Lies S w' y.val X) :
    Lvs (((w.setCell ⟨g, cs.length * 3, none⟩ (.int .i8 y.k)).setCell ⟨g, cs.length * 3 + 1, none⟩ (.string y.t)).setCell ⟨g, cs.length * 3 + 2, none⟩ (.slice y.A y.n y.c)) D (.slice (some ⟨g, 0, none⟩) (cs.length + 1) cap) (cs ++ [y]) (xs ++ [X]) := by
  have ha := h.acc.stored (hy _ _)
  have hlx : cs.length = xs.length := by have := h.len; simp at this; exact this
  refine Lvs.of_acc ha fun i hi S w' => ?_
  rcases Nat.lt_or_ge i cs.length with h1 | h1
  · rw [List.getElem_append_left h1, List.getElem_append_left (hlx ▸ h1)]
    have := h.leaf i (by simp; omega) S w'
    rw [List.getElem_append_left h1, List.getElem_append_left (hlx ▸ h1)] at this
    exact this
  · rw [List.length_append, List.length_singleton] at hi
    obtain rfl : i = cs.length := by omega
    rw [List.getElem_append_right (Nat.le_refl _), List.getElem_append_right (by rw [hlx]; exact Nat.le_refl _)]
    simpa using hy S w'
theorem ga_ne {w2 : World} {v : Value} {ga bx : Nat} (h : v.ownBlock = some ga ∨ w2.drew.heap.size < ga) (h1 : v.ownBlock ≠ some bx) (h2 : bx < w2.heap.size) : ga ≠ bx := by
  rintro rfl
  rcases h with h | h
  · exact h1 h
  · have : w2.drew.heap.size = w2.heap.size := rfl
    omega
theorem push_n {w w0 : World} {D ga ca n : Nat} {sv : Value} {cs : List C3} {xs : List Sx} {y : C3} {X : Sx} (h0 : Lvs w0 D sv cs xs) (hn : cs.length = n) (h : Acc w D (.slice (some ⟨ga, 0, none⟩) (n + 1) ca) (cs ++ [y]) (xs ++ [X])) (hy : ∀ S w', Lies S w' y.val X) : Lvs w D (.slice (some ⟨ga, 0, none⟩) (n + 1) ca) (cs ++ [y]) (xs ++ [X]) := by
  subst hn
  exact h0.push h hy
theorem put_end_a {w3 : World} {D bx ga ca n : Nat} {k : Int} {t : ByteArray} {sv : Value} {cs : List C3} {xs : List Sx} {k1 : Int} {t1 : ByteArray} {A1 : Option Addr} {n1 c1 : Nat} {X X0 : Sx} (hA : Lvs w3 D (.slice (some ⟨ga, 0, none⟩) (n + 1) ca) (cs ++ [zeroC]) (xs ++ [X0])) (hB : Blk w3 bx 28 #[.int .i8 k, .string t, sv]) (hn : cs.length = n) (hne : bx ≠ ga) (hy : ∀ S w, Lies S w (C3.val ⟨k1, t1, A1, n1, c1⟩) X) :
    Blk ((((w3.setCell ⟨bx, 2, none⟩ (.slice (some ⟨ga, 0, none⟩) (n + 1) ca)).setCell ⟨ga, n * 3, none⟩ (.int .i8 k1)).setCell ⟨ga, n * 3 + 1, none⟩ (.string t1)).setCell ⟨ga, n * 3 + 2, none⟩ (.slice A1 n1 c1)) bx 28 #[.int .i8 k, .string t, .slice (some ⟨ga, 0, none⟩) (n + 1) ca] ∧
    Lvs ((((w3.setCell ⟨bx, 2, none⟩ (.slice (some ⟨ga, 0, none⟩) (n + 1) ca)).setCell ⟨ga, n * 3, none⟩ (.int .i8 k1)).setCell ⟨ga, n * 3 + 1, none⟩ (.string t1)).setCell ⟨ga, n * 3 + 2, none⟩ (.slice A1 n1 c1)) D (.slice (some ⟨ga, 0, none⟩) (n + 1) ca) (cs ++ [⟨k1, t1, A1, n1, c1⟩]) (xs ++ [X]) ∧
    Kept (fun i => i = bx ∨ i = ga) w3 ((((w3.setCell ⟨bx, 2, none⟩ (.slice (some ⟨ga, 0, none⟩) (n + 1) ca)).setCell ⟨ga, n * 3, none⟩ (.int .i8 k1)).setCell ⟨ga, n * 3 + 1, none⟩ (.string t1)).setCell ⟨ga, n * 3 + 2, none⟩ (.slice A1 n1 c1)) := by
  subst hn
  have hA1 := hA.kept (Kept.set1 w3 bx 2 (.slice (some ⟨ga, 0, none⟩) (cs.length + 1) ca)) (fun g hg h2 => hne (h2 ▸ (own_ga hg).symm))
  refine ⟨(((hB.set_ 2 (.slice (some ⟨ga, 0, none⟩) (cs.length + 1) ca)).far (p := ⟨ga, cs.length * 3, none⟩) hne _).far (p := ⟨ga, cs.length * 3 + 1, none⟩) hne _).far (p := ⟨ga, cs.length * 3 + 2, none⟩) hne _, hA1.stored (y := ⟨k1, t1, A1, n1, c1⟩) hy, ?_⟩
  exact Kept.setCell (S := fun i => i = bx ∨ i = ga) (Kept.setCell (S := fun i => i = bx ∨ i = ga) (Kept.setCell (S := fun i => i = bx ∨ i = ga) (Kept.setCell (S := fun i => i = bx ∨ i = ga) (Kept.refl _ w3) (p := ⟨bx, 2, none⟩) (.inl (.inl rfl)) _) (p := ⟨ga, cs.length * 3, none⟩) (.inl (.inr rfl)) _) (p := ⟨ga, cs.length * 3 + 1, none⟩) (.inl (.inr rfl)) _) (p := ⟨ga, cs.length * 3 + 2, none⟩) (.inl (.inr rfl)) _
theorem put_end_b {w3 : World} {D bx ga ca n : Nat} {k : Int} {t : ByteArray} {sv : Value} {cs : List C3} {xs : List Sx} {k1 : Int} {t1 : ByteArray} {A1 : Option Addr} {n1 c1 : Nat} {X X0 : Sx} (hA : Lvs w3 D (.slice (some ⟨ga, 0, none⟩) (n + 1) ca) (cs ++ [zeroC]) (xs ++ [X0])) (hB : Blk w3 bx 28 #[.int .i8 k, .string t, sv]) (hn : cs.length = n) (hne : bx ≠ ga) (hy : ∀ S w, Lies S w (C3.val ⟨k1, t1, A1, n1, c1⟩) X) :
    Blk ((((w3.setCell ⟨ga, n * 3, none⟩ (.int .i8 k1)).setCell ⟨ga, n * 3 + 1, none⟩ (.string t1)).setCell ⟨ga, n * 3 + 2, none⟩ (.slice A1 n1 c1)).setCell ⟨bx, 2, none⟩ (.slice (some ⟨ga, 0, none⟩) (n + 1) ca)) bx 28 #[.int .i8 k, .string t, .slice (some ⟨ga, 0, none⟩) (n + 1) ca] ∧
    Lvs ((((w3.setCell ⟨ga, n * 3, none⟩ (.int .i8 k1)).setCell ⟨ga, n * 3 + 1, none⟩ (.string t1)).setCell ⟨ga, n * 3 + 2, none⟩ (.slice A1 n1 c1)).setCell ⟨bx, 2, none⟩ (.slice (some ⟨ga, 0, none⟩) (n + 1) ca)) D (.slice (some ⟨ga, 0, none⟩) (n + 1) ca) (cs ++ [⟨k1, t1, A1, n1, c1⟩]) (xs ++ [X]) ∧
    Kept (fun i => i = bx ∨ i = ga) w3 ((((w3.setCell ⟨ga, n * 3, none⟩ (.int .i8 k1)).setCell ⟨ga, n * 3 + 1, none⟩ (.string t1)).setCell ⟨ga, n * 3 + 2, none⟩ (.slice A1 n1 c1)).setCell ⟨bx, 2, none⟩ (.slice (some ⟨ga, 0, none⟩) (n + 1) ca)) := by
  subst hn
  refine ⟨(((hB.far (p := ⟨ga, cs.length * 3, none⟩) hne _).far (p := ⟨ga, cs.length * 3 + 1, none⟩) hne _).far (p := ⟨ga, cs.length * 3 + 2, none⟩) hne _).set_ 2 _, (hA.stored (y := ⟨k1, t1, A1, n1, c1⟩) hy).kept (Kept.set1 _ bx 2 (.slice (some ⟨ga, 0, none⟩) (cs.length + 1) ca)) (fun g hg h2 => hne (h2 ▸ (own_ga hg).symm)), ?_⟩
  exact Kept.setCell (S := fun i => i = bx ∨ i = ga) (Kept.setCell (S := fun i => i = bx ∨ i = ga) (Kept.setCell (S := fun i => i = bx ∨ i = ga) (Kept.setCell (S := fun i => i = bx ∨ i = ga) (Kept.refl _ w3) (p := ⟨ga, cs.length * 3, none⟩) (.inl (.inr rfl)) _) (p := ⟨ga, cs.length * 3 + 1, none⟩) (.inl (.inr rfl)) _) (p := ⟨ga, cs.length * 3 + 2, none⟩) (.inl (.inr rfl)) _) (p := ⟨bx, 2, none⟩) (.inl (.inl rfl)) _

theorem put_mid {w w2 w3 W : World} {D bx ga ca n c5 : Nat} {k : Int} {t : ByteArray} {sv : Value} {A5 : Option Addr} {cs : List C3} {xs : List Sx} {y : C3} {X : Sx}
    (hk2 : Kept (fun i => i = bx ∨ sv.ownBlock = some i) w w2) (hg : ∀ g, (Value.slice A5 n c5).ownBlock = some g → sv.ownBlock = some g ∨ w.heap.size ≤ g) (hk3 : Kept (fun i => (Value.slice A5 n c5).ownBlock = some i) w2.drew w3) (hat : (Value.slice A5 n c5).ownBlock = some ga ∨ w2.drew.heap.size < ga)
    
    (h : Blk W bx 28 #[.int .i8 k, .string t, .slice (some ⟨ga, 0, none⟩) (n + 1) ca] ∧ Lvs W D (.slice (some ⟨ga, 0, none⟩) (n + 1) ca) (cs ++ [y]) (xs ++ [X]) ∧ Kept (fun i => i = bx ∨ i = ga) w3 W) :
    Blk W bx 28 #[.int .i8 k, .string t, .slice (some ⟨ga, 0, none⟩) (n + 1) ca] ∧ Lvs W D (.slice (some ⟨ga, 0, none⟩) (n + 1) ca) (cs ++ [y]) (xs ++ [X]) ∧ (∀ g, (Value.slice (some ⟨ga, 0, none⟩) (n + 1) ca).ownBlock = some g → sv.ownBlock = some g ∨ w.heap.size ≤ g) ∧ Kept (fun i => i = bx ∨ sv.ownBlock = some i) w W := by
  obtain ⟨h1, h2, h3⟩ := h
  have hsz : w.heap.size ≤ w2.heap.size := hk2.size
  have hd : w2.drew.heap.size = w2.heap.size := rfl
  have hga : sv.ownBlock = some ga ∨ w.heap.size ≤ ga := by
    rcases hat with h | h
    · exact hg ga h
    · exact .inr (by omega)
  refine ⟨h1, h2, fun g hgg => ?_, ?_⟩
  · have : ga = g := by simpa [Value.ownBlock] using hgg
    subst this
    exact hga
  · refine ((hk2.drew).then_ hk3 fun i hi h => ?_).then_ h3 fun i hi h => ?_
    · rcases hg i h with h | h
      · exact .inr h
      · omega
    · rcases h with h | h
      · exact .inl h
      · subst h
        rcases hga with h | h
        · exact .inr h
        · omega

set_option maxHeartbeats 1000000 in
set_option maxRecDepth 100000 in
theorem putx_ok (w : World) (ht : Tab w) (D bx : Nat) (k : Int) (t : ByteArray) (sv : Value) (cs : List C3) (xs : List Sx) (hB : Blk w bx 28 #[.int .i8 k, .string t, sv]) (hv : Lvs w D sv cs xs) (hD : D ≤ w.heap.size) (hbx : sv.ownBlock ≠ some bx)
    (A : Option Addr) (c : Nat) (zs : List Int) (hr : Row .i64 w A zs) (hA1 : 0 < zs.length → ∀ a, A = some a → a.block ≠ bx ∧ sv.ownBlock ≠ some a.block) (hz : zs.all fitN = true) (hgb : ∀ g, Tryz.prog.globalNamed tabName = some g → g < bx ∧ g < D) (hc1 : cs.length ≤ 100000) (hz1 : zs.length ≤ 100000) :
    Calls Tryz.prog 51 #[.pointer (some ⟨bx, 0, none⟩), .slice A zs.length c] w fun e w' => e = .returned (.tuple #[]) ∧ PutX w w' D bx k t sv (cs ++ zs.map numC) (xs ++ zs.map numS) := by
  have HT := Lib.hid ht
  have HO := Lib.hid hv.own.lt
  have HNL := Lib.hid (fun i (hi : i < zs.length) => (fit_iff _).1 (List.all_eq_true.1 hz _ (List.getElem_mem hi)))
  have HR := Lib.hid hr
  have HB := Lib.hid hB
  have HV := Lib.hid hv
  have HA1 := Lib.hid hA1
  have HGB := Lib.hid hgb
  have HBX := Lib.hid hbx
  have HBL := Lib.hid hB.lt
  clear ht hz hr hB hv hA1 hgb hbx
  go_enter Tryz.func51, Tryz.ntmps51
  go_wp2
  go_loopw [10] (fun d wx => ∃ (i : Nat) (sv' : Value), i ≤ zs.length ∧ d = .int .i64 i ∧ Blk wx bx 28 #[.int .i8 k, .string t, sv'] ∧ Lvs wx D sv' (cs ++ (zs.take i).map numC) (xs ++ (zs.take i).map numS) ∧ (∀ g, sv'.ownBlock = some g → sv.ownBlock = some g ∨ w.heap.size ≤ g) ∧ Kept (fun i => i = bx ∨ sv.ownBlock = some i) w wx) (fun d _ => (zs.length - intOf d).toNat)
  case atStart => exact ⟨0, sv, Nat.zero_le _, rfl, HB.out, by simpa using HV.out, fun g hg => .inl hg, Kept.refl _ _⟩
  case round =>
    obtain ⟨i, sv1, hi, rfl, hB, hV, hg, hK⟩ := hrel
    have HT1 := Lib.hid (HT.out.kept hK (fun g hg h => by
      have h1 := HGB.out g hg
      rcases h with h | h
      · omega
      · have := (HO.out g h).1; omega))
    have HB1 := Lib.hid hB
    have HV1 := Lib.hid hV
    have HG1 := Lib.hid hg
    have HK1 := Lib.hid hK
    clear hB hV hg hK HB HV
    by_cases hin : i < zs.length
    · have hiz : (i : Int) < (zs.length : Int) := by omega
      have d1 : decide ((i : Int) < zs.length) = true := decide_eq_true hiz
      have hrow := HR.out.kept HK1.out (fun a ha h => h.elim (HA1.out (by omega) a ha).1 (HA1.out (by omega) a ha).2)
      obtain ⟨b, off, rfl, hbl, hcl⟩ := hrow.at_.resolve_left (by omega)
      have c0 := hcl i hin
      have htk : zs.take (i + 1) = zs.take i ++ [zs[i]] := List.take_succ_eq_append_getElem hin
      have hfn := HNL.out i hin
      obtain ⟨z, hzz⟩ : ∃ z, zs[i] = z := ⟨_, rfl⟩
      rw [hzz] at htk hfn c0
      have HTK := Lib.hid htk
      have HN := Lib.hid (fun w1 (h1 : Tab w1) => numtext_ok z hfn.1 hfn.2 w1 h1)
      obtain ⟨n, hn⟩ : ∃ n, cs.length + i = n := ⟨_, rfl⟩
      have hcl2 : (cs ++ (zs.take i).map numC).length = n := by rw [List.length_append, List.length_map, List.length_take]; omega
      have HCL := Lib.hid hcl2
      have hn2 : n ≤ 200000 := by omega
      have hn3 : (n : Int) < (n : Int) + 1 := by omega
      have HN1 := Lib.hid hn
      clear hcl htk hzz hrow hfn hcl2 hn
      go_wp2_with (go_at_call 70; refine (HN.out _ HT1.out).mono ?_; rintro e w2 ⟨rfl, hb2⟩)
      have HT2 := Lib.hid (HT1.out.keep hb2)
      have HB2 := Lib.hid (HB1.out.below hb2 HB1.out.lt)
      have HV2 := Lib.hid (HV1.out.keep hb2)
      have HK2 := Lib.hid (HK1.out.trans (Kept.of_below (S := fun i => i = bx ∨ sv.ownBlock = some i) hb2))
      have HS2 := Lib.hid (Nat.le_trans hD HK2.out.size)
      obtain ⟨x0, x1, x2, f0, f1, f2⟩ := blk3 HB2.out
      obtain ⟨A5, c5, rfl⟩ := own_slice HV2.out.own
      rw [HCL.out] at x2 HB2
      have hcn : ((cs ++ (zs.take i).map numC).length + 1) * 48 ≤ 140737488355328 := by rw [HCL.out]; omega
      clear HT1 HB1 HV1 HK1 hb2
      have HLN := Lib.hid (show (Value.slice A5 n c5).ownBlock ≠ some bx from fun e => by
        rcases HG1.out bx (by cases A5 <;> exact e) with h | h
        · exact HBX.out h
        · have := HBL.out; omega)
      have HV2' := Lib.hid (show Acc w2.drew D (.slice A5 n c5) (cs ++ (zs.take i).map numC) (xs ++ (zs.take i).map numS) by have := HV2.out.acc.drew; rw [HCL.out] at this; exact this)
      have hbw : bx ≠ w2.heap.size := by have := HB2.out.lt; omega
      have hbw2 := hbw.symm
      have x2a := (blk3 (HB2.out.alloc (.cells #[.int .i8 0, .string ⟨#[]⟩, .slice none 0 0] 28))).2.2.1
      have HV2'' := Lib.hid (show Lvs w2 D (.slice A5 n c5) (cs ++ (zs.take i).map numC) (xs ++ (zs.take i).map numS) by have := HV2.out; rw [HCL.out] at this; exact this)
      have HG2 := Lib.hid (show ∀ g, (Value.slice A5 n c5).ownBlock = some g → sv.ownBlock = some g ∨ w.heap.size ≤ g from fun g hg => HG1.out g (by cases A5 <;> exact hg))
      have HNZ := Lib.hid (show ∀ S w, Lies S w (C3.val ⟨1, numB z, none, 0, 0⟩) (numS z) from num_lies z)
      go_region_law
        ((refine acc_push_step w2.drew (by rfl) (.tmp 22) (.tmp 26) (by rfl) D (.slice A5 n c5) (cs ++ (zs.take i).map numC) (xs ++ (zs.take i).map numS) HV2'.out HS2.out zeroC (.mk 0 [] []) (zero_lies _ _) hcn (by rfl) (by rfl) ?_; intro ga ca w3 hA3 hk3 hat3; rw [HCL.out] at hA3 ⊢; have hB3 := (HB2.out.drew).kept hk3 HLN.out; obtain ⟨r0, r1, r2, q0, q1, q2⟩ := blk3 hB3; have hne : ga ≠ bx := ga_ne hat3 HLN.out HB2.out.lt; have hne2 := hne.symm; have HL3 := Lib.hid (push_n HV2''.out HCL.out hA3 zero_lies); have HA3 := Lib.hid hA3; have HK3 := Lib.hid hk3; have HB3 := Lib.hid hB3; have Hat3 := Lib.hid hat3; obtain ⟨l0, l1, l2, m0, m1, m2⟩ := last3 hA3 HCL.out; clear hA3 hk3 hat3 hB3))
      all_goals
        go_wp2
        go_roundw
        case rel =>
          refine ⟨i + 1, .slice (some ⟨ga, 0, none⟩) (n + 1) ca, by omega, by go_num, ?_⟩
          rw [HTK.out, List.map_append, List.map_append, ← List.append_assoc, ← List.append_assoc]
          refine put_mid (y := ⟨1, numB z, none, 0, 0⟩) (X := numS z) HK2.out HG2.out HK3.out Hat3.out ?_
          first
            | with_reducible exact put_end_a (k1 := 1) (t1 := numB z) (A1 := none) (n1 := 0) (c1 := 0) (X := numS z) HL3.out HB3.out HCL.out hne2 HNZ.out
            | with_reducible exact put_end_b (k1 := 1) (t1 := numB z) (A1 := none) (n1 := 0) (c1 := 0) (X := numS z) HL3.out HB3.out HCL.out hne2 HNZ.out
        case measure => simp only [intOf]; omega
    · have d1 : decide ((i : Int) < zs.length) = false := decide_eq_false (by omega)
      have hall : zs.take i = zs := List.take_of_length_le (by omega)
      rw [hall] at HV1
      go_wp2
      go_end0
      exact ⟨rfl, ⟨⟨sv1, HB1.out, HV1.out, HG1.out⟩, HK1.out⟩⟩
end Go.Proofs.YtiklliiamljogaaGreatDoor

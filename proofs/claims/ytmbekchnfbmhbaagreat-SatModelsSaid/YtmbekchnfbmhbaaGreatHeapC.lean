/- swap. -/
import Derived.Test.YtmbekchnfbmhbaaGreatHeapB
namespace Go.Proofs.YtmbekchnfbmhbaaGreat
open Go.RowKit Go.Lib

set_option maxRecDepth 100000 in
set_option maxHeartbeats 2000000 in
theorem swap_same {w : World} {bh gr cr gt ct : Nat} {va : Value} {nr nt : Nat} {i x : Nat} {px : Value} (_hnr : nr ≤ 65536) (_hnt : nt ≤ 65536) (h : Blk w bh 68 #[va, .slice (some ⟨gr, 0, none⟩) nr cr, .slice (some ⟨gt, 0, none⟩) nt ct])
    (ci : w.cell? ⟨gr, i, none⟩ = some (.int .i64 x)) (fr : ∀ j, w.frozen? ⟨gr, j, none⟩ = false) (ft : ∀ j, w.frozen? ⟨gt, j, none⟩ = false)
    (cx : w.cell? ⟨gt, x, none⟩ = some px) (h1 : bh ≠ gr) (h2 : gr ≠ gt)
    (hi : i < nr) (hx : x < nt) :
    Calls Tryz.prog 50 #[.pointer (some ⟨bh, 0, none⟩), .int .i64 i, .int .i64 i] w fun e w' => e = .returned (.tuple #[]) ∧ ∃ q, w' = (((((w.setCell ⟨gr, i, none⟩ (.int .i64 x)).setCell ⟨gr, i, none⟩ (.int .i64 x)).setCell ⟨gt, x, none⟩ (.int .i64 i)).setCell ⟨gt, x, none⟩ (.int .i64 i))).drewN q := by
  have b1 := h.cell 1
  have b2 := h.cell 2
  simp only [List.getElem?_toArray, List.getElem?_cons_zero, List.getElem?_cons_succ] at b1 b2
  have t1 : (0 : Int) ≤ (i : Int) := by omega
  have t2 : (i : Int) < (nr : Int) := by omega
  have t5 : (0 : Int) ≤ (x : Int) := by omega
  have t6 : (x : Int) < (nt : Int) := by omega
  have fi := fr i
  have k1 := ((h.far (p := ⟨gr, i, none⟩) h1 (.int .i64 x)).far (p := ⟨gr, i, none⟩) h1 (.int .i64 x))
  have n1 := k1.cell 1
  have n2 := k1.cell 2
  simp only [List.getElem?_toArray, List.getElem?_cons_zero, List.getElem?_cons_succ] at n1 n2
  have n3 : ((w.setCell ⟨gr, i, none⟩ (.int .i64 x)).setCell ⟨gr, i, none⟩ (.int .i64 x)).cell? ⟨gt, x, none⟩ = some px := by
    rw [World.cell?_of_block (w := w.setCell ⟨gr, i, none⟩ (.int .i64 x)) (Below.heap_setCell _ ⟨gr, i, none⟩ _ gt (Ne.symm h2)), World.cell?_of_block (w := w) (Below.heap_setCell _ ⟨gr, i, none⟩ _ gt (Ne.symm h2))]
    exact cx
  have n5 : ((w.setCell ⟨gr, i, none⟩ (.int .i64 x)).setCell ⟨gr, i, none⟩ (.int .i64 x)).frozen? ⟨gt, x, none⟩ = false := by
    rw [World.frozen?_of_block (w := w.setCell ⟨gr, i, none⟩ (.int .i64 x)) (Below.heap_setCell _ ⟨gr, i, none⟩ _ gt (Ne.symm h2)), World.frozen?_of_block (w := w) (Below.heap_setCell _ ⟨gr, i, none⟩ _ gt (Ne.symm h2))]
    exact ft x
  have n7 : ((w.setCell ⟨gr, i, none⟩ (.int .i64 x)).setCell ⟨gr, i, none⟩ (.int .i64 x)).cell? ⟨gr, i, none⟩ = some (.int .i64 x) := by
    go_simp
  clear h k1 fr ft cx h1 h2
  go_enter Tryz.func50, Tryz.ntmps50
  go_wp2
  go_region
  generalize hW : (w.setCell ⟨gr, i, none⟩ (.int .i64 x)).setCell ⟨gr, i, none⟩ (.int .i64 x) = w1 at *
  have HW := Lib.hid hW
  clear hW ci b1 b2 fi
  go_wp2
  go_region
  go_end0
  have e := HW.out
  subst e
  exact ⟨rfl, 2, rfl⟩

/-- The blocks of a heap. -/
def HSet (bh : Nat) (va vr vt : Value) : Nat → Prop := fun k => k = bh ∨ va.ownBlock = some k ∨ vr.ownBlock = some k ∨ vt.ownBlock = some k

theorem HP.drewN {w : World} {B bh : Nat} {va vr vt : Value} {la : List Int} {lr : List Nat} {lp : List Int} (h : HP w B bh va vr vt la lr lp) (n : Nat) : HP (w.drewN n) B bh va vr vt la lr lp :=
  ⟨h.blk.drewN n, h.act.drewN n, h.rows.drewN n, h.at_.drewN n, h.ar, h.at2, h.rt, h.hb⟩
theorem HP.kept {S : Nat → Prop} {w w' : World} {B bh : Nat} {va vr vt : Value} {la : List Int} {lr : List Nat} {lp : List Int} (h : HP w B bh va vr vt la lr lp) (hk : Kept S w w') (hs : ∀ k, S k → ¬ HSet bh va vr vt k) : HP w' B bh va vr vt la lr lp :=
  ⟨h.blk.kept hk (fun e => hs _ e (.inl rfl)), h.act.kept hk (fun g hg e => hs _ e (.inr (.inl hg))), h.rows.kept hk (fun g hg e => hs _ e (.inr (.inr (.inl hg)))), h.at_.kept hk (fun g hg e => hs _ e (.inr (.inr (.inr hg)))), h.ar, h.at2, h.rt, h.hb⟩
theorem HP.rows_ne {w : World} {B bh : Nat} {va vr vt : Value} {la : List Int} {lr : List Nat} {lp : List Int} (h : HP w B bh va vr vt la lr lp) {v : Value} {n : Nat} {xs : List Value} (ho : w.ownsRow B 3 1 v n xs) : v.ownBlock ≠ some bh := own_blk_ne ho h.blk (by decide)
/-- A store into the rows. -/
theorem HP.setR {w : World} {B bh gr cr : Nat} {va vr vt : Value} {la : List Int} {lr : List Nat} {lp : List Int} (h : HP w B bh va vr vt la lr lp) (hv : vr = .slice (some ⟨gr, 0, none⟩) lr.length cr) (i x : Nat) : HP (w.setCell ⟨gr, i, none⟩ (.int .i64 x)) B bh va vr vt la (lr.set i x) lp := by
  have hob : vr.ownBlock = some gr := by rw [hv]; rfl
  have hbn : bh ≠ gr := fun e => h.rows_ne h.rows.own (by rw [hob, e])
  refine ⟨h.blk.far (p := ⟨gr, i, none⟩) hbn _, h.act.far gr i _ (fun e => h.ar _ e hob), ?_, h.at_.far gr i _ (fun e => h.rt _ hob e), h.ar, h.at2, h.rt, h.hb⟩
  rw [nats_set]
  exact h.rows.set (cap := cr) (by rw [hv, nats_len]) i x
/-- A store into the places. -/
theorem HP.setT {w : World} {B bh gt ct : Nat} {va vr vt : Value} {la : List Int} {lr : List Nat} {lp : List Int} (h : HP w B bh va vr vt la lr lp) (hv : vt = .slice (some ⟨gt, 0, none⟩) lp.length ct) (i : Nat) (x : Int) : HP (w.setCell ⟨gt, i, none⟩ (.int .i64 x)) B bh va vr vt la lr (lp.set i x) := by
  have hob : vt.ownBlock = some gt := by rw [hv]; rfl
  have hbn : bh ≠ gt := fun e => h.rows_ne h.at_.own (by rw [hob, e])
  exact ⟨h.blk.far (p := ⟨gt, i, none⟩) hbn _, h.act.far gt i _ (fun e => h.at2 _ e hob), h.rows.far gt i _ (fun e => h.rt _ e hob), h.at_.set hv i x, h.ar, h.at2, h.rt, h.hb⟩
/-- A store into the activities. -/
theorem HP.setA {w : World} {B bh ga ca : Nat} {va vr vt : Value} {la : List Int} {lr : List Nat} {lp : List Int} (h : HP w B bh va vr vt la lr lp) (hv : va = .slice (some ⟨ga, 0, none⟩) la.length ca) (i : Nat) (x : Int) : HP (w.setCell ⟨ga, i, none⟩ (.int .i64 x)) B bh va vr vt (la.set i x) lr lp := by
  have hob : va.ownBlock = some ga := by rw [hv]; rfl
  have hbn : bh ≠ ga := fun e => h.rows_ne h.act.own (by rw [hob, e])
  exact ⟨h.blk.far (p := ⟨ga, i, none⟩) hbn _, h.act.set hv i x, h.rows.far ga i _ (fun e => h.ar _ hob e), h.at_.far ga i _ (fun e => h.at2 _ hob e), h.ar, h.at2, h.rt, h.hb⟩

theorem swap_ok {w : World} {B bh n : Nat} {va vr vt : Value} {la : List Int} {lr : List Nat} {lp : List Int} (h : HP w B bh va vr vt la lr lp) (ho : HOk n lr lp) {i k : Nat} (hi : i < lr.length) (hk : k < lr.length) :
    Calls Tryz.prog 50 #[.pointer (some ⟨bh, 0, none⟩), .int .i64 i, .int .i64 k] w fun e w' => e = .returned (.tuple #[]) ∧ HP w' B bh va vr vt la (swapL lr i k) (swapP lr lp i k) ∧ Kept (HSet bh va vr vt) w w' := by
  have hxn := ho.node _ (List.getElem_mem hi)
  have hyn := ho.node _ (List.getElem_mem hk)
  have hat := ho.at_
  obtain ⟨gr, cr, hvr, _, _, _, cr1, fr1⟩ := h.rows.form (by rw [nats_len]; omega)
  obtain ⟨gt, ct, hvt, _, _, _, ct1, ft1⟩ := h.at_.form (by omega)
  have hor : vr.ownBlock = some gr := by rw [hvr]; rfl
  have hot : vt.ownBlock = some gt := by rw [hvt]; rfl
  have hbr : bh ≠ gr := fun e => h.rows_ne h.rows.own (by rw [hor, e])
  have hrt : gr ≠ gt := fun e => h.rt _ hor (by rw [hot, e])
  rw [nats_len] at hvr
  have hb := h.blk
  have hl1 := h.rows.len
  rw [nats_len] at hl1
  have hl2 := h.at_.len
  have ci := cr1 i (by rw [nats_len]; omega)
  have ck := cr1 k (by rw [nats_len]; omega)
  rw [nats_get] at ci ck
  have cx := ct1 lr[i] (by omega)
  have cy := ct1 lr[k] (by omega)
  have hK : ∀ (x y : Nat), Kept (HSet bh va vr vt) w ((((w.setCell ⟨gr, i, none⟩ (.int .i64 y)).setCell ⟨gr, k, none⟩ (.int .i64 x)).setCell ⟨gt, y, none⟩ (.int .i64 i)).setCell ⟨gt, x, none⟩ (.int .i64 k)) := fun x y =>
    ((((Kept.refl _ w).setCell (p := ⟨gr, i, none⟩) (.inl (.inr (.inr (.inl hor)))) _).setCell (p := ⟨gr, k, none⟩) (.inl (.inr (.inr (.inl hor)))) _).setCell (p := ⟨gt, y, none⟩) (.inl (.inr (.inr (.inr hot)))) _).setCell (p := ⟨gt, x, none⟩) (.inl (.inr (.inr (.inr hot)))) _
  have hH : HP ((((w.setCell ⟨gr, i, none⟩ (.int .i64 lr[k])).setCell ⟨gr, k, none⟩ (.int .i64 lr[i])).setCell ⟨gt, lr[k], none⟩ (.int .i64 i)).setCell ⟨gt, lr[i], none⟩ (.int .i64 k)) B bh va vr vt la (swapL lr i k) (swapP lr lp i k) := by
    have e1 : swapL lr i k = (lr.set i lr[k]).set k lr[i] := by unfold swapL; rw [dif_pos ⟨hi, hk⟩]
    have e2 : swapP lr lp i k = (lp.set lr[k] i).set lr[i] k := by unfold swapP; rw [dif_pos ⟨hi, hk⟩]
    rw [e1, e2]
    exact (((h.setR hvr i lr[k]).setR (cr := cr) (by rw [hvr, List.length_set]) k lr[i]).setT hvt lr[k] i).setT (ct := ct) (by rw [hvt, List.length_set]) lr[i] k
  rw [hvr, hvt] at hb
  by_cases he : i = k
  · subst he
    refine (swap_same (px := .int .i64 (lp[lr[i]]'(by omega))) hl1 hl2 hb ci fr1 ft1 cx hbr hrt hi (by omega)).mono ?_
    rintro e w' ⟨rfl, q, rfl⟩
    exact ⟨rfl, hH.drewN q, (hK _ _).drewN q⟩
  · refine (swap_raw hl1 hl2 hb ci ck fr1 ft1 cx cy he (fun e => he (ho.inj hi hk e)) hbr hrt hi hk (by omega) (by omega)).mono ?_
    rintro e w' ⟨rfl, q, rfl⟩
    exact ⟨rfl, hH.drewN q, (hK _ _).drewN q⟩
end Go.Proofs.YtmbekchnfbmhbaaGreat

/- The plain side of ShareCounts: how many clauses there are. -/
import Derived.Test.YtlipnnibagidiaaGreatCoP
import Derived.Test.YtlipnnibagidiaaGreatRdB
import Derived.Test.YtlipnnibagidiaaGreatRdF
import Derived.Test.YtlipnnibagidiaaGreatShelf
import Derived.Test.YtlipnnibagidiaaGreatNuB
namespace Go.Proofs.YtlipnnibagidiaaGreat

/-- How many clauses some pairs have. -/
def cntT (T : List Nd) (ps : List (Int × Int)) : Nat := (ps.map fun p => ((of2 T p.1 p.2).getD []).length).sum
theorem cntT_all (T : List Nd) : (allT T).length = cntT T (pairsL (nodesT T)) := by
  unfold allT cntT
  rw [List.length_flatMap]
theorem cntT_append (T : List Nd) (a b : List (Int × Int)) : cntT T (a ++ b) = cntT T a + cntT T b := by
  unfold cntT
  rw [List.map_append, List.sum_append]
theorem pairs_drop {l : List Int} {i : Nat} (h : i < l.length) : pairsL (l.drop i) = (l.drop (i + 1)).map (fun y => (l[i], y)) ++ pairsL (l.drop (i + 1)) := by
  rw [List.drop_eq_getElem_cons h]
  rfl
theorem cnt_drop (T : List Nd) {l : List Int} {k : Nat} (h : k < l.length) (a : Int) : cntT T ((l.drop k).map fun y => (a, y)) = ((of2 T a l[k]).getD []).length + cntT T ((l.drop (k + 1)).map fun y => (a, y)) := by
  rw [List.drop_eq_getElem_cons h]
  unfold cntT
  rw [List.map_cons, List.map_cons, List.sum_cons]
theorem cnt_outer (T : List Nd) {l : List Int} {i : Nat} (h : i < l.length) : cntT T (pairsL (l.drop i)) = cntT T ((l.drop (i + 1)).map fun y => (l[i], y)) + cntT T (pairsL (l.drop (i + 1))) := by
  rw [pairs_drop h, cntT_append]
theorem cnt_le {T : List Nd} : ∀ {ps : List (Int × Int)}, (∀ p ∈ ps, ((of2 T p.1 p.2).getD []).length ≤ 3) → cntT T ps ≤ 3 * ps.length
  | [], _ => Nat.le_refl _
  | p :: r, h => by
    have h1 := h p (by simp)
    have h2 := cnt_le (ps := r) fun q hq => h q (by simp [hq])
    show ((of2 T p.1 p.2).getD []).length + cntT T r ≤ 3 * (r.length + 1)
    omega
theorem pair_at {l : List Int} (hs : l.Pairwise (· < ·)) {i k : Nat} (hi : i < l.length) (hk : k < l.length) (h : i < k) : (l[i], l[k]) ∈ pairsL l :=
  (mem_pairs hs).2 ⟨List.getElem_mem hi, List.getElem_mem hk, List.pairwise_iff_getElem.1 hs i k hi hk h⟩
/-- What of two shared nodes of a table that was laid is so. -/
theorem of2_put {T U : List Nd} (hc : CoreT T) (hs : SumT T) {most : Int} (h : putS T most = ⟨U, 0⟩) {x y : Int} (hp : (x, y) ∈ pairsL (nodesT U)) : ∃ l, of2 U x y = some l ∧ (l.length = 1 ∨ l.length = 3) ∧ eqNd x y ∈ U ∧ ∀ c ∈ l, litT U (eqNd x y) ∈ c ∨ litT U (eqNd x y) + 1 ∈ c := by
  rcases putS_is hc hs most with ⟨_, g, l, _⟩ | ⟨he, _⟩
  · rw [h] at g l
    rw [nodesT_grew g] at hp
    have hl := l _ hp
    obtain ⟨l, h1, h2, h3⟩ := of2_laid hl
    exact ⟨l, h1, h2, hl.eq, h3⟩
  · rw [h] at he
    rcases he with he | he <;> cases he
/-- How many nodes there are. -/
theorem half_int {q : Nat} (hq : q ≤ 12) : ∃ P H : Nat, (q : Int) * ((q : Int) - 1) = P ∧ (P : Int).tdiv 2 = H ∧ H = q * (q - 1) / 2 ∧ P ≤ 132 ∧ H ≤ 66 := by
  have : ∀ q : Fin 13, ((q.val : Nat) : Int) * (((q.val : Nat) : Int) - 1) = ((q.val * (q.val - 1) : Nat) : Int) ∧ ((q.val * (q.val - 1) : Nat) : Int).tdiv 2 = ((q.val * (q.val - 1) / 2 : Nat) : Int) ∧ q.val * (q.val - 1) ≤ 132 ∧ q.val * (q.val - 1) / 2 ≤ 66 := by decide
  obtain ⟨h1, h2, h3⟩ := this ⟨q, by omega⟩
  exact ⟨_, _, h1, h2, rfl, h3⟩
end Go.Proofs.YtlipnnibagidiaaGreat

/- ContainsFunc over rows of ints, by a predicate that makes memory. -/
namespace Go.Proofs.YtlipnnibagidiaaGreat
open Go.RowKit

set_option maxHeartbeats 1000000 in
theorem gindex_ok {N : Nat → Prop} {w : World} {B : Option Addr} {L : List (Option Addr × Nat × List Int)} (cap : Nat) (g : Nat) (lb : Array Value) (p : Option Addr × Nat × List Int → Bool) (eg : ∀ args w, (callFunc g args).run Tryz.prog w = .ok (.enter g args) w) (h0 : GridV N w (.slice B L.length cap) L)
    (hp : ∀ W x, x ∈ L → Below w.heap.size w W → Calls Tryz.prog g (#[encR x] ++ lb) W fun e w' => e = .returned (.bool (p x)) ∧ Below W.heap.size W w') :
    Calls Tryz.prog 86 #[.slice B L.length cap, .func (.func g) #[] lb] w fun e w' => ∃ r : Int, e = .returned (.int .i64 r) ∧ (0 ≤ r ↔ L.any p = true) ∧ Below w.heap.size w w' := by
  have hlen := h0.len
  have HP := Lib.hid hp
  have H0 := Lib.hid h0
  clear hp h0
  go_enter Tryz.func86, Tryz.ntmps86
  go_wp2
  go_loopg [8] L.length (fun g v wr => ∃ i : Nat, i + g = L.length ∧ v = .int .i64 i ∧ Below w.heap.size w wr ∧ (L.any p = true ↔ (L.drop i).any p = true))
  case atStart => exact ⟨0, by omega, rfl, Below.refl _ _, Iff.rfl⟩
  case round =>
    obtain ⟨i, hig, rfl, hi, hinv⟩ := hrel
    have HW := Lib.hid hi
    have HV := Lib.hid hinv
    clear hi hinv
    cases gk with
    | zero =>
      obtain rfl : i = L.length := by omega
      have d1 : decide ((L.length : Int) < L.length) = false := by simp
      have HN : Hid ((0 : Int) ≤ -1 ↔ L.any p = true) := Lib.hid ⟨fun h => by omega, fun h => by have := HV.out.1 h; rw [List.drop_length] at this; cases this⟩
      go_wp2
      go_ret
      exact ⟨_, rfl, HN.out, HW.out⟩
    | succ gk =>
      have hlt : i < L.length := by omega
      have d1 : decide ((i : Int) < L.length) = true := by simp; omega
      have t1 : (0 : Int) ≤ (i : Int) := by omega
      have t2 : (i : Int) < (L.length : Int) := by omega
      obtain ⟨A0, cap0, hV, _, _, hat⟩ := H0.out.form
      injection hV with hV1 hV2 hV3
      subst hV1 hV3
      obtain ⟨b, off, hA, _, hbb, hcell⟩ := hat.resolve_left (by omega)
      have y0 : wr.cell? ⟨b, off + i, none⟩ = some (encR L[i]) := by rw [HW.out.cell (p := ⟨b, off + i, none⟩) hbb]; exact hcell i hlt
      have KP := Lib.hid (HP.out wr L[i] (List.getElem_mem hlt) HW.out)
      have HD := Lib.hid (show (L.drop i).any p = (p L[i] || (L.drop (i + 1)).any p) by rw [List.drop_eq_getElem_cons hlt, List.any_cons])
      subst hA
      clear hcell
      generalize L[i] = x at *
      clear hV2
      unfold encR at y0 KP
      obtain ⟨r, hr⟩ : ∃ r, p x = r := ⟨_, rfl⟩
      rw [hr] at KP HD
      clear hr
      go_wp2_with fail
      refine KP.out.mono ?_
      rintro e w2 ⟨rfl, h2⟩
      have H2 := Lib.hid (HW.out.trans (h2.mono HW.out.size))
      clear h2 y0
      cases r with
      | true =>
        have HN : Hid ((0 : Int) ≤ (i : Int) ↔ L.any p = true) := Lib.hid ⟨fun _ => HV.out.2 (by rw [HD.out]; rfl), fun _ => by omega⟩
        go_wp2
        go_ret
        exact ⟨_, rfl, HN.out, H2.out⟩
      | false =>
        go_wp2
        go_roundg gk
        case measure => omega
        case rel => exact ⟨i + 1, by omega, by go_num, H2.out, by rw [HV.out, HD.out]; simp⟩
theorem gcontains_ok {N : Nat → Prop} {w : World} {B : Option Addr} {L : List (Option Addr × Nat × List Int)} (cap : Nat) (g : Nat) (lb : Array Value) (p : Option Addr × Nat × List Int → Bool) (eg : ∀ args w, (callFunc g args).run Tryz.prog w = .ok (.enter g args) w) (h0 : GridV N w (.slice B L.length cap) L)
    (hp : ∀ W x, x ∈ L → Below w.heap.size w W → Calls Tryz.prog g (#[encR x] ++ lb) W fun e w' => e = .returned (.bool (p x)) ∧ Below W.heap.size W w') :
    Calls Tryz.prog 48 #[.slice B L.length cap, .func (.func g) #[] lb] w fun e w' => e = .returned (.bool (L.any p)) ∧ Below w.heap.size w w' := by
  have KI := Lib.hid (gindex_ok cap g lb p eg h0 hp)
  obtain ⟨bb, hbb⟩ : ∃ bb, L.any p = bb := ⟨_, rfl⟩
  have HBB := Lib.hid hbb
  rw [hbb]
  clear hp h0 hbb eg
  go_enter Tryz.func48, Tryz.ntmps48
  go_wp2_with fail
  refine KI.out.mono ?_
  rintro e w2 ⟨r, rfl, hr, hk⟩
  have HK := Lib.hid hk
  have d0 : decide (0 ≤ r) = bb := by
    rw [← HBB.out, Bool.eq_iff_iff, decide_eq_true_iff]
    exact hr
  clear hk hr
  go_wp2
  go_ret
  exact ⟨by rw [← d0]; rfl, HK.out⟩
end Go.Proofs.YtlipnnibagidiaaGreat

/- share.Of, share.Is: the clauses of two shared nodes of a table that is laid. -/
namespace Go.Proofs.YtlipnnibagidiaaGreat
open Go.RowKit Go.Lib
attribute [local go_sem] Oper.semAt_some

def SOfIs (T : List Nd) (x y : Int) (w : World) (e : Ending) (w' : World) : Prop :=
  ∃ v rows, e = .returned (.tuple #[v, .int .i64 0]) ∧ GridV (fun b => w.heap.size ≤ b) w' v rows ∧ rows.map (fun r => r.2.2) = (of2 T x y).getD [] ∧ Below w.heap.size w w'
theorem pair_in64 {T : List Nd} (hl : T.length ≤ 100000) {x y : Int} (hp : (x, y) ∈ pairsL (nodesT T)) : In64 x ∧ In64 y := by
  obtain ⟨m1, m2, _⟩ := (mem_pairs (nodes_sorted T)).1 hp
  have h1 := (mem_nodes m1).1
  have h2 := (mem_nodes m2).1
  have := h1.lo
  have := h1.hi
  have := h2.lo
  have := h2.hi
  unfold In64
  exact ⟨by omega, by omega⟩
set_option maxRecDepth 100000 in
set_option maxHeartbeats 2000000 in
theorem sof_ok {T : List Nd} {w : World} {A : Option Addr} (c : Nat) (hc : T.length ≤ c) (h : Tab w A T) (hl : (nodesT T).length ≤ 500) (hd : laidB T = true) {x y : Int} (hp : (x, y) ∈ pairsL (nodesT T)) :
    Calls Tryz.prog 36 #[.agg #[.slice A T.length c], .int .i64 x, .int .i64 y] w (SOfIs T x y w) := by
  obtain ⟨hx, hy⟩ := pair_in64 h.len hp
  have KA := Lib.hid (fun W (hb : Below w.heap.size w W) => all_ok c hc (h.below hb) hl)
  have HB0 : Hid (Below w.heap.size w (w.alloc (.cells #[.slice A T.length c] 33))) := Lib.hid ((Below.refl _ w).alloc (Nat.le_refl _) _)
  have KB := Lib.hid (KA.out _ HB0.out)
  obtain ⟨kl, hkl⟩ := pair_key_in hx hy
  have hkl := Lib.hid hkl
  have HP := Lib.hid hp
  have HD := Lib.hid hd
  obtain ⟨l, hl2⟩ : ∃ l, of2 T x y = some l := by
    unfold laidB at hd
    simp only [Bool.and_eq_true] at hd
    have := List.all_eq_true.1 hd.2 _ hp
    exact Option.isSome_iff_exists.1 this
  have HO := Lib.hid hl2
  clear hc h hl hd hp hl2
  go_enter Tryz.func36, Tryz.ntmps36
  go_wp2_with fail
  refine KB.out.mono ?_
  rintro e w1 ⟨v, m, rfl, ⟨VA, vn, vc, rfl⟩, hm, hx, hb⟩
  obtain ⟨rows, Mb, n, f, hg, hrw, rfl, hmap, hby⟩ := hx HD.out
  rw [HD.out]
  have HB1 := Lib.hid (HB0.out.trans (hb.mono HB0.out.size))
  obtain ⟨v2, rows2, hf, hg2, _, hr2⟩ := hby.2 _ HP.out
  obtain ⟨hr3, a, n2, c2, rfl⟩ := hr2 l HO.out
  dsimp only at hf
  have hlook := hmap.look pair_key Tryz.underlying114 (zero_rows w1) hkl.out true
  rw [hf] at hlook
  simp only [if_true] at hlook
  have HG := Lib.hid (hg2.mono (N' := fun b => w.heap.size ≤ b) (fun b _ h => Nat.le_trans HB0.out.size h))
  have HR := Lib.hid hr3
  clear hm hx hb hg hrw hmap hby hf hg2 hr2 hr3
  unfold pairKey at hlook
  go_wp2
  refine bodyPost_ret (v := .tuple #[.slice (some a) n2 c2, .int .i64 0]) (by simp [results, Tryz.results36, go_sem]) rfl ?_
  exact ⟨_, rows2, rfl, HG.out, by rw [HR.out, HO.out]; rfl, HB1.out⟩
end Go.Proofs.YtlipnnibagidiaaGreat

/- share.Is: a clause of two shared nodes is one of theirs. -/
namespace Go.Proofs.YtlipnnibagidiaaGreat
open Go.RowKit Go.Lib

theorem row_cells {w : World} {b off : Nat} {zs : List Int} (hc : ∀ i (h : i < zs.length), w.cell? ⟨b, off + i, none⟩ = some (.int .i64 zs[i])) : ∀ j, j < zs.length → w.cell? ⟨b, off + j, none⟩ = some (.int .i64 (zs.getD j 0)) := fun j hj => by
  rw [hc j hj, List.getD_eq_getElem?_getD, List.getElem?_eq_getElem hj]; rfl

theorem equal_ok {w : World} {A B : Option Addr} {xs ys : List Int} (c d : Nat) (h : Row w A xs) (k : Row w B ys) :
    Calls Tryz.prog 50 #[.slice A xs.length c, .slice B ys.length d] w fun e w' => e = .returned (.bool (xs == ys)) ∧ ∃ q, w' = w.drewN q := by
  have hl := h.len
  have kl := k.len
  by_cases hne : xs.length = ys.length
  · rcases h.at_ with h0 | ⟨b, off, rfl, _, hc⟩
    · have hx : xs = [] := List.eq_nil_of_length_eq_zero h0
      have hy : ys = [] := List.eq_nil_of_length_eq_zero (by omega)
      subst hx hy
      exact (Tryz.slices_Equal_int_empty A B c 0 d w (by omega)).mono fun e w' ⟨h1, h2⟩ => ⟨by rw [h1]; rfl, 0, h2⟩
    · rcases k.at_ with k0 | ⟨b2, off2, rfl, _, kc⟩
      · have hx : xs = [] := List.eq_nil_of_length_eq_zero (by omega)
        have hy : ys = [] := List.eq_nil_of_length_eq_zero k0
        subst hx hy
        exact (Tryz.slices_Equal_int_empty _ B c 0 d w (by omega)).mono fun e w' ⟨h1, h2⟩ => ⟨by rw [h1]; rfl, 0, h2⟩
      · refine (Tryz.slices_Equal_int b off xs.length c b2 off2 ys.length d xs ys w (Nat.le_refl _) (Nat.le_refl _) (by omega) (by omega) (row_cells hc) (row_cells kc)).mono fun e w' ⟨h1, h2⟩ => ⟨?_, h2⟩
        rw [h1, List.take_of_length_le (Nat.le_refl _), List.take_of_length_le (Nat.le_refl _)]
  · refine (Tryz.slices_Equal_int_lens A B xs.length c ys.length d w hne).mono fun e w' ⟨h1, h2⟩ => ⟨?_, 0, h2⟩
    have : (xs == ys) = false := beq_eq_false_iff_ne.2 fun h => hne (by rw [h])
    rw [h1, this]

theorem csame2_ok {w : World} {A B : Option Addr} {xs ys : List Int} (c d : Nat) (h : Row w A xs) (k : Row w B ys) :
    Calls Tryz.prog 72 #[.slice A xs.length c, .slice B ys.length d] w fun e w' => e = .returned (.bool (xs == ys)) ∧ ∃ q, w' = w.drewN q := by
  generalize hq : (xs == ys) = q
  have Hq := Lib.hid hq
  have H := Lib.hid h
  have K := Lib.hid k
  clear h k hq
  go_enter Tryz.func72, Tryz.ntmps72
  go_wp2_with (go_at_call 50; refine (equal_ok c d H.out K.out).mono ?_; rintro e w2 ⟨rfl, n2, rfl⟩; rw [Hq.out])
  go_ret
  exact ⟨rfl, n2, rfl⟩
set_option maxHeartbeats 1000000 in
theorem is1_ok {w : World} {p cB : Nat} {B : Option Addr} {cs : List Int} {r : Option Addr × Nat × List Int} (h0 : w.cell? ⟨p, 0, none⟩ = some (.slice B cs.length cB)) (hB : Row w B cs) (hr : Row w r.1 r.2.2) :
    Calls Tryz.prog 71 (#[encR r] ++ #[.pointer (some ⟨p, 0, none⟩)]) w fun e w' => e = .returned (.bool (cs == r.2.2)) ∧ Below w.heap.size w w' := by
  obtain ⟨ra, rc, rl⟩ := r
  dsimp only at hr ⊢
  have KS := Lib.hid (csame2_ok cB rc hB hr)
  obtain ⟨q, hq⟩ : ∃ q, (cs == rl) = q := ⟨_, rfl⟩
  rw [hq] at KS ⊢
  clear hq hB hr
  show Calls Tryz.prog 71 #[.slice ra rl.length rc, .pointer (some ⟨p, 0, none⟩)] w _
  go_enter Tryz.func71, Tryz.ntmps71
  go_wp2_with (go_at_call 72; refine KS.out.mono ?_; rintro e w2 ⟨rfl, n2, rfl⟩)
  go_ret
  exact ⟨rfl, below_drewN (Below.refl _ w) n2⟩
set_option maxRecDepth 100000 in
set_option maxHeartbeats 2000000 in
theorem sis_ok {T : List Nd} {w : World} {A B : Option Addr} {cs : List Int} (c cB : Nat) (hc : T.length ≤ c) (h : Tab w A T) (hl : (nodesT T).length ≤ 500) (hd : laidB T = true) {x y : Int} (hp : (x, y) ∈ pairsL (nodesT T)) (hB : Row w B cs) (hm : cs ∈ (of2 T x y).getD []) :
    Calls Tryz.prog 39 #[.agg #[.slice A T.length c], .int .i64 x, .int .i64 y, .slice B cs.length cB] w (fun e w' => e = .returned (.bool true) ∧ Below w.heap.size w w') := by
  have hclen := hB.len
  obtain ⟨w0, hw0⟩ : ∃ w0, (w.alloc (.cells #[.slice A T.length c] 33)).alloc (.cells #[.slice B cs.length cB] 27) = w0 := ⟨_, rfl⟩
  have HB0 : Hid (Below w.heap.size w w0) := Lib.hid (by rw [← hw0]; exact ((Below.refl _ w).alloc (Nat.le_refl _) _).alloc (by simp) _)
  have HC0 : Hid (Blk w0 (w.heap.size + 1) 27 #[.slice B cs.length cB]) := Lib.hid (by rw [← hw0]; exact Blk.new_at (by simp) _ _)
  have HT0 : Hid (Blk w0 w.heap.size 33 #[.slice A T.length c]) := Lib.hid (by rw [← hw0]; exact (Blk.new w _ _).alloc _)
  have a0 := HT0.out.cell 0
  simp only [List.getElem?_toArray, List.getElem?_cons_zero] at a0
  have KO := Lib.hid (sof_ok c hc (h.below HB0.out) hl hd hp)
  have HRw := Lib.hid (hB.below HB0.out)
  have HM := Lib.hid hm
  clear hc h hl hd hp hB hm
  go_enter Tryz.func39, Tryz.ntmps39
  go_wp2_with fail
  refine KO.out.mono ?_
  rintro e w1 ⟨v, rows, rfl, hg, hrw, hb⟩
  have HB1 := Lib.hid (HB0.out.trans (hb.mono HB0.out.size))
  have HC1 := Lib.hid (HC0.out.below hb HC0.out.lt)
  have HR1 := Lib.hid (HRw.out.below hb)
  have HAny : Hid (rows.any (fun r => cs == r.2.2) = true) := Lib.hid (by
    rw [← hrw] at HM
    obtain ⟨r, hr, e⟩ := List.mem_map.1 HM.out
    exact List.any_eq_true.2 ⟨r, hr, by rw [← e]; exact beq_self_eq_true _⟩)
  obtain ⟨VA, vc, rfl, _⟩ := hg.form
  have KC := Lib.hid (gcontains_ok (w := w1) vc 71 #[.pointer (some ⟨w.heap.size + 1, 0, none⟩)] (fun r => cs == r.2.2) (fun _ _ => rfl) hg (fun W r hr hW => is1_ok (cB := cB) (by
      have := (HC1.out.below hW HC1.out.lt).cell 0
      simp only [List.getElem?_toArray, List.getElem?_cons_zero] at this
      exact this) (HR1.out.below hW) ((hg.rows r hr).1.row.below hW)))
  rw [HAny.out] at KC
  clear hg hrw hb hw0
  go_wp2_with fail
  refine KC.out.mono ?_
  rintro e w2 ⟨rfl, hb2⟩
  have HB2 := Lib.hid (HB1.out.trans (hb2.mono HB1.out.size))
  clear hb2
  go_wp2
  go_ret
  exact ⟨rfl, HB2.out⟩
end Go.Proofs.YtlipnnibagidiaaGreat

/- The reference's Within. -/
namespace Go.Proofs.YtlipnnibagidiaaGreat
open Go.RowKit

theorem mem_drop_cons {zs : List Int} {i : Nat} (h : i < zs.length) (x : Int) : (x ∈ zs.drop i) ↔ (zs[i] = x ∨ x ∈ zs.drop (i + 1)) := by
  rw [List.drop_eq_getElem_cons h, List.mem_cons]
  exact or_congr ⟨fun h => h.symm, fun h => h.symm⟩ Iff.rfl
theorem has_ok {w : World} {A : Option Addr} {zs : List Int} (cap : Nat) (h : Row w A zs) (x : Int) :
    Calls Tryz.prog 70 #[.slice A zs.length cap, .int .i64 x] w fun e w' => e = .returned (.bool (decide (x ∈ zs))) ∧ w = w' := by
  have hlen := h.len
  have H := Lib.hid h
  clear h
  go_enter Tryz.func70, Tryz.ntmps70
  go_wp2
  go_loopg [5] zs.length (fun g v wx => w = wx ∧ ∃ i : Nat, i + g = zs.length ∧ v = .int .i64 i ∧ (x ∈ zs ↔ x ∈ zs.drop i))
  case atStart => exact ⟨rfl, 0, by omega, rfl, Iff.rfl⟩
  case round =>
    obtain ⟨rfl, i, hig, rfl, hinv⟩ := hrel
    have HI := Lib.hid hinv
    clear hinv
    cases gk with
    | zero =>
      have d1 : decide ((i : Int) < zs.length) = false := by simp; omega
      have HN := Lib.hid (show decide (x ∈ zs) = false from decide_eq_false (fun hx => by have := HI.out.1 hx; rw [List.drop_eq_nil_of_le (by omega)] at this; cases this))
      go_wp2
      go_ret
      rw [HN.out]
      exact ⟨rfl, rfl⟩
    | succ k =>
      have hin : i < zs.length := by omega
      have d1 : decide ((i : Int) < zs.length) = true := by simp; omega
      obtain ⟨b, off, hA, hb, hcell⟩ := H.out.at_.resolve_left (by omega)
      subst hA
      have c0 := hcell i hin
      have Hdr := Lib.hid (mem_drop_cons hin x)
      have t1 : (0 : Int) ≤ (i : Int) := by omega
      have t2 : (i : Int) < (zs.length : Int) := by omega
      clear hcell
      generalize zs[i] = y at *
      by_cases hp : y = x
      · subst hp
        have HN := Lib.hid (show decide (y ∈ zs) = true from decide_eq_true (HI.out.2 (Hdr.out.2 (.inl rfl))))
        go_wp2
        go_ret
        rw [HN.out]
        exact ⟨rfl, rfl⟩
      · have b1 : (y == x) = false := beq_eq_false_iff_ne.2 hp
        have Hp := Lib.hid hp
        clear hp
        go_wp2
        go_roundg k
        case measure => omega
        case rel => exact ⟨rfl, i + 1, by omega, by go_num, HI.out.trans (Hdr.out.trans ⟨fun h => h.resolve_left Hp.out, .inr⟩)⟩

theorem within15_ok {w : World} {A B : Option Addr} {zs bs : List Int} (cap capb : Nat) (h : Row w A zs) (k : Row w B bs) :
    Calls Tryz.prog 38 #[.slice A zs.length cap, .slice B bs.length capb] w fun e w' => e = .returned (.bool (zs.all fun x => decide (x ∈ bs))) ∧ w = w' := by
  have hlen := h.len
  have H := Lib.hid h
  have K := Lib.hid k
  clear h k
  go_enter Tryz.func38, Tryz.ntmps38
  go_wp2
  go_loopg [5] zs.length (fun g v wx => w = wx ∧ ∃ i : Nat, i + g = zs.length ∧ v = .int .i64 i ∧ (zs.all fun x => decide (x ∈ bs)) = ((zs.drop i).all fun x => decide (x ∈ bs)))
  case atStart => exact ⟨rfl, 0, by omega, rfl, rfl⟩
  case round =>
    obtain ⟨rfl, i, hig, rfl, hinv⟩ := hrel
    have HI := Lib.hid hinv
    clear hinv
    cases gk with
    | zero =>
      have d1 : decide ((i : Int) < zs.length) = false := by simp; omega
      have HN := Lib.hid (show zs.drop i = [] from List.drop_eq_nil_of_le (by omega))
      go_wp2
      go_ret
      rw [HI.out, HN.out]
      exact ⟨rfl, rfl⟩
    | succ n =>
      have hin : i < zs.length := by omega
      have d1 : decide ((i : Int) < zs.length) = true := by simp; omega
      obtain ⟨b, off, hA, hb, hcell⟩ := H.out.at_.resolve_left (by omega)
      subst hA
      have c0 := hcell i hin
      have hdr : ((zs.drop i).all fun x => decide (x ∈ bs)) = (decide (zs[i] ∈ bs) && ((zs.drop (i + 1)).all fun x => decide (x ∈ bs))) := by rw [List.drop_eq_getElem_cons hin, List.all_cons]
      have Hdr := Lib.hid hdr
      have t1 : (0 : Int) ≤ (i : Int) := by omega
      have t2 : (i : Int) < (zs.length : Int) := by omega
      clear hcell hdr
      generalize zs[i] = y at *
      have Kh := has_ok capb K.out y
      cases hp : decide (y ∈ bs) with
      | true =>
        rw [hp] at Kh Hdr
        clear hp
        go_wp2_with (go_at_call 70; (with_reducible refine Kh.mono ?_); rintro e w1 ⟨rfl, rfl⟩)
        go_roundg n
        case measure => omega
        case rel => exact ⟨rfl, i + 1, by omega, by go_num, by rw [HI.out, Hdr.out, Bool.true_and]⟩
      | false =>
        rw [hp] at Kh Hdr
        clear hp
        go_wp2_with (go_at_call 70; (with_reducible refine Kh.mono ?_); rintro e w1 ⟨rfl, rfl⟩)
        go_ret
        rw [HI.out, Hdr.out, Bool.false_and]
        exact ⟨rfl, rfl⟩

end Go.Proofs.YtlipnnibagidiaaGreat

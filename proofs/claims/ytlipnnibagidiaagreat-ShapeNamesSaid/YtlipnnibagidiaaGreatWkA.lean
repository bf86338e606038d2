/- share.Of, share.Is: the clauses of two shared nodes of a table that is laid. -/
import Derived.Test.YtlipnnibagidiaaGreatRdF
import Derived.Test.YtlipnnibagidiaaGreatGrF
import Derived.Test.YtlipnnibagidiaaGreatShelf
namespace Go.Proofs.YtlipnnibagidiaaGreat
open Go.RowKit Go.Lib
attribute [local go_sem] Oper.semAt_some

def SOfIs (T : List Nd) (x y : Int) (w : World) (e : Ending) (w' : World) : Prop :=
  ∃ v rows, e = .returned (.tuple #[v, .int .i64 0]) ∧ GridV (fun b => w.heap.size ≤ b) w' v rows ∧ rows.map (fun r => r.2.2) = (of2 T x y).getD [] ∧ Below w.heap.size w w'
theorem pair_in64 {T : List Nd} (hl : T.length ≤ 100000) {x y : Int} (hp : (x, y) ∈ pairsL (nodesT T)) : In64 x ∧ In64 y := by
  obtain ⟨m1, m2, _⟩ := (mem_pairs (nodes_sorted T)).1 hp
  have h1 := (mem_nodes m1).1
  have h2 := (mem_nodes m2).1
  have := h1.lo
  have := h1.hi
  have := h2.lo
  have := h2.hi
  unfold In64
  exact ⟨by omega, by omega⟩
set_option maxRecDepth 100000 in
set_option maxHeartbeats 2000000 in
theorem sof_ok {T : List Nd} {w : World} {A : Option Addr} (c : Nat) (hc : T.length ≤ c) (h : Tab w A T) (hl : (nodesT T).length ≤ 500) (hd : laidB T = true) {x y : Int} (hp : (x, y) ∈ pairsL (nodesT T)) :
    Calls Tryz.prog 36 #[.agg #[.slice A T.length c], .int .i64 x, .int .i64 y] w (SOfIs T x y w) := by
  obtain ⟨hx, hy⟩ := pair_in64 h.len hp
  have KA := Lib.hid (fun W (hb : Below w.heap.size w W) => all_ok c hc (h.below hb) hl)
  have HB0 : Hid (Below w.heap.size w (w.alloc (.cells #[.slice A T.length c] 33))) := Lib.hid ((Below.refl _ w).alloc (Nat.le_refl _) _)
  have KB := Lib.hid (KA.out _ HB0.out)
  obtain ⟨kl, hkl⟩ := pair_key_in hx hy
  have hkl := Lib.hid hkl
  have HP := Lib.hid hp
  have HD := Lib.hid hd
  obtain ⟨l, hl2⟩ : ∃ l, of2 T x y = some l := by
    unfold laidB at hd
    simp only [Bool.and_eq_true] at hd
    have := List.all_eq_true.1 hd.2 _ hp
    exact Option.isSome_iff_exists.1 this
  have HO := Lib.hid hl2
  clear hc h hl hd hp hl2
  go_enter Tryz.func36, Tryz.ntmps36
  go_wp2_with fail
  refine KB.out.mono ?_
  rintro e w1 ⟨v, m, rfl, ⟨VA, vn, vc, rfl⟩, hm, hx, hb⟩
  obtain ⟨rows, Mb, n, f, hg, hrw, rfl, hmap, hby⟩ := hx HD.out
  rw [HD.out]
  have HB1 := Lib.hid (HB0.out.trans (hb.mono HB0.out.size))
  obtain ⟨v2, rows2, hf, hg2, _, hr2⟩ := hby.2 _ HP.out
  obtain ⟨hr3, a, n2, c2, rfl⟩ := hr2 l HO.out
  dsimp only at hf
  have hlook := hmap.look pair_key Tryz.underlying114 (zero_rows w1) hkl.out true
  rw [hf] at hlook
  simp only [if_true] at hlook
  have HG := Lib.hid (hg2.mono (N' := fun b => w.heap.size ≤ b) (fun b _ h => Nat.le_trans HB0.out.size h))
  have HR := Lib.hid hr3
  clear hm hx hb hg hrw hmap hby hf hg2 hr2 hr3
  unfold pairKey at hlook
  go_wp2
  refine bodyPost_ret (v := .tuple #[.slice (some a) n2 c2, .int .i64 0]) (by simp [results, Tryz.results36, go_sem]) rfl ?_
  exact ⟨_, rows2, rfl, HG.out, by rw [HR.out, HO.out]; rfl, HB1.out⟩
end Go.Proofs.YtlipnnibagidiaaGreat

/- share.Is: a clause of two shared nodes is one of theirs. -/
namespace Go.Proofs.YtlipnnibagidiaaGreat
open Go.RowKit Go.Lib

theorem row_cells {w : World} {b off : Nat} {zs : List Int} (hc : ∀ i (h : i < zs.length), w.cell? ⟨b, off + i, none⟩ = some (.int .i64 zs[i])) : ∀ j, j < zs.length → w.cell? ⟨b, off + j, none⟩ = some (.int .i64 (zs.getD j 0)) := fun j hj => by
  rw [hc j hj, List.getD_eq_getElem?_getD, List.getElem?_eq_getElem hj]; rfl

theorem equal_ok {w : World} {A B : Option Addr} {xs ys : List Int} (c d : Nat) (h : Row w A xs) (k : Row w B ys) :
    Calls Tryz.prog 50 #[.slice A xs.length c, .slice B ys.length d] w fun e w' => e = .returned (.bool (xs == ys)) ∧ ∃ q, w' = w.drewN q := by
  have hl := h.len
  have kl := k.len
  by_cases hne : xs.length = ys.length
  · rcases h.at_ with h0 | ⟨b, off, rfl, _, hc⟩
    · have hx : xs = [] := List.eq_nil_of_length_eq_zero h0
      have hy : ys = [] := List.eq_nil_of_length_eq_zero (by omega)
      subst hx hy
      exact (Tryz.slices_Equal_int_empty A B c 0 d w (by omega)).mono fun e w' ⟨h1, h2⟩ => ⟨by rw [h1]; rfl, 0, h2⟩
    · rcases k.at_ with k0 | ⟨b2, off2, rfl, _, kc⟩
      · have hx : xs = [] := List.eq_nil_of_length_eq_zero (by omega)
        have hy : ys = [] := List.eq_nil_of_length_eq_zero k0
        subst hx hy
        exact (Tryz.slices_Equal_int_empty _ B c 0 d w (by omega)).mono fun e w' ⟨h1, h2⟩ => ⟨by rw [h1]; rfl, 0, h2⟩
      · refine (Tryz.slices_Equal_int b off xs.length c b2 off2 ys.length d xs ys w (Nat.le_refl _) (Nat.le_refl _) (by omega) (by omega) (row_cells hc) (row_cells kc)).mono fun e w' ⟨h1, h2⟩ => ⟨?_, h2⟩
        rw [h1, List.take_of_length_le (Nat.le_refl _), List.take_of_length_le (Nat.le_refl _)]
  · refine (Tryz.slices_Equal_int_lens A B xs.length c ys.length d w hne).mono fun e w' ⟨h1, h2⟩ => ⟨?_, 0, h2⟩
    have : (xs == ys) = false := beq_eq_false_iff_ne.2 fun h => hne (by rw [h])
    rw [h1, this]

theorem csame2_ok {w : World} {A B : Option Addr} {xs ys : List Int} (c d : Nat) (h : Row w A xs) (k : Row w B ys) :
    Calls Tryz.prog 72 #[.slice A xs.length c, .slice B ys.length d] w fun e w' => e = .returned (.bool (xs == ys)) ∧ ∃ q, w' = w.drewN q := by
  generalize hq : (xs == ys) = q
  have Hq := Lib.hid hq
  have H := Lib.hid h
  have K := Lib.hid k
  clear h k hq
  go_enter Tryz.func72, Tryz.ntmps72
  go_wp2_with (go_at_call 50; refine (equal_ok c d H.out K.out).mono ?_; rintro e w2 ⟨rfl, n2, rfl⟩; rw [Hq.out])
  go_ret
  exact ⟨rfl, n2, rfl⟩
set_option maxHeartbeats 1000000 in
theorem is1_ok {w : World} {p cB : Nat} {B : Option Addr} {cs : List Int} {r : Option Addr × Nat × List Int} (h0 : w.cell? ⟨p, 0, none⟩ = some (.slice B cs.length cB)) (hB : Row w B cs) (hr : Row w r.1 r.2.2) :
    Calls Tryz.prog 71 (#[encR r] ++ #[.pointer (some ⟨p, 0, none⟩)]) w fun e w' => e = .returned (.bool (cs == r.2.2)) ∧ Below w.heap.size w w' := by
  obtain ⟨ra, rc, rl⟩ := r
  dsimp only at hr ⊢
  have KS := Lib.hid (csame2_ok cB rc hB hr)
  obtain ⟨q, hq⟩ : ∃ q, (cs == rl) = q := ⟨_, rfl⟩
  rw [hq] at KS ⊢
  clear hq hB hr
  show Calls Tryz.prog 71 #[.slice ra rl.length rc, .pointer (some ⟨p, 0, none⟩)] w _
  go_enter Tryz.func71, Tryz.ntmps71
  go_wp2_with (go_at_call 72; refine KS.out.mono ?_; rintro e w2 ⟨rfl, n2, rfl⟩)
  go_ret
  exact ⟨rfl, below_drewN (Below.refl _ w) n2⟩
set_option maxRecDepth 100000 in
set_option maxHeartbeats 2000000 in
theorem sis_ok {T : List Nd} {w : World} {A B : Option Addr} {cs : List Int} (c cB : Nat) (hc : T.length ≤ c) (h : Tab w A T) (hl : (nodesT T).length ≤ 500) (hd : laidB T = true) {x y : Int} (hp : (x, y) ∈ pairsL (nodesT T)) (hB : Row w B cs) (hm : cs ∈ (of2 T x y).getD []) :
    Calls Tryz.prog 39 #[.agg #[.slice A T.length c], .int .i64 x, .int .i64 y, .slice B cs.length cB] w (fun e w' => e = .returned (.bool true) ∧ Below w.heap.size w w') := by
  have hclen := hB.len
  obtain ⟨w0, hw0⟩ : ∃ w0, (w.alloc (.cells #[.slice A T.length c] 33)).alloc (.cells #[.slice B cs.length cB] 27) = w0 := ⟨_, rfl⟩
  have HB0 : Hid (Below w.heap.size w w0) := Lib.hid (by rw [← hw0]; exact ((Below.refl _ w).alloc (Nat.le_refl _) _).alloc (by simp) _)
  have HC0 : Hid (Blk w0 (w.heap.size + 1) 27 #[.slice B cs.length cB]) := Lib.hid (by rw [← hw0]; exact Blk.new_at (by simp) _ _)
  have HT0 : Hid (Blk w0 w.heap.size 33 #[.slice A T.length c]) := Lib.hid (by rw [← hw0]; exact (Blk.new w _ _).alloc _)
  have a0 := HT0.out.cell 0
  simp only [List.getElem?_toArray, List.getElem?_cons_zero] at a0
  have KO := Lib.hid (sof_ok c hc (h.below HB0.out) hl hd hp)
  have HRw := Lib.hid (hB.below HB0.out)
  have HM := Lib.hid hm
  clear hc h hl hd hp hB hm
  go_enter Tryz.func39, Tryz.ntmps39
  go_wp2_with fail
  refine KO.out.mono ?_
  rintro e w1 ⟨v, rows, rfl, hg, hrw, hb⟩
  have HB1 := Lib.hid (HB0.out.trans (hb.mono HB0.out.size))
  have HC1 := Lib.hid (HC0.out.below hb HC0.out.lt)
  have HR1 := Lib.hid (HRw.out.below hb)
  have HAny : Hid (rows.any (fun r => cs == r.2.2) = true) := Lib.hid (by
    rw [← hrw] at HM
    obtain ⟨r, hr, e⟩ := List.mem_map.1 HM.out
    exact List.any_eq_true.2 ⟨r, hr, by rw [← e]; exact beq_self_eq_true _⟩)
  obtain ⟨VA, vc, rfl, _⟩ := hg.form
  have KC := Lib.hid (gcontains_ok (w := w1) vc 71 #[.pointer (some ⟨w.heap.size + 1, 0, none⟩)] (fun r => cs == r.2.2) (fun _ _ => rfl) hg (fun W r hr hW => is1_ok (cB := cB) (by
      have := (HC1.out.below hW HC1.out.lt).cell 0
      simp only [List.getElem?_toArray, List.getElem?_cons_zero] at this
      exact this) (HR1.out.below hW) ((hg.rows r hr).1.row.below hW)))
  rw [HAny.out] at KC
  clear hg hrw hb hw0
  go_wp2_with fail
  refine KC.out.mono ?_
  rintro e w2 ⟨rfl, hb2⟩
  have HB2 := Lib.hid (HB1.out.trans (hb2.mono HB1.out.size))
  clear hb2
  go_wp2
  go_ret
  exact ⟨rfl, HB2.out⟩
end Go.Proofs.YtlipnnibagidiaaGreat

/- shape.Is. -/
namespace Go.Proofs.YtlipnnibagidiaaGreat
open Go.RowKit Go.Lib

set_option maxHeartbeats 1000000 in
theorem shis1_ok {w : World} {p cB : Nat} {B : Option Addr} {cs : List Int} {r : Option Addr × Nat × List Int} (h0 : w.cell? ⟨p, 0, none⟩ = some (.slice B cs.length cB)) (hB : Row w B cs) (hr : Row w r.1 r.2.2) :
    Calls Tryz.prog 49 (#[encR r] ++ #[.pointer (some ⟨p, 0, none⟩)]) w fun e w' => e = .returned (.bool (cs == r.2.2)) ∧ Below w.heap.size w w' := by
  obtain ⟨ra, rc, rl⟩ := r
  dsimp only at hr ⊢
  have KS := Lib.hid (equal_ok rc cB hr hB)
  rw [show (cs == rl) = (rl == cs) from BEq.comm]
  obtain ⟨q, hq⟩ : ∃ q, (rl == cs) = q := ⟨_, rfl⟩
  rw [hq] at KS ⊢
  clear hq hB hr
  show Calls Tryz.prog 49 #[.slice ra rl.length rc, .pointer (some ⟨p, 0, none⟩)] w _
  go_enter Tryz.func49, Tryz.ntmps49
  go_wp2_with (go_at_call 50; refine KS.out.mono ?_; rintro e w2 ⟨rfl, n2, rfl⟩)
  go_ret
  exact ⟨rfl, below_drewN (Below.refl _ w) n2⟩
set_option maxRecDepth 100000 in
set_option maxHeartbeats 2000000 in
theorem shis_ok {T : List Nd} {w : World} {A B : Option Addr} {cs : List Int} (c cB : Nat) (hc : T.length ≤ c) (h : Tab w A T) (hw : Well T) (hI : IteOk T) (k : Nat) (hk : k < T.length) (hB : Row w B cs) (hm : cs ∈ shapeP T k) :
    Calls Tryz.prog 22 #[.agg #[.slice A T.length c], .int .i64 (k : Nat), .slice B cs.length cB] w (fun e w' => e = .returned (.bool true) ∧ Below w.heap.size w w') := by
  have hclen := hB.len
  obtain ⟨w0, hw0⟩ : ∃ w0, (w.alloc (.cells #[.slice A T.length c] 33)).alloc (.cells #[.slice B cs.length cB] 27) = w0 := ⟨_, rfl⟩
  have HB0 : Hid (Below w.heap.size w w0) := Lib.hid (by rw [← hw0]; exact ((Below.refl _ w).alloc (Nat.le_refl _) _).alloc (by simp) _)
  have HC0 : Hid (Blk w0 (w.heap.size + 1) 27 #[.slice B cs.length cB]) := Lib.hid (by rw [← hw0]; exact Blk.new_at (by simp) _ _)
  have HT0 : Hid (Blk w0 w.heap.size 33 #[.slice A T.length c]) := Lib.hid (by rw [← hw0]; exact (Blk.new w _ _).alloc _)
  have a0 := HT0.out.cell 0
  simp only [List.getElem?_toArray, List.getElem?_cons_zero] at a0
  have KO := Lib.hid (shof_ok c hc (h.below HB0.out) hw hI k hk)
  have HRw := Lib.hid (hB.below HB0.out)
  have HM := Lib.hid hm
  clear hc h hw hI hk hB hm
  go_enter Tryz.func22, Tryz.ntmps22
  go_wp2_with fail
  refine KO.out.mono ?_
  rintro e w1 ⟨v, rows, rfl, hg, hrw, hb⟩
  have HB1 := Lib.hid (HB0.out.trans (hb.mono HB0.out.size))
  have HC1 := Lib.hid (HC0.out.below hb HC0.out.lt)
  have HR1 := Lib.hid (HRw.out.below hb)
  have HAny : Hid (rows.any (fun r => cs == r.2.2) = true) := Lib.hid (by
    rw [← hrw] at HM
    obtain ⟨r, hr, e⟩ := List.mem_map.1 HM.out
    exact List.any_eq_true.2 ⟨r, hr, by rw [← e]; exact beq_self_eq_true _⟩)
  obtain ⟨VA, vc, rfl, _⟩ := hg.form
  have KC := Lib.hid (gcontains_ok (w := w1) vc 49 #[.pointer (some ⟨w.heap.size + 1, 0, none⟩)] (fun r => cs == r.2.2) (fun _ _ => rfl) hg (fun W r hr hW => shis1_ok (cB := cB) (by
      have := (HC1.out.below hW HC1.out.lt).cell 0
      simp only [List.getElem?_toArray, List.getElem?_cons_zero] at this
      exact this) (HR1.out.below hW) ((hg.rows r hr).1.row.below hW)))
  rw [HAny.out] at KC
  clear hg hrw hb hw0
  go_wp2_with fail
  refine KC.out.mono ?_
  rintro e w2 ⟨rfl, hb2⟩
  have HB2 := Lib.hid (HB1.out.trans (hb2.mono HB1.out.size))
  clear hb2
  go_wp2
  go_ret
  exact ⟨rfl, HB2.out⟩
end Go.Proofs.YtlipnnibagidiaaGreat

/- gantryref14.Rise on a row that rises. -/
namespace Go.Proofs.YtlipnnibagidiaaGreat
open Go.RowKit Go.Lib

set_option maxRecDepth 100000 in
set_option maxHeartbeats 2000000 in
theorem rise14_ok {w : World} {B : Option Addr} {zs : List Int} (c : Nat) (h : Row w B zs) (ho : Ord zs) :
    Calls Tryz.prog 21 #[.slice B zs.length c] w fun e w' => e = .returned (.bool true) ∧ ∃ q, w' = w.drewN q := by
  have hlen := h.len
  have H := Lib.hid h
  have HO := Lib.hid ho
  clear h ho
  go_enter Tryz.func21, Tryz.ntmps21
  go_wp2
  go_loopg [3] zs.length (fun g v wr => ∃ j : Nat, 1 ≤ j ∧ j + g = zs.length + 1 ∧ v = .int .i64 j ∧ ∃ q, wr = w.drewN q)
  case atStart => exact ⟨1, by omega, by omega, rfl, 0, rfl⟩
  case round =>
    obtain ⟨j, hj1, hjg, rfl, q, rfl⟩ := hrel
    by_cases hlt : j < zs.length
    · obtain ⟨gk, rfl⟩ : ∃ g, gk = g + 1 := ⟨gk - 1, by omega⟩
      have d1 : decide ((j : Int) < zs.length) = true := by simp; omega
      have t1 : (0 : Int) ≤ (j : Int) := by omega
      have t2 : (j : Int) < (zs.length : Int) := by omega
      obtain ⟨i, hji⟩ : ∃ i, j = i + 1 := ⟨j - 1, by omega⟩
      have t3 : (0 : Int) ≤ (i : Int) := by omega
      have t4 : (i : Int) < (zs.length : Int) := by omega
      have hw1 : IntKind.i64.wrap ((j : Int) - 1) = (i : Int) := by
        rw [IntKind.wrap_i64]; omega
      obtain ⟨b, off, hA, hbb, hc⟩ := H.out.at_.resolve_left (by omega)
      subst hA
      have y1 : w.cell? ⟨b, off + j, none⟩ = _ := hc j hlt
      have y0 : w.cell? ⟨b, off + i, none⟩ = _ := hc i (by omega)
      have hle : decide (zs[j] ≤ zs[i]) = false := by
        have := List.pairwise_iff_getElem.1 HO.out i j (by omega) hlt (by omega)
        simp
        omega
      generalize zs[j] = z1 at *
      generalize zs[i] = z0 at *
      clear hc hji
      go_wp2
      go_quiet (fail)
      go_wp2
      go_roundg gk
      case measure => omega
      case rel => exact ⟨j + 1, by omega, by omega, by go_num, _, rfl⟩
    · have d1 : decide ((j : Int) < zs.length) = false := by simp; omega
      go_wp2
      go_ret
      exact ⟨rfl, q, rfl⟩
end Go.Proofs.YtlipnnibagidiaaGreat

/- gantryref13.Node. -/
namespace Go.Proofs.YtlipnnibagidiaaGreat
open Go.RowKit Go.Lib

theorem rnode_ok (x : Int) (w : World) : Calls Tryz.prog 51 #[.int .i64 x] w fun e w' => e = .returned (.int .i64 (x / 2)) ∧ w = w' := by
  go_enter Tryz.func51, Tryz.ntmps51
  go_wp2
  go_ret
  exact ⟨rfl, rfl⟩
end Go.Proofs.YtlipnnibagidiaaGreat

/- gantrylaw14.names on a row that names its node. -/
namespace Go.Proofs.YtlipnnibagidiaaGreat
open Go.RowKit Go.Lib

set_option maxRecDepth 100000 in
set_option maxHeartbeats 4000000 in
theorem names_ok {T : List Nd} {w : World} {A B : Option Addr} {zs : List Int} (ct c : Nat) (hT : Tab w A T) (h : Row w B zs) (k : Nat) (hin : ∀ x ∈ zs, InT T x) (hn : ∃ x ∈ zs, NamesL T k x) :
    Calls Tryz.prog 23 #[.agg #[.slice A T.length ct], .int .i64 (k : Nat), .slice B zs.length c] w fun e w' => e = .returned (.bool true) ∧ Below w.heap.size w w' := by
  have hlen := h.len
  have hlt := hT.len
  have HB0 : Hid (Below w.heap.size w (w.alloc (.cells #[.slice A T.length ct] 33))) := Lib.hid ((Below.refl _ w).alloc (Nat.le_refl _) _)
  have HT0 := Lib.hid (Blk.new w 33 #[.slice A T.length ct])
  have H := Lib.hid h
  have HT := Lib.hid hT
  have HIN := Lib.hid hin
  have HN := Lib.hid hn
  have KN := Lib.hid (fun x W => rnode_ok x W)
  clear h hT hin hn
  go_enter Tryz.func23, Tryz.ntmps23
  go_wp2
  go_loopg [7] zs.length (fun g v wr => ∃ i : Nat, i + g = zs.length ∧ v = .int .i64 i ∧ (∃ j, ∃ hj : j < zs.length, i ≤ j ∧ NamesL T k zs[j]) ∧ Below w.heap.size w wr ∧ Blk wr w.heap.size 33 #[.slice A T.length ct])
  case atStart => exact ⟨0, by omega, rfl, (by obtain ⟨x, hx, hx2⟩ := HN.out; obtain ⟨j, hj, rfl⟩ := List.getElem_of_mem hx; exact ⟨j, hj, by omega, hx2⟩), HB0.out, HT0.out⟩
  case round =>
    obtain ⟨i, hig, rfl, ⟨j, hj, hij, hnm⟩, hb, hbt⟩ := hrel
    obtain ⟨gk, rfl⟩ : ∃ g, gk = g + 1 := ⟨gk - 1, by omega⟩
    have hlt : i < zs.length := by omega
    have d1 : decide ((i : Int) < zs.length) = true := by simp; omega
    have t1 : (0 : Int) ≤ (i : Int) := by omega
    have t2 : (i : Int) < (zs.length : Int) := by omega
    obtain ⟨b, off, hA, hbb, hc⟩ := (H.out.below hb).at_.resolve_left (by omega)
    have y0 := hc i hlt
    obtain ⟨x0, x1⟩ := HIN.out zs[i] (List.getElem_mem hlt)
    have c0 := hbt.cell 0
    simp only [List.getElem?_toArray, List.getElem?_cons_zero] at c0
    have HB := Lib.hid hb
    have HBT := Lib.hid hbt
    subst hA
    have HNEXT : Hid (¬ NamesL T k zs[i] → ∃ j, ∃ hj : j < zs.length, i + 1 ≤ j ∧ NamesL T k zs[j]) := Lib.hid fun hne => ⟨j, hj, by
      rcases Nat.lt_or_ge i j with h | h
      · omega
      · obtain rfl : i = j := by omega
        exact absurd hnm hne, hnm⟩
    have HNM : Hid (NamesL T k zs[i] ↔ (zs[i] / 2 = k ∨ (ndAt T (zs[i] / 2)).a0 = k ∨ (ndAt T (zs[i] / 2)).a1 = k)) := Lib.hid Iff.rfl
    clear hc hb hbt hnm hij hj
    generalize zs[i] = x at *
    obtain ⟨n, hn⟩ : ∃ n : Nat, x / 2 = n := ⟨(x / 2).toNat, by omega⟩
    have KX := Lib.hid (KN.out x)
    rw [hn] at KX HNM x1
    have d2 : decide ((n : Int) < 0) = false := by simp
    have d3 : decide (T.length ≤ n) = false := by simp; omega
    have t3 : (0 : Int) ≤ (n : Int) := by omega
    have t4 : (n : Int) < (T.length : Int) := by omega
    obtain ⟨b2, off2, hA2, hbb2, hc2⟩ := (HT.out.below HB.out).at_.resolve_left (by omega)
    have hm := hc2 n (by omega)
    rw [ndAt_nat (by omega)] at HNM
    obtain ⟨z0, z1, z2, z3, z4, z5, z6, z7⟩ := hm.all
    subst hA2
    clear hc2 hm x0
    generalize T[n] = m at *
    clear hn
    go_wp2_with fail
    refine (KX.out _).mono ?_
    rintro e w1 ⟨rfl, rfl⟩
    by_cases e1 : (n : Int) = k
    · have e2 : ((n : Int) == (k : Int)) = true := by simp; omega
      go_wp2
      go_ret
      exact ⟨rfl, HB.out⟩
    · have e2 : ((n : Int) == (k : Int)) = false := by simp; omega
      by_cases e3 : m.a0 = k
      · have e4 : (m.a0 == (k : Int)) = true := by simp; omega
        have HB2 := Lib.hid (HB.out.alloc HB.out.size (.cells #[.int .i8 m.op, .int .i8 m.len, .int .i64 m.a0, .int .i64 m.a1, .int .i64 m.a2, .int .i64 m.sort, .int .i64 m.fn, .int .i64 m.num] 51))
        clear e1 e3
        go_wp2
        go_ret
        exact ⟨rfl, HB2.out⟩
      · have e4 : (m.a0 == (k : Int)) = false := by simp; omega
        by_cases e5 : m.a1 = k
        · have e6 : (m.a1 == (k : Int)) = true := by simp; omega
          have HB2 := Lib.hid (HB.out.alloc HB.out.size (.cells #[.int .i8 m.op, .int .i8 m.len, .int .i64 m.a0, .int .i64 m.a1, .int .i64 m.a2, .int .i64 m.sort, .int .i64 m.fn, .int .i64 m.num] 51))
          clear e1 e3 e5
          go_wp2
          go_ret
          exact ⟨rfl, HB2.out⟩
        · have e6 : (m.a1 == (k : Int)) = false := by simp; omega
          have HX := Lib.hid (HNEXT.out (fun h => by rcases HNM.out.1 h with h | h | h <;> omega))
          have HB2 := Lib.hid (HB.out.alloc HB.out.size (.cells #[.int .i8 m.op, .int .i8 m.len, .int .i64 m.a0, .int .i64 m.a1, .int .i64 m.a2, .int .i64 m.sort, .int .i64 m.fn, .int .i64 m.num] 51))
          have HBT2 := Lib.hid (HBT.out.alloc (.cells #[.int .i8 m.op, .int .i8 m.len, .int .i64 m.a0, .int .i64 m.a1, .int .i64 m.a2, .int .i64 m.sort, .int .i64 m.fn, .int .i64 m.num] 51))
          clear e1 e3 e5
          go_wp2
          go_roundg gk
          case measure => omega
          case rel => exact ⟨i + 1, by omega, by go_num, HX.out, HB2.out, HBT2.out⟩
end Go.Proofs.YtlipnnibagidiaaGreat

/- gantrylaw14.wakes: the table, what its clauses are. -/
namespace Go.Proofs.YtlipnnibagidiaaGreat
open Go.RowKit Go.Lib

/-- The table of wakes. -/
def shA : List Nd := [trueNd, zeroNd, ⟨13, 0, 0, 0, 0, 0, 0, 0⟩, ⟨13, 0, 0, 0, 0, 0, 1, 0⟩, ⟨2, 2, 2, 3, 0, 0, 0, 0⟩]
theorem shA_core : coreB shA = true := by decide +kernel
theorem shA_srt : ∀ n ∈ shA, n.op ≠ 13 → opSort n.op (ndAt shA n.a0).sort (ndAt shA n.a1).sort (ndAt shA n.a2).sort = some n.sort := by decide +kernel
theorem shA_noeq : ∀ n ∈ shA, noeqN shA n := by
  intro n hn
  simp only [shA, List.mem_cons, List.not_mem_nil, or_false] at hn
  rcases hn with rfl | rfl | rfl | rfl | rfl <;> unfold noeqN <;> decide
theorem shA_well : Well shA := ⟨coreB_iff.1 shA_core, fun n hn => shA_srt n hn, shA_noeq⟩
theorem shA_ite : IteOk shA := by
  intro i n hi ho
  have hn := List.mem_of_getElem? hi
  simp only [shA, List.mem_cons, List.not_mem_nil, or_false] at hn
  rcases hn with rfl | rfl | rfl | rfl | rfl <;> exact absurd ho (by decide)
theorem make_is {l m : List Int} (ho : Ord m) (h : ∀ x, x ∈ m ↔ x ∈ l ∧ 0 ≤ x) : makeM l = m := ord_ext (make_ord l) ho fun x => (mem_make l x).trans (h x).symm
theorem shA_c4 : clausesP shA 4 = [[9, 4], [9, 6], [8, 5, 7]] := by decide +kernel
theorem shA_4 : shapeP shA 4 = [[4, 9], [6, 9], [5, 7, 8]] := by
  unfold shapeP
  rw [shA_c4]
  simp only [List.map_cons, List.map_nil]
  rw [make_is (l := [9, 4]) (m := [4, 9]) (by unfold Ord; decide) (fun x => by simp only [List.mem_cons, List.not_mem_nil, or_false]; omega), make_is (l := [9, 6]) (m := [6, 9]) (by unfold Ord; decide) (fun x => by simp only [List.mem_cons, List.not_mem_nil, or_false]; omega), make_is (l := [8, 5, 7]) (m := [5, 7, 8]) (by unfold Ord; decide) (fun x => by simp only [List.mem_cons, List.not_mem_nil, or_false]; omega)]
theorem shA_2 : shapeP shA 2 = [] := by decide +kernel
theorem shA_wf : ∀ n ∈ shA, NdWf n := by
  intro n hn
  simp only [shA, List.mem_cons, List.not_mem_nil, or_false] at hn
  rcases hn with rfl | rfl | rfl | rfl | rfl
  all_goals
    refine ⟨by decide, by decide, fun j => ?_, by decide, by decide, by decide⟩
    unfold Nd.arg
    repeat' split
    all_goals decide
theorem own_tabA {w : World} {B g c : Nat} (h : w.ownsRow B 51 8 (.slice (some ⟨g, 0, none⟩) (2 + 3) c) (2 + 3) (twoNd.flatMap nodeCells ++ (shA.drop 2).flatMap nodeCells)) : Tab w (some ⟨g, 0, none⟩) shA := by
  have e : twoNd.flatMap nodeCells ++ (shA.drop 2).flatMap nodeCells = shA.flatMap nodeCells := rfl
  rw [e] at h
  refine ⟨by decide, .inr ⟨g, 0, rfl, own_lt h, fun i hi => ⟨own_lt h, fun j hj => ?_, shA_wf _ (List.getElem_mem hi)⟩⟩⟩
  have := own_cell nodeCells (fun _ => rfl) h hi hj
  simpa using this
set_option maxRecDepth 100000 in
theorem w14of_ok {w : World} {A : Option Addr} (c : Nat) (hc : 5 ≤ c) (h : Tab w A shA) :
    Calls Tryz.prog 17 #[.agg #[.slice A 5 c], .int .i64 4] w fun e w' => ∃ b off q b2 off2 q2, e = .returned (.tuple #[.slice (some ⟨b, off, none⟩) 3 q, .int .i64 0]) ∧ w'.cell? ⟨b, off, none⟩ = some (.slice (some ⟨b2, off2, none⟩) 2 q2) ∧ w'.cell? ⟨b2, off2, none⟩ = some (.int .i64 4) ∧ w'.cell? ⟨b2, off2 + 1, none⟩ = some (.int .i64 9) ∧ b < w'.heap.size ∧ b2 < w'.heap.size ∧ 3 ≤ q ∧ 2 ≤ q2 ∧ Below w.heap.size w w' := by
  have k := shof_ok (T := shA) c hc h shA_well shA_ite 4 (by decide)
  rw [show ((4 : Nat) : Int) = 4 from rfl, show shA.length = 5 from rfl] at k
  refine k.mono ?_
  clear k
  rintro e w' ⟨v, rows, rfl, hg, hr, hb⟩
  have hr : rows.map (fun r => r.2.2) = [[4, 9], [6, 9], [5, 7, 8]] := hr.trans shA_4
  obtain ⟨x, y, z, hx⟩ : ∃ x y z, rows = [x, y, z] := by
    have h1 := congrArg List.length hr
    rw [List.length_map] at h1
    match rows, h1 with
    | [x, y, z], _ => exact ⟨x, y, z, rfl⟩
  obtain ⟨a, q2, l⟩ := x
  subst hx
  have hl : l = [4, 9] := by
    simp only [List.map_cons, List.cons.injEq] at hr
    exact hr.1
  subst hl
  obtain ⟨VA, q, rfl, _, hq, hat⟩ := hg.form
  obtain ⟨b, off, rfl, _, hlt, hcell⟩ := hat.resolve_left (by simp)
  obtain ⟨hrow, _, hq2⟩ := hg.rows (a, q2, [4, 9]) (by simp)
  obtain ⟨b2, off2, ha, _, hlt2, hcell2⟩ := hrow.at_.resolve_left (by simp)
  simp only at ha
  subst ha
  exact ⟨b, off, q, b2, off2, q2, rfl, hcell 0 (by simp), hcell2 0 (by simp), hcell2 1 (by simp), hlt, hlt2, hq, hq2, hb⟩
theorem w14is_ok {w : World} {A B : Option Addr} (c cB : Nat) (hc : 5 ≤ c) (h : Tab w A shA) (hB : Row w B [5, 7, 8]) :
    Calls Tryz.prog 22 #[.agg #[.slice A 5 c], .int .i64 4, .slice B 3 cB] w fun e w' => e = .returned (.bool true) ∧ Below w.heap.size w w' :=
  by
  have k := shis_ok (T := shA) c cB hc h shA_well shA_ite 4 (by decide) hB (by
    show [5, 7, 8] ∈ shapeP shA 4
    rw [shA_4]
    decide)
  rw [show ((4 : Nat) : Int) = 4 from rfl, show shA.length = 5 from rfl, show [(5 : Int), 7, 8].length = 3 from rfl] at k
  exact k
theorem w14count_ok {w : World} {A : Option Addr} (c : Nat) (hc : 5 ≤ c) (h : Tab w A shA) :
    Calls Tryz.prog 20 #[.agg #[.slice A 5 c], .int .i64 2] w fun e w' => e = .returned (.int .i64 0) ∧ Below w.heap.size w w' := by
  have k := shcount_ok (T := shA) c hc h shA_well shA_ite 2 (by decide)
  rw [show ((2 : Nat) : Int) = 2 from rfl, show shA.length = 5 from rfl, shA_2] at k
  exact k
end Go.Proofs.YtlipnnibagidiaaGreat

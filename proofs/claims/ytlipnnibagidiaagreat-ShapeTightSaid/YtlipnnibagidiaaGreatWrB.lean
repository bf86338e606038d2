/- shape.writer: the literal of a node. -/
import Derived.Test.YtlipnnibagidiaaGreatRdC
import Derived.Test.YtlipnnibagidiaaGreatWaA
namespace Go.Proofs.YtlipnnibagidiaaGreat
def litP (T : List Nd) (id : Int) : Int := if (ndAt T id).op = 1 then 2 * (ndAt T id).a0 + 1 else 2 * id
def negL (x : Int) : Int := if x % 2 = 0 then x + 1 else x - 1
def diffP (T : List Nd) (a b : Int) : Int := litT T (diffNd (baseT T a).1 (baseT T b).1 (difN T a b))
def sameP (T : List Nd) (a b : Int) : Int := litT T (eqNd (min a b) (max a b))
def clausesP (T : List Nd) (id : Int) : List (List Int) :=
  let n := ndAt T id
  let t := litP T id
  let a := litP T n.a0
  let b := litP T n.a1
  let c := litP T n.a2
  if n.op = 0 then [[2 * id]]
  else if n.op = 2 then [[negL t, a], [negL t, b], [t, negL a, negL b]]
  else if n.op = 3 then [[t, negL a], [t, negL b], [negL t, a, b]]
  else if n.op = 6 then (if (ndAt T n.a0).sort = 0 then [[negL t, negL a, b], [negL t, a, negL b], [t, a, b], [t, negL a, negL b]] else [])
  else if n.op = 7 then
    (if n.sort = 0 then [[negL t, negL a, b], [negL t, a, c], [t, negL a, negL b], [t, a, negL c]]
    else if n.sort = 1 then [[negL a, diffP T id n.a1], [negL a, diffP T n.a1 id], [a, diffP T id n.a2], [a, diffP T n.a2 id]]
    else [[negL a, sameP T id n.a1], [a, sameP T id n.a2]])
  else []
def shapeP (T : List Nd) (id : Int) : List (List Int) := (clausesP T id).map makeM
theorem negL_facts {x : Int} (h : 0 ≤ x) : 0 ≤ negL x ∧ negL x / 2 = x / 2 ∧ negL x % 2 = 1 - x % 2 := by
  unfold negL
  split <;> omega
theorem litP_facts {T : List Nd} (h : Well T) {id : Int} (h0 : 0 ≤ id) (h1 : id < T.length) (hs : (ndAt T id).sort = 0) : 0 ≤ litP T id ∧ litP T id / 2 < T.length ∧ (ndAt T (litP T id / 2)).sort = 0 ∧ (ndAt T (litP T id / 2)).op ≠ 1 ∧ ((ndAt T id).op ≠ 1 → litP T id = 2 * id) ∧ ((ndAt T id).op = 1 → litP T id = 2 * (ndAt T id).a0 + 1 ∧ (ndAt T id).a0 < id) := by
  unfold litP
  by_cases ho : (ndAt T id).op = 1
  · rw [if_pos ho]
    have hm := ndAt_mem h0 h1
    obtain ⟨k, hk, hkn, hst⟩ := h.core.ok.stands hm
    have ha := hst.one (.inl ho)
    have hki : (k : Int) = id := by
      obtain ⟨ak, rfl⟩ : ∃ n : Nat, id = n := ⟨id.toNat, by omega⟩
      rw [ndAt_nat (by omega)] at hkn
      obtain ⟨_, e2⟩ := List.getElem?_eq_some_iff.1 hkn
      have := (List.getElem_inj (i := k) (j := ak) (h₀ := hk) (h₁ := by omega) h.core.ok.once).1 e2
      omega
    have hr := h.srt _ hm (by omega)
    rw [ho] at hr
    unfold opSort at hr
    simp at hr
    have hf := h.core.fit _ hm
    unfold fitB at hf
    rw [ho] at hf
    simp at hf
    have e1 : (2 * (ndAt T id).a0 + 1) / 2 = (ndAt T id).a0 := by omega
    rw [e1]
    exact ⟨by omega, by omega, hr.1, hf, fun h => absurd ho h, fun _ => ⟨rfl, by omega⟩⟩
  · rw [if_neg ho]
    have e1 : 2 * id / 2 = id := by omega
    rw [e1]
    exact ⟨by omega, h1, hs, ho, fun _ => rfl, fun h => absurd h ho⟩
end Go.Proofs.YtlipnnibagidiaaGreat
namespace Go.Proofs.YtlipnnibagidiaaGreat
open Go.RowKit Go.Lib
def bareP (T : List Nd) (k : Nat) : Int × Bool := if (ndAt T k).op = 1 then ((ndAt T k).a0, true) else (k, false)
theorem or_one (a : Int) (h0 : 0 ≤ a) (ha : a < 4611686018427387904) : bits .or .i64 (2 * a) 1 = 2 * a + 1 := by
  obtain ⟨n, rfl⟩ : ∃ n : Nat, a = n := ⟨a.toNat, by omega⟩
  have h := i64_or_nat (2 * n) 1 (by omega) (by omega)
  have e : (2 * n ||| 1 : Nat) = 2 * n + 1 := by
    have := Nat.two_pow_add_eq_or_of_lt (i := 1) (b := 1) (by decide) n
    rw [Nat.pow_one] at this
    exact this.symm
  rw [e] at h
  push_cast at h
  exact h
theorem atom1_ok (k : Int) (hk : 0 ≤ k ∧ k ≤ 1000000) (w : World) : Calls Tryz.prog 127 #[.int .i64 k, .bool true] w fun e w' => e = .returned (.int .i64 (2 * k + 1)) ∧ w = w' := by
  have h2 : wrap64 (k * 2 ^ 1) = 2 * k := by unfold wrap64; omega
  have h3 : bits .or .i64 (2 * k) 1 = 2 * k + 1 := or_one k hk.1 (by omega)
  go_enter Tryz.func127, Tryz.ntmps127
  go_wp2
  go_ret
  refine ⟨ret_int ?_, rfl⟩
  first
    | exact h3
    | (rw [← h3]; congr 1; omega)
set_option maxRecDepth 100000 in
set_option maxHeartbeats 2000000 in
theorem bare_ok {T : List Nd} {w : World} {A : Option Addr} {p c : Nat} (h0 : w.cell? ⟨p, 0, none⟩ = some (.slice A T.length c)) (h : Tab w A T) (hT : TabOk T) (hf : ∀ n ∈ T, fitB T n = true) (k : Nat) (hk : k < T.length) :
    Calls Tryz.prog 177 #[.pointer (some ⟨p, 0, none⟩), .int .i64 (k : Nat)] w fun e w' => e = .returned (.tuple #[.int .i64 (bareP T k).1, .bool (bareP T k).2]) ∧ w = w' := by
  have hlen := h.len
  obtain ⟨b, off, hA, hbb, hcell⟩ := h.at_.resolve_left (by omega)
  have HO : Hid (∀ i : Nat, i < T.length → w.cell? ⟨b, off + i * 8, none⟩ = some (.int .i8 (ndAt T i).op) ∧ w.cell? ⟨b, off + i * 8 + 2, none⟩ = some (.int .i64 (ndAt T i).a0)) := Lib.hid (fun i hi => by
    have := (hcell i hi).all
    rw [← ndAt_nat hi] at this
    exact ⟨this.1, this.2.2.1⟩)
  have hst := hT.st k T[k] (List.getElem?_eq_getElem hk)
  have hfk := hf T[k] (List.getElem_mem hk)
  have hnd : ndAt T k = T[k] := ndAt_nat hk
  have HG : Hid (bareP T k = if (ndAt T k).op = 1 then ((ndAt T k).a0, true) else ((k : Int), false)) := Lib.hid rfl
  subst hA
  obtain ⟨y0, y2⟩ := HO.out k hk
  have t1 : (0 : Int) ≤ (k : Int) := by omega
  have t2 : (k : Int) < (T.length : Int) := by omega
  by_cases h1 : (ndAt T k).op = 1
  · have hA0 : 0 ≤ (ndAt T k).a0 ∧ (ndAt T k).a0 < k := by rw [hnd] at h1 ⊢; exact hst.one (.inl h1)
    have hop : (ndAt T (ndAt T k).a0).op ≠ 1 := by
      rw [hnd] at h1 ⊢
      unfold fitB at hfk
      simp [h1] at hfk
      exact hfk
    have HG1 : Hid (bareP T k = ((ndAt T k).a0, true)) := Lib.hid (by rw [HG.out, if_pos h1])
    obtain ⟨j, hj⟩ : ∃ j : Nat, (ndAt T k).a0 = j := ⟨(ndAt T k).a0.toNat, by omega⟩
    rw [hj] at hop HG1 y2
    rw [h1] at y0
    have hjl : j < T.length := by omega
    obtain ⟨z0, z2⟩ := HO.out j hjl
    have e1 : ((ndAt T j).op == 1) = false := beq_eq_false_iff_ne.2 hop
    have u1 : (0 : Int) ≤ (j : Int) := by omega
    have u2 : (j : Int) < (T.length : Int) := by omega
    clear hA0 hop hj h1 hnd hst hfk HG hcell h hT hf HO z2
    generalize (ndAt T j).op = jo at *
    go_enter Tryz.func177, Tryz.ntmps177
    go_wp2
    go_loopg [1, 6] 1 (fun g v vn W => w = W ∧ ((g = 1 ∧ v = .int .i64 (k : Nat) ∧ vn = .bool false) ∨ (g = 0 ∧ v = .int .i64 (j : Nat) ∧ vn = .bool true)))
    case atStart => exact ⟨rfl, .inl ⟨rfl, rfl, rfl⟩⟩
    case round =>
      obtain ⟨rfl, ⟨rfl, rfl, rfl⟩ | ⟨rfl, rfl, rfl⟩⟩ := hrel
      · go_wp2
        go_roundg 0
        case measure => omega
        case rel => exact ⟨rfl, .inr ⟨rfl, rfl, rfl⟩⟩
      · go_wp2
        refine bodyPost_ret (v := .tuple #[.int .i64 (j : Nat), .bool true]) (by simp [results, Tryz.results177, go_sem]) rfl ?_
        rw [HG1.out]
        exact ⟨rfl, rfl⟩
  · have e1 : ((ndAt T k).op == 1) = false := beq_eq_false_iff_ne.2 h1
    have HG1 : Hid (bareP T k = ((k : Int), false)) := Lib.hid (by rw [HG.out, if_neg h1])
    clear h1 hnd hst hfk HG hcell h hT hf HO
    generalize (ndAt T k).op = ko at *
    go_enter Tryz.func177, Tryz.ntmps177
    go_wp2
    go_loopg [1, 6] 1 (fun g v vn W => w = W ∧ v = .int .i64 (k : Nat) ∧ vn = .bool false)
    case atStart => exact ⟨rfl, rfl, rfl⟩
    case round =>
      obtain ⟨rfl, rfl, rfl⟩ := hrel
      go_wp2
      refine bodyPost_ret (v := .tuple #[.int .i64 (k : Nat), .bool false]) (by simp [results, Tryz.results177, go_sem]) rfl ?_
      rw [HG1.out]
      exact ⟨rfl, rfl⟩
theorem bareP_lit {T : List Nd} (h : Well T) {k : Nat} (hk : k < T.length) (hs : (ndAt T k).sort = 0) : ∃ j : Nat, (bareP T k).1 = j ∧ j < T.length ∧ (ndAt T j).sort = 0 ∧ litP T k = (if (bareP T k).2 then 2 * (j : Int) + 1 else 2 * (j : Int)) := by
  obtain ⟨g1, g2, g3, g4, g5, g6⟩ := litP_facts h (id := (k : Int)) (by omega) (by omega) hs
  unfold bareP
  by_cases ho : (ndAt T k).op = 1
  · obtain ⟨e, ha⟩ := g6 ho
    rw [e] at g1 g2 g3
    rw [if_pos ho]
    have e1 : (2 * (ndAt T k).a0 + 1) / 2 = (ndAt T k).a0 := by omega
    rw [e1] at g2 g3
    refine ⟨(ndAt T k).a0.toNat, by show (ndAt T k).a0 = _; omega, by omega, ?_, ?_⟩
    · rw [show (((ndAt T k).a0.toNat : Nat) : Int) = (ndAt T k).a0 by omega]; exact g3
    · rw [e, if_pos rfl]; omega
  · rw [if_neg ho]
    exact ⟨k, rfl, hk, hs, by rw [g5 ho]; rfl⟩
set_option maxRecDepth 100000 in
set_option maxHeartbeats 2000000 in
theorem alit_ok {T : List Nd} {w : World} {A : Option Addr} (c : Nat) (hc : T.length ≤ c) (h : Tab w A T) (hw : Well T) (k : Nat) (hk : k < T.length) (hs : (ndAt T k).sort = 0) :
    Calls Tryz.prog 159 #[.agg #[.slice A T.length c], .int .i64 (k : Nat)] w fun e w' => e = .returned (.tuple #[.int .i64 (litP T k), .int .i64 0]) ∧ Below w.heap.size w w' := by
  have hlen := h.len
  have HB0 : Hid (Below w.heap.size w (w.alloc (.cells #[.slice A T.length c] 33))) := Lib.hid ((Below.refl _ w).alloc (Nat.le_refl _) _)
  have HT0 := Lib.hid (Blk.new w 33 #[.slice A T.length c])
  obtain ⟨j, hj, hjl, hjs, hlit⟩ := bareP_lit hw hk hs
  have KC := Lib.hid (check_ok c hc (h.below HB0.out))
  have KB := Lib.hid (fun W (hW : Below w.heap.size w W) (h0 : W.cell? ⟨w.heap.size, 0, none⟩ = some (.slice A T.length c)) => bare_ok h0 (h.below hW) hw.core.ok hw.core.fit k hk)
  have HTo := Lib.hid hw.core.ok
  have H := Lib.hid h
  have HK := Lib.hid hk
  have HS := Lib.hid hs
  have HJ := Lib.hid hjl
  have HJs := Lib.hid hjs
  have HLit := Lib.hid hlit
  obtain ⟨⟨jv, ng⟩, hb⟩ : ∃ p, bareP T k = p := ⟨_, rfl⟩
  rw [hb] at hj KB HLit
  dsimp only at hj KB HLit
  subst hj
  have x0 := HT0.out.cell 0
  simp only [List.getElem?_toArray, List.getElem?_cons_zero] at x0
  have dk : decide ((k : Int) < 0) = false := by simp
  have dk2 : decide ((k : Int) ≥ (T.length : Int)) = false := by simp; omega
  have dk3 : decide (T.length ≤ k) = false := by simp; omega
  clear hc h hw hk hs hjl hjs hlit hb
  go_enter Tryz.func159, Tryz.ntmps159
  go_wp2_with fail
  refine KC.out.mono ?_
  rintro e w1 ⟨r, rfl, hr, hb⟩
  obtain rfl : r = true := hr.2 HTo.out
  have HB1 := Lib.hid (HB0.out.trans (hb.mono HB0.out.size))
  have HT1 := Lib.hid (HT0.out.below hb HT0.out.lt)
  have x1 := HT1.out.cell 0
  simp only [List.getElem?_toArray, List.getElem?_cons_zero] at x1
  clear hr hb x0 KC
  go_wp2_with fail
  refine (KB.out w1 HB1.out x1).mono ?_
  rintro e w2 ⟨rfl, rfl⟩
  obtain ⟨b, off, hA, hbb, hcell⟩ := (H.out.below HB1.out).at_.resolve_left (by have := HK.out; omega)
  have y5 := (hcell k HK.out).all.2.2.2.2.2.1
  have z5 := (hcell j HJ.out).all.2.2.2.2.2.1
  rw [← ndAt_nat HK.out, HS.out] at y5
  rw [← ndAt_nat HJ.out, HJs.out] at z5
  have HA := Lib.hid hA
  subst hA
  have t1 : (0 : Int) ≤ (k : Int) := by omega
  have t2 : (k : Int) < (T.length : Int) := by have := HK.out; omega
  have t3 : (0 : Int) ≤ (j : Int) := by omega
  have t4 : (j : Int) < (T.length : Int) := by have := HJ.out; omega
  have hj6 : 0 ≤ (j : Int) ∧ (j : Int) ≤ 1000000 := by omega
  have HJ6 := Lib.hid hj6
  clear hcell hj6 KB
  cases ng with
  | false =>
    have HL : Hid (litP T k = 2 * (j : Int)) := Lib.hid HLit.out
    clear HLit
    go_wp2_with fail
    refine (atom_ok _ HJ6.out _).mono ?_
    rintro e w3 ⟨rfl, rfl⟩
    go_wp2
    refine bodyPost_ret (v := .tuple #[.int .i64 (2 * (j : Int)), .int .i64 0]) (by simp [results, Tryz.results159, go_sem]) rfl ?_
    rw [HL.out]
    exact ⟨rfl, HB1.out⟩
  | true =>
    have HL : Hid (litP T k = 2 * (j : Int) + 1) := Lib.hid HLit.out
    clear HLit
    go_wp2_with fail
    refine (atom1_ok _ HJ6.out _).mono ?_
    rintro e w3 ⟨rfl, rfl⟩
    go_wp2
    refine bodyPost_ret (v := .tuple #[.int .i64 (2 * (j : Int) + 1), .int .i64 0]) (by simp [results, Tryz.results159, go_sem]) rfl ?_
    rw [HL.out]
    exact ⟨rfl, HB1.out⟩
structure WrS (W : World) (r : Nat) (A : Option Addr) (T : List Nd) (c id : Nat) (ov : Value) (rows : List (Option Addr × Nat × List Int)) (bad : Bool) : Prop where
  blk : Blk W r 92 #[.slice A T.length c, .int .i64 id, ov, .bool bad]
  own : W.ownsRow (r + 1) 27 1 ov rows.length (rows.map encR)
  rn : RowsN (fun b => r + 1 ≤ b ∧ some b ≠ ov.ownBlock) W rows
  tab : Tab W A T
  an : ∀ b, A = some b → 0 < T.length → b.block < r
  len : rows.length ≤ 1000
theorem WrS.keep {W W2 : World} {r : Nat} {A : Option Addr} {T : List Nd} {c id : Nat} {ov : Value} {rows : List (Option Addr × Nat × List Int)} {bad : Bool} (h : WrS W r A T c id ov rows bad) (hb : Below W.heap.size W W2) : WrS W2 r A T c id ov rows bad :=
  ⟨h.blk.below hb h.blk.lt, own_kept h.own (Kept.of_below (S := fun _ => False) hb) (fun _ _ hf => hf), h.rn.kept (Kept.of_below (S := fun _ => False) hb) (fun _ _ _ hf => hf), h.tab.below hb, h.an, h.len⟩
theorem WrS.far {W W2 : World} {r g : Nat} {A : Option Addr} {T : List Nd} {c id : Nat} {ov : Value} {rows : List (Option Addr × Nat × List Int)} {bad : Bool} (h : WrS W r A T c id ov rows bad) (hk : Kept (fun b => b = g) W W2) (hg : W.heap.size ≤ g) : WrS W2 r A T c id ov rows bad :=
  h.keep (hk.below (Nat.le_refl _) (fun k e => by rw [e]; exact hg))
theorem makeM_pos {zs : List Int} (h : ∀ x ∈ zs, 0 ≤ x) : makeM zs = Lib.compact (zs.mergeSort fun x y => decide (x ≤ y)) := by
  unfold makeM
  rw [List.filter_eq_self.2]
  intro x hx
  have := h x hx
  simp
  omega
theorem WrS.push {w2 w3 : World} {r g g2 n cap3 : Nat} {A : Option Addr} {T : List Nd} {c id : Nat} {ov : Value} {rows : List (Option Addr × Nat × List Int)} {bad : Bool} {cs : List Int} {o : Obj} (h : WrS w2 r A T c id ov rows bad) (hr9 : rows.length ≤ 900) (ho : OwnI w2 (r + 1) g n cs) (hl : cs.length ≤ n) (hl2 : cs.length ≤ 100000)
    (hown : w3.ownsRow (r + 1) 27 1 (.slice (some ⟨g2, 0, none⟩) (rows.length + 1) cap3) (rows.length + 1) (rows.map encR ++ #[Value.slice (some ⟨g, 0, none⟩) cs.length n].toList)) (hg : (w2.alloc o).grownBy w3 ov.ownBlock) (hat : ov.ownBlock = some g2 ∨ g2 = (w2.alloc o).heap.size) :
    WrS (w3.setCell ⟨r, 2, none⟩ (.slice (some ⟨g2, 0, none⟩) (rows.length + 1) cap3)) r A T c id (.slice (some ⟨g2, 0, none⟩) (rows.length + 1) cap3) (rows ++ [(some ⟨g, 0, none⟩, n, cs)]) bad ∧ Below r w2 (w3.setCell ⟨r, 2, none⟩ (.slice (some ⟨g2, 0, none⟩) (rows.length + 1) cap3)) := by
  have hk0 : Kept (fun b => some b = ov.ownBlock) w2 (w2.alloc o) := Kept.of_below (S := fun b => some b = ov.ownBlock) ((Below.refl w2.heap.size w2).alloc (Nat.le_refl _) _)
  have hk := hk0.grown hg (fun k e => .inl e.symm)
  have hob : ∀ b, some b = ov.ownBlock → r + 1 ≤ b := fun b e => (h.own.lt b e.symm).1
  have hrl := h.blk.lt
  have hsz : (w2.alloc o).heap.size = w2.heap.size + 1 := by simp
  have hs := Kept.set1 w3 r 2 (.slice (some ⟨g2, 0, none⟩) (rows.length + 1) cap3)
  have hgl := own_lt ho
  have hgb := (ho.lt g rfl).1
  have hgo : ov.ownBlock ≠ some g := own_own_ne ho h.own (by decide) rfl
  have hgg : g ≠ g2 := fun e => by
    rcases hat with h1 | h1
    · exact hgo (by rw [h1, e])
    · omega
  have hg2 : r + 1 ≤ g2 := (hown.lt g2 rfl).1
  have hb1 := (h.blk.kept hk (fun e => by have := hob _ e; omega)).set_ 2 (.slice (some ⟨g2, 0, none⟩) (rows.length + 1) cap3)
  simp only [List.setIfInBounds_toArray, List.set_cons_zero, List.set_cons_succ] at hb1
  have hlen : (rows ++ [((some ⟨g, 0, none⟩ : Option Addr), n, cs)]).length = rows.length + 1 := by simp
  have hmap : (rows ++ [((some ⟨g, 0, none⟩ : Option Addr), n, cs)]).map encR = rows.map encR ++ #[Value.slice (some ⟨g, 0, none⟩) cs.length n].toList := by rw [List.map_append]; rfl
  have hrow : RowN (fun b => r + 1 ≤ b ∧ some b ≠ ov.ownBlock ∧ b ≠ g2) w2 (some ⟨g, 0, none⟩) cs := ⟨hl2, .inr ⟨g, 0, rfl, ⟨hgb, fun e => hgo e.symm, hgg⟩, hgl, fun i hi => by
    have := ho.cells (g := g) rfl i (.int .i64 cs[i]) (by rw [List.getElem?_map, List.getElem?_eq_getElem hi]; rfl)
    rw [addr_add] at this
    rw [Nat.zero_add]
    exact this⟩⟩
  have hrn : RowsN (fun b => r + 1 ≤ b ∧ some b ≠ ov.ownBlock ∧ b ≠ g2) w2 (rows ++ [((some ⟨g, 0, none⟩ : Option Addr), n, cs)]) := fun q hq => by
    rcases List.mem_append.1 hq with hq | hq
    · obtain ⟨h1, h2⟩ := h.rn q hq
      refine ⟨h1.mono fun b hb hN => ⟨hN.1, hN.2, fun e => ?_⟩, h2⟩
      rcases hat with h3 | h3
      · exact hN.2 (by rw [h3, e])
      · omega
    · rw [List.mem_singleton.1 hq]
      exact ⟨hrow, (fun e => by cases e), hl⟩
  have hrn3 := (hrn.kept hk (fun b _ hN e => hN.2.1 e)).kept hs (fun b _ hN e => by have := hN.1; omega)
  refine ⟨⟨hb1, ?_, hrn3.mono (fun b _ hN => ⟨hN.1, fun e => hN.2.2 (by injection e)⟩), ?_, h.an, by rw [hlen]; omega⟩, ?_⟩
  · rw [hlen, hmap]
    exact own_kept hown hs (fun b e e2 => by injection e with e; have e3 : g2 = b := e; have e4 : b = r := e2; omega)
  · exact (h.tab.keptS hk (fun b e h0 e2 => by have := h.an b e h0; have := hob _ e2; omega)).keptS hs (fun b e h0 e2 => by have := h.an b e h0; have e3 : b.block = r := e2; omega)
  · exact ((hk.below (B := r) (by omega) (fun k e => by have := hob k e; omega))).setCell (Nat.le_refl _) _
set_option maxRecDepth 100000 in
set_option maxHeartbeats 4000000 in
theorem wrput_ok {w : World} {r c id : Nat} {A : Option Addr} {T : List Nd} {ov : Value} {rows : List (Option Addr × Nat × List Int)} {bad : Bool} (h : WrS w r A T c id ov rows bad) (hr9 : rows.length ≤ 900) {zs : List Int} (hz : ∀ x ∈ zs, 0 ≤ x) (hn : zs.length ≤ 3) :
    Calls Tryz.prog 126 #[.pointer (some ⟨r, 0, none⟩), .slice (some ⟨w.heap.size, 0, none⟩) zs.length zs.length] (w.alloc (.cells (zs.map (Value.int .i64)).toArray 3))
      (fun e w' => e = .returned (.tuple #[]) ∧ (∃ ov', WrS w' r A T c id ov' (rows ++ [(some ⟨w.heap.size, 0, none⟩, zs.length, makeM zs)]) bad) ∧ Below r w w') := by
  obtain ⟨j0, ji0, jz0, jz1, jz2⟩ := info_parts slice_info
  obtain ⟨g, hg⟩ : ∃ g, w.heap.size = g := ⟨_, rfl⟩
  obtain ⟨w0, hw0⟩ : ∃ w0, w.alloc (.cells (zs.map (Value.int .i64)).toArray 3) = w0 := ⟨_, rfl⟩
  have HB0 : Hid (Below w.heap.size w w0) := Lib.hid (by rw [← hw0]; exact (Below.refl _ w).alloc (Nat.le_refl _) _)
  have hown0 : OwnI w0 (r + 1) g zs.length zs := by
    rw [← hw0, ← hg]
    unfold OwnI
    have := World.ownsRow_lit (base := r + 1) (e := 3) (size := 1) w (zs.map (Value.int .i64)).toArray zs.length (by have := h.blk.lt; omega) (by unfold maxLen; omega) (by simp)
    simpa using this
  have KS := Lib.hid (sort_own hown0 (by omega))
  have HW := Lib.hid h
  have HM : Hid (makeM zs = Lib.compact (zs.mergeSort fun x y => decide (x ≤ y))) := Lib.hid (makeM_pos hz)
  have hsl : (zs.mergeSort fun x y => decide (x ≤ y)).length = zs.length := List.length_mergeSort _
  have HSl := Lib.hid hsl
  have HG := Lib.hid hg
  have HRl := Lib.hid h.blk.lt
  rw [hg, hw0]
  obtain ⟨n, hn2⟩ : ∃ n, zs.length = n := ⟨_, rfl⟩
  rw [hn2] at KS HSl ⊢
  rw [hn2] at hn
  generalize (zs.mergeSort fun x y => decide (x ≤ y)) = ss at *
  clear hown0 h hz hsl hn2 hw0 hg
  go_enter Tryz.func126, Tryz.ntmps126
  go_wp2_with fail
  refine KS.out.mono ?_
  rintro e w1 ⟨rfl, hown1, hgr⟩
  have hk01 : Kept (fun b => b = g) w0 w1 := (Kept.refl (fun b => b = g) w0).grown hgr (fun k e => by injection e with e; exact .inl e.symm)
  have HB1 : Hid (Below w.heap.size w w1) := Lib.hid (HB0.out.trans (hk01.below HB0.out.size (fun k e => by rw [e, HG.out]; exact Nat.le_refl _)))
  have HS1 := Lib.hid (HW.out.keep HB1.out)
  have x2 : w1.cell? ⟨r, 2, none⟩ = some ov := HS1.out.blk.cell 2
  have KC := Lib.hid (compact_own (w := w1.drew) (base := r + 1) (g := g) (cap := n) (zs := ss) hown1 (by rw [HSl.out]; omega))
  rw [HSl.out] at KC
  clear hown1 hgr hk01
  have hrl9 : rows.length ≤ 900 := hr9
  go_upto_region 1 with (fail)
  go_region_law
    (first
      | (refine step_push _ rfl (.tmp 10) (.tmp 13) 46 rfl (r + 1) 27 j0 (.slice none 0 0) 1 24 Tryz.underlying46 ji0 jz0 jz1 jz2 rfl (by decide) ov rows.length (rows.map encR) rfl (HS2.out.own.alloc _) w2.heap.size #[.slice (some ⟨g, 0, none⟩) (Lib.compact ss).length n] rfl (Blk.new _ _ _) rfl (by simp [Value.oneCell']) (by omega) (by omega) HSz2.out (fun g2 cap3 w3 hown3 hgrow hat hlt1 => ?_); have HO3 := Lib.hid hown3; have HG3 := Lib.hid hgrow; have HA3 := Lib.hid hat; have hbk := HS2.out.blk.alloc (.cells #[.slice (some ⟨g, 0, none⟩) (Lib.compact ss).length n] 27); have hb3 := hbk.grown hgrow (fun e => by have := (HS2.out.own.lt r e.symm).1; omega); have q2 : w3.cell? ⟨r, 2, none⟩ = some ov := hb3.cell 2; have q3 := hb3.frozen 2; clear hown3 hgrow hat hlt1 hbk hb3)
      | (rw [if_pos (by rfl)]; go_simp; go_at_call 158; refine KC.out.mono ?_; rintro e w2 ⟨rfl, hown2, hgr2⟩; have HO2 := Lib.hid hown2; have hb2 : Below w.heap.size w w2 := HB1.out.trans (((Kept.refl (fun b => b = g) w1).grown (grown_undrew hgr2) (fun k e => by injection e with e; exact .inl e.symm)).below HB1.out.size (fun k e => by rw [e, HG.out]; exact Nat.le_refl _)); have HB2 := Lib.hid hb2; have HS2 := Lib.hid (HW.out.keep hb2); have y2 : w2.cell? ⟨r, 2, none⟩ = some ov := HS2.out.blk.cell 2; have y3 : (w2.alloc (.cells #[.slice (some ⟨g, 0, none⟩) (Lib.compact ss).length n] 27)).cell? ⟨r, 2, none⟩ = some ov := (HS2.out.blk.alloc (.cells #[.slice (some ⟨g, 0, none⟩) (Lib.compact ss).length n] 27)).cell 2; have HSz2 : Hid (r + 1 ≤ w2.heap.size) := Lib.hid (HS2.out.blk.lt); clear hown2 hgr2 hb2))
  all_goals
    have hp := WrS.push HS2.out hr9 HO2.out (by rw [← HSl.out]; exact compact_len _) (by have := compact_len ss; rw [HSl.out] at this; omega) HO3.out HG3.out HA3.out
    have HP := Lib.hid hp
    have hcl : Hid (makeM zs = Lib.compact ss) := HM
    clear hp
    go_wp2
    refine bodyPost_end (results_none rfl _ _ _) rfl ⟨rfl, ⟨_, by rw [hcl.out]; exact HP.out.1⟩, (HB2.out.mono (Nat.le_of_lt HRl.out)).trans HP.out.2⟩
theorem WrS.setb {W : World} {r : Nat} {A : Option Addr} {T : List Nd} {c id : Nat} {ov : Value} {rows : List (Option Addr × Nat × List Int)} {bad : Bool} (h : WrS W r A T c id ov rows bad) (b : Bool) :
    WrS (W.setCell ⟨r, 3, none⟩ (.bool b)) r A T c id ov rows b ∧ Below r W (W.setCell ⟨r, 3, none⟩ (.bool b)) := by
  have hs := Kept.set1 W r 3 (.bool b)
  have hb1 := h.blk.set_ 3 (.bool b)
  simp only [List.setIfInBounds_toArray, List.set_cons_zero, List.set_cons_succ] at hb1
  exact ⟨⟨hb1, own_kept h.own hs (fun k e e2 => by have := (h.own.lt k e).1; have e3 : k = r := e2; omega), h.rn.kept hs (fun k _ hN e => by have := hN.1; have e3 : k = r := e; omega), h.tab.keptS hs (fun k e h0 e2 => by have := h.an k e h0; have e3 : k.block = r := e2; omega), h.an, h.len⟩, (Below.refl r W).setCell (Nat.le_refl _) _⟩
set_option maxRecDepth 100000 in
theorem wneg_ok (x : Int) (w : World) : Calls Tryz.prog 129 #[.int .i64 x] w fun e w' => e = .returned (.int .i64 (negG x)) ∧ w = w' := by
  have KN := Lib.hid (fun W => neg_ok x W)
  go_enter Tryz.func129, Tryz.ntmps129
  go_wp2_with fail
  refine (KN.out _).mono ?_
  rintro e w1 ⟨rfl, rfl⟩
  go_wp2
  refine bodyPost_ret (v := .int .i64 (negG x)) (by simp [results, Tryz.results129, go_sem]) rfl ?_
  exact ⟨rfl, rfl⟩
set_option maxRecDepth 100000 in
set_option maxHeartbeats 2000000 in
theorem wlit_ok {w : World} {r c id : Nat} {A : Option Addr} {T : List Nd} {ov : Value} {rows : List (Option Addr × Nat × List Int)} {bad : Bool} (hc : T.length ≤ c) (h : WrS w r A T c id ov rows bad) (hw : Well T) (k : Nat) (hk : k < T.length) (hs : (ndAt T k).sort = 0) :
    Calls Tryz.prog 130 #[.pointer (some ⟨r, 0, none⟩), .int .i64 (k : Nat)] w fun e w' => e = .returned (.int .i64 (litP T k)) ∧ WrS w' r A T c id ov rows bad ∧ Kept (fun b => b = r) w w' := by
  have KA := Lib.hid (alit_ok c hc h.tab hw k hk hs)
  have H := Lib.hid h
  have x0 : w.cell? ⟨r, 0, none⟩ = some (.slice A T.length c) := h.blk.cell 0
  have HRl := Lib.hid h.blk.lt
  clear h hc hw hk hs
  go_enter Tryz.func130, Tryz.ntmps130
  go_wp2_with fail
  refine KA.out.mono ?_
  rintro e w1 ⟨rfl, hb⟩
  have HB := Lib.hid hb
  have h1 := H.out.keep hb
  have x3 : w1.cell? ⟨r, 3, none⟩ = some (.bool bad) := h1.blk.cell 3
  have f3 := h1.blk.frozen 3
  have H1 := Lib.hid h1
  clear hb h1 x0 KA H
  cases bad with
  | false =>
    go_wp2
    have hp := H1.out.setb false
    refine bodyPost_ret (v := .int .i64 (litP T k)) (by simp [results, Tryz.results130, go_sem]) rfl ?_
    exact ⟨rfl, hp.1, (Kept.of_below HB.out).trans (Kept.set1 _ r 3 _)⟩
  | true =>
    go_wp2
    have hp := H1.out.setb true
    refine bodyPost_ret (v := .int .i64 (litP T k)) (by simp [results, Tryz.results130, go_sem]) rfl ?_
    exact ⟨rfl, hp.1, (Kept.of_below HB.out).trans (Kept.set1 _ r 3 _)⟩
end Go.Proofs.YtlipnnibagidiaaGreat

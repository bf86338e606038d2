/- The document's Find, Same, Great. -/
import Derived.Test.YtlipnnibagidiaaGreatTaB
namespace Go.Proofs.YtlipnnibagidiaaGreat
open Go.RowKit Go.Lib
theorem zero_intP (w : World) : (zeroValue 3).run Tryz.prog w = .ok (.int .i64 0) w := by kernel_rfl
def Fr (A : Option Addr) (T : List Nd) (w : World) (A' : Option Addr) : Prop := ∀ b, A' = some b → (A = some b ∧ 0 < T.length) ∨ w.heap.size ≤ b.block
theorem Fr.none {A : Option Addr} {T : List Nd} {w : World} : Fr A T w none := fun b h => by cases h
theorem Tab.lt {w : World} {b : Addr} {T : List Nd} (h : Tab w (some b) T) (hp : 0 < T.length) : b.block < w.heap.size := by
  obtain ⟨c, off, e, h1, _⟩ := h.at_.resolve_left (by omega)
  injection e with e
  rw [e]
  exact h1
def PutIs (A : Option Addr) (T : List Nd) (r : PutR) (w : World) (e : Ending) (w' : World) : Prop :=
  ∃ A' c, e = .returned (.tuple #[.agg #[.slice A' r.T.length c], .int .i64 r.id, .int .i64 r.e]) ∧ Tab w' A' r.T ∧ r.T.length ≤ c ∧ Fr A T w A' ∧ Below w.heap.size w w'
theorem grow_step {ops : Array Oper} {o : Oper} {a : Act} {K : Act → World → Prop} {Q : Exit → Act → World → Prop} {E : Prop} (w : World) (hgd : o.guard = none) (s x : Operand)
    (ho : o.op = .call { callee := .builtin .append, args := #[s, x], argTypes := #[31, 31] })
    (A : Option Addr) (T : List Nd) (hs : a.eval s = .slice A T.length T.length) (hT : Tab w A T) (hp : 0 < T.length) (hT1 : T.length < 100000) (hwf : ∀ n ∈ T, NdWf n)
    (g : Nat) (n : Nd) (hx : a.eval x = .slice (some ⟨g, 0, none⟩) 1 1) (hg : Blk w g 51 (nodeCells n).toArray) (hn : NdWf n)
    (h : ∀ A' c' w', Tab w' A' (T ++ [n]) → (T ++ [n]).length ≤ c' → Below w.heap.size w w' → (∀ b, A' = some b → w.heap.size ≤ b.block) → K (a.put o.dst (.slice A' (T ++ [n]).length c')) w') :
    if Region.wanted o (yielded ops a.tmps) = true then Oper.wp Tryz.prog o a w K Q else E := by
  have hw : Region.wanted o (yielded ops a.tmps) = true := by simp [Region.wanted, hgd]
  rw [if_pos hw]
  exact wp_grow_node w s x ho A T hs hT hp hT1 hwf g n hx hg hn h
theorem Tab.kept1 {w w' : World} {A : Option Addr} {T : List Nd} {r : Nat} (h : Tab w A T) (hk : Kept (fun b => b = r) w w') (hr : ∀ b, A = some b → b.block ≠ r) : Tab w' A T := by
  refine ⟨h.len, h.at_.imp id fun ⟨b, off, h1, h2, h3⟩ => ⟨b, off, h1, Nat.lt_of_lt_of_le h2 hk.size, fun i hi => ⟨Nat.lt_of_lt_of_le h2 hk.size, fun j hj => ?_, (h3 i hi).wf⟩⟩⟩
  have hb : w'.heap[b]? = w.heap[b]? := hk.block b h2 (hr _ h1)
  rw [show w'.cell? ⟨b, off + i * 8 + j, none⟩ = w.cell? ⟨b, off + i * 8 + j, none⟩ by unfold World.cell?; rw [hb]]
  exact (h3 i hi).cells j hj
theorem Tab.alloc {w : World} {A : Option Addr} {T : List Nd} (h : Tab w A T) (o : Obj) : Tab (w.alloc o) A T := h.below ((Below.refl _ w).alloc (Nat.le_refl _) o)
theorem Tab.wfs {w : World} {A : Option Addr} {T : List Nd} (h : Tab w A T) : ∀ n ∈ T, NdWf n := fun n hn => by
  obtain ⟨i, hi, rfl⟩ := List.getElem_of_mem hn
  rcases h.at_ with h0 | ⟨b, off, _, _, hc⟩
  · omega
  · exact (hc i hi).wf
set_option maxRecDepth 100000 in
set_option maxHeartbeats 4000000 in
theorem tput_ok {T : List Nd} {w : World} {A : Option Addr} (c : Nat) (n : Nd) (hwn : NdWf n) (most : Int) (hc : T.length ≤ c) (h : Tab w A T) (hl : T.length < 100000) :
    Calls Tryz.prog 57 #[.agg #[.slice A T.length c], nodeVal n, .int .i64 most] w (PutIs A T (putT T n most) w) := by
  have H := zzh h
  have HC := zzh hc
  have HWN := zzh hwn
  have HLN := zzh hl
  simp only [nodeVal, nodeCells]
  obtain ⟨w0, hw0⟩ : ∃ w0, w0 = ((w.alloc (.cells #[.slice A T.length c] 33)).alloc (.cells (nodeCells n).toArray 51)).alloc (.cells #[.slice none 0 0] 33) := ⟨_, rfl⟩
  have HS0 : Hid (w0.heap.size = w.heap.size + 3) := zzh (by rw [hw0]; simp)
  have HBT : Hid (Blk w0 w.heap.size 33 #[.slice A T.length c]) := zzh (by rw [hw0]; exact ((Blk.new w _ _).alloc _).alloc _)
  have HBN : Hid (Blk w0 (w.heap.size + 1) 51 (nodeCells n).toArray) := zzh (by rw [hw0]; have := Blk.new (w.alloc (.cells #[.slice A T.length c] 33)) 51 (nodeCells n).toArray; rw [World.size_alloc] at this; exact this.alloc _)
  have HBR : Hid (Blk w0 (w.heap.size + 1 + 1) 33 #[.slice none 0 0]) := zzh (by rw [hw0]; have := Blk.new ((w.alloc (.cells #[.slice A T.length c] 33)).alloc (.cells (nodeCells n).toArray 51)) 33 #[.slice none 0 0]; rw [World.size_alloc, World.size_alloc] at this; exact this)
  have HB0 : Hid (Below w.heap.size w w0) := zzh (by rw [hw0]; exact (((Below.refl _ w).alloc (Nat.le_refl _) _).alloc (by simp) _).alloc (by simp; omega) _)
  clear h hc hwn hl
  go_enter Tryz.func57, Tryz.ntmps57
  go_wp2_with fail
  simp only [nodeCells] at hw0
  rw [← hw0]
  refine (check_ok c HC.out (H.out.below HB0.out)).mono ?_
  rintro e w1 ⟨r, rfl, hr, hb⟩
  have HB01 := zzh hb
  have l0 : w.heap.size < w0.heap.size := by have := HS0.out; omega
  have l1 : w.heap.size + 1 < w0.heap.size := by have := HS0.out; omega
  have l2 : w.heap.size + 1 + 1 < w0.heap.size := by have := HS0.out; omega
  have HB1 : Hid (Below w.heap.size w w1) := zzh (HB0.out.trans (hb.mono (Nat.le_of_lt l0)))
  have HT1 := zzh (HBT.out.below hb l0)
  have HN1 := zzh (HBN.out.below hb l1)
  have HR1 := zzh (HBR.out.below hb l2)
  have HR := zzh hr
  have a0 := HT1.out.cell 0
  have b0 := HR1.out.cell 0
  have f0 := HR1.out.frozen 0
  simp only [zzg, zzi] at a0 b0
  clear hw0 hr hb l0 l1 l2
  cases r with
  | false =>
    have hn : tabB T = false := by
      cases ht : tabB T with
      | false => rfl
      | true => exact absurd (HR.out.2 (tabB_iff.1 ht)) (by simp)
    have HP : Hid (putT T n most = ⟨[], 0, 2⟩) := zzh (by unfold putT; rw [hn]; rfl)
    clear hn
    go_wp2
    refine bodyPost_ret (v := .tuple #[.agg #[.slice none 0 0], .int .i64 0, .int .i64 2]) ?_ rfl ?_
    · have c1 := (HR1.out.set_ 0 (.slice none 0 0)).cell 0
      simp only [zzg, zzi, zza, zzb] at c1
      simp [results, Tryz.results57, go_sem, c1]
    · rw [HP.out]
      exact ⟨none, 0, rfl, ⟨by simp, .inl rfl⟩, Nat.le_refl _, Fr.none, HB1.out.setCell (by simp; omega) _⟩
  | true =>
  have HTB := zzh (HR.out.1 rfl)
  clear HR
  have hl2 := HTB.out.len
  obtain ⟨b, off, hA, hbb, hcell⟩ := H.out.at_.resolve_left (by omega)
  subst hA
  have HA1 := zzh (H.out.below HB1.out)
  have HNA : Hid (NdAt w1 (w.heap.size + 1) 0 n) := zzh ⟨HN1.out.lt, fun j _ => by rw [Nat.zero_add, HN1.out.cell, zzg], HWN.out⟩
  clear hbb hcell
  have hT2 : (T.length : Int) ≤ 1000000 := by have := HLN.out; omega
  go_wp2_with fail
  refine (stands_ok n T.length ⟨by omega, hT2⟩ (w.heap.size + 1) 0 w1 HNA.out).mono ?_
  rintro e w2 ⟨q, rfl, hq, hb2⟩
  have HB2 := zzh hb2
  have HQ := zzh hq
  have a1 := (HT1.out.below hb2 HT1.out.lt).cell 0
  have HT2 := zzh (HT1.out.below hb2 HT1.out.lt)
  have HN2 := zzh (HN1.out.below hb2 HN1.out.lt)
  have HR2 := zzh (HR1.out.below hb2 HR1.out.lt)
  have b1 := HR2.out.cell 0
  have f1 := HR2.out.frozen 0
  simp only [zzg, zzi] at a1 b1
  clear a0 b0 f0 hb2 hq
  cases q with
  | false =>
    have hn : standsB n T.length = false := by
      cases ht : standsB n T.length with
      | false => rfl
      | true => exact absurd (HQ.out.2 (standsB_iff.1 ht)) (by simp)
    have HP : Hid (putT T n most = ⟨[], 0, 2⟩) := zzh (by unfold putT; rw [hn, Bool.and_false]; rfl)
    clear hn
    go_wp2
    refine bodyPost_ret (v := .tuple #[.agg #[.slice none 0 0], .int .i64 0, .int .i64 2]) ?_ rfl ?_
    · have c1 := (HR2.out.set_ 0 (.slice none 0 0)).cell 0
      simp only [zzg, zzi, zza, zzb] at c1
      simp [results, Tryz.results57, go_sem, c1]
    · rw [HP.out]
      exact ⟨none, 0, rfl, ⟨by simp, .inl rfl⟩, Nat.le_refl _, Fr.none, (HB1.out.trans (HB2.out.mono HB1.out.size)).setCell (by simp; omega) _⟩
  | true =>
  have HG : Hid (putT T n most = if n ∈ T then ⟨T, (T.idxOf n : Nat), 0⟩ else if most ≤ T.length then ⟨[], 0, 40⟩ else ⟨T ++ [n], T.length, 0⟩) := zzh (by
    unfold putT
    rw [tabB_iff.2 HTB.out, standsB_iff.2 (HQ.out.1 rfl)]
    rfl)
  go_wp2_with fail
  refine (placesN_ok c (HA1.out.below HB2.out) HTB.out.once).mono ?_
  rintro e w3 ⟨M, f, rfl, hm, hf, hb3⟩
  have HB3 := zzh (HB2.out.trans (hb3.mono HB2.out.size))
  have HB4 := zzh (HB1.out.trans (HB3.out.mono HB1.out.size))
  have HA3 := zzh (HA1.out.below HB3.out)
  have a2 := (HT2.out.below hb3 HT2.out.lt).cell 0
  have HN3 := zzh (HN2.out.below hb3 HN2.out.lt)
  have HR3 := zzh (HR2.out.below hb3 HR2.out.lt)
  have b2 := HR3.out.cell 0
  have f2 := HR3.out.frozen 0
  have n0 := HN3.out.cell 0
  have n1 := HN3.out.cell 1
  have n2 := HN3.out.cell 2
  have n3 := HN3.out.cell 3
  have n4 := HN3.out.cell 4
  have n5 := HN3.out.cell 5
  have n6 := HN3.out.cell 6
  have n7 := HN3.out.cell 7
  simp only [nodeCells, zzg, zzi, zzj] at a2 b2 n0 n1 n2 n3 n4 n5 n6 n7
  obtain ⟨kl, hkl⟩ := node_keyOf HWN.out
  have hlook := hm.mapAt.look node_key Tryz.underlying130 (zero_intP w3) hkl true
  have hfn := hf n
  rw [List.take_length] at hfn
  simp only [nodeVal, nodeCells] at hfn hlook
  clear a1 b1 f1 hm hf hb3 hkl
  by_cases hmem : n ∈ T
  · rw [if_pos hmem] at hfn
    rw [hfn] at hlook
    simp only [if_true] at hlook
    have HP : Hid (putT T n most = ⟨T, (T.idxOf n : Nat), 0⟩) := zzh (by rw [HG.out, if_pos hmem])
    clear hmem hfn
    go_wp2
    refine bodyPost_ret (v := .tuple #[.agg #[.slice (some ⟨b, off, none⟩) T.length c], .int .i64 (T.idxOf n : Nat), .int .i64 0]) ?_ rfl ?_
    · have c1 := (HR3.out.set_ 0 (.slice (some ⟨b, off, none⟩) T.length c)).cell 0
      simp only [zzg, zzi, zza, zzb] at c1
      simp [results, Tryz.results57, go_sem, c1]
    · rw [HP.out]
      have h4 := HB4.out.setCell (p := ⟨w.heap.size + 1 + 1, 0, none⟩) (by simp; omega) (.slice (some ⟨b, off, none⟩) T.length c)
      exact ⟨_, c, rfl, H.out.below h4, HC.out, fun b e => .inl ⟨e, by omega⟩, h4⟩
  · rw [if_neg hmem] at hfn
    rw [hfn] at hlook
    simp only [if_true] at hlook
    by_cases hk : most ≤ T.length
    · have HP : Hid (putT T n most = ⟨[], 0, 40⟩) := zzh (by rw [HG.out, if_neg hmem, if_pos hk])
      have d1 := decide_eq_true hk
      clear hmem hk hfn
      go_wp2
      refine bodyPost_ret (v := .tuple #[.agg #[.slice none 0 0], .int .i64 0, .int .i64 40]) ?_ rfl ?_
      · have c1 := (HR3.out.set_ 0 (.slice none 0 0)).cell 0
        simp only [zzg, zzi, zza, zzb] at c1
        simp [results, Tryz.results57, go_sem, c1]
      · rw [HP.out]
        exact ⟨none, 0, rfl, ⟨by simp, .inl rfl⟩, Nat.le_refl _, Fr.none, HB4.out.setCell (by simp; omega) _⟩
    · have HP : Hid (putT T n most = ⟨T ++ [n], T.length, 0⟩) := zzh (by rw [HG.out, if_neg hmem, if_neg hk])
      have d1 := decide_eq_false hk
      have HM := zzh hmem
      clear hmem hk hfn
      go_wp2
      have HBW := zzh (show Below w3.heap.size w3 (w3.drew.alloc (.cells (nodeCells n).toArray 51)) from (below_drewN (Below.refl _ w3) 1).alloc (Nat.le_refl _) _)
      have HTW := zzh (HA3.out.below HBW.out)
      have HWT := zzh HA3.out.wfs
      have HP2 : Hid (0 < T.length) := zzh (by omega)
      have HBK := zzh (show Blk (w3.drew.alloc (.cells (nodeCells n).toArray 51)) w3.heap.size 51 (nodeCells n).toArray from Blk.new w3.drew _ _)
      have k1 : T.length ≤ c := HC.out
      have a3 := (HBW.out.cell (p := ⟨w.heap.size, 0, none⟩) (by have := HT1.out.lt; have := HB3.out.size; simp; omega)).trans a2
      change (w3.alloc _).cell? _ = _ at a3
      simp only [nodeCells] at a3
      go_region_law (refine grow_step _ rfl (.tmp 50) (.tmp 52) rfl (some ⟨b, off, none⟩) T rfl HTW.out HP2.out HLN.out HWT.out w3.heap.size n rfl HBK.out HWN.out ?_; intro A' c' w4 ht4 hc4 hb4 hA4; have HB5 := zzh (HBW.out.trans (hb4.mono HBW.out.size)); have HR4 := zzh (HR3.out.below HB5.out HR3.out.lt); have b3 := HR4.out.cell 0; have f3 := HR4.out.frozen 0; simp only [zzg, zzi] at b3; have HT4 := zzh ht4; have HC4 := zzh hc4; have HF4 : Hid (∀ b, A' = some b → b.block ≠ w.heap.size + 1 + 1) := zzh (fun b hb => by have := Nat.le_trans HBW.out.size (hA4 b hb); have := HR3.out.lt; omega); have HF5 : Hid (∀ b, A' = some b → w.heap.size ≤ b.block) := zzh (fun b hb => by have := Nat.le_trans HBW.out.size (hA4 b hb); have := HR3.out.lt; omega); clear ht4 hc4 hb4 hA4)
      all_goals go_wp2
      all_goals
        refine bodyPost_ret (v := .tuple #[.agg #[.slice A' (T ++ [n]).length c'], .int .i64 T.length, .int .i64 0]) ?_ rfl ?_
        · have c1 := (HR4.out.set_ 0 (.slice A' (T ++ [n]).length c')).cell 0
          simp only [zzg, zzi, zza, zzb, List.length_append, List.length_cons, List.length_nil, Nat.zero_add] at c1
          simp [results, Tryz.results57, go_sem, c1]
        · rw [HP.out]
          exact ⟨A', c', rfl, HT4.out.kept1 (Kept.set1 w4 (w.heap.size + 1 + 1) 0 _) (HF4.out), HC4.out, (fun b e => .inr (HF5.out b e)), (HB4.out.trans (HB5.out.mono HB4.out.size)).setCell (by simp; omega) _⟩
def FindIs (T : List Nd) (n : Nd) (w : World) (e : Ending) (w' : World) : Prop := ∃ i r, e = .returned (.tuple #[.int .i64 i, .bool r]) ∧ (r = true ↔ n ∈ T) ∧ (n ∈ T → i = (T.idxOf n : Nat)) ∧ (n ∉ T → i = 0) ∧ Below w.heap.size w w'
theorem notin_take {T : List Nd} {n : Nd} {i : Nat} (h : n ∉ T.take i) (hi : i < T.length) (hn : T[i] ≠ n) : n ∉ T.take (i + 1) := by
  rw [List.take_add_one, List.getElem?_eq_getElem hi]
  intro hm
  rcases List.mem_append.1 hm with hm | hm
  · exact h hm
  · exact hn (by simpa using (show n ∈ [T[i]] from hm) : n = T[i]).symm
theorem idx_take {T : List Nd} {n : Nd} {i : Nat} (h : n ∉ T.take i) (hi : i < T.length) (hn : T[i] = n) : T.idxOf n = i := by
  have h1 : T = T.take i ++ T.drop i := (List.take_append_drop i T).symm
  have h2 : T.drop i = n :: T.drop (i + 1) := by rw [List.drop_eq_getElem_cons hi, hn]
  rw [h1, List.idxOf_append, if_neg h, h2, List.idxOf_cons_self, List.length_take]
  omega
set_option maxRecDepth 100000 in
set_option maxHeartbeats 4000000 in
theorem rfind_ok {T : List Nd} {w : World} {A : Option Addr} (c : Nat) (n : Nd) (hwn : NdWf n) (h : Tab w A T) : Calls Tryz.prog 37 #[.agg #[.slice A T.length c], nodeVal n] w (FindIs T n w) := by
  have hlen := h.len
  have HB0 := zzh (show Below w.heap.size w ((w.alloc (.cells #[.slice A T.length c] 33)).alloc (.cells (nodeCells n).toArray 51)) from ((Below.refl _ w).alloc (Nat.le_refl _) _).alloc (by simp) _)
  have HBT := zzh (show Blk ((w.alloc (.cells #[.slice A T.length c] 33)).alloc (.cells (nodeCells n).toArray 51)) w.heap.size 33 #[.slice A T.length c] from (Blk.new w _ _).alloc _)
  have HBN := zzh (show Blk ((w.alloc (.cells #[.slice A T.length c] 33)).alloc (.cells (nodeCells n).toArray 51)) (w.heap.size + 1) 51 (nodeCells n).toArray from Blk.new_at (by simp) _ _)
  have H := zzh h
  have HW := zzh hwn
  have HIN := zzh (fun (m : Nd) (hm : NdWf m) => node_eq hm hwn)
  clear h hwn
  simp only [nodeVal, nodeCells] at HB0 HBT HBN HIN ⊢
  go_enter Tryz.func37, Tryz.ntmps37
  go_wp2
  go_loopg [6] T.length (fun g v wr => ∃ i : Nat, i + g = T.length ∧ v = .int .i64 i ∧ n ∉ T.take i ∧ Below w.heap.size w wr ∧ Blk wr w.heap.size 33 #[.slice A T.length c] ∧ Blk wr (w.heap.size + 1) 51 #[.int .i8 n.op, .int .i8 n.len, .int .i64 n.a0, .int .i64 n.a1, .int .i64 n.a2, .int .i64 n.sort, .int .i64 n.fn, .int .i64 n.num])
  case atStart => exact ⟨0, by omega, rfl, by simp, HB0.out, HBT.out, HBN.out⟩
  case round =>
    obtain ⟨i, hig, rfl, hnot, hb, hbt, hbn⟩ := hrel
    have HNOT := zzh hnot
    have HB := zzh hb
    have c0 := hbt.cell 0
    have n0 := hbn.cell 0
    have n1 := hbn.cell 1
    have n2 := hbn.cell 2
    have n3 := hbn.cell 3
    have n4 := hbn.cell 4
    have n5 := hbn.cell 5
    have n6 := hbn.cell 6
    have n7 := hbn.cell 7
    simp only [zzg, zzi, zzj] at c0 n0 n1 n2 n3 n4 n5 n6 n7
    have HBTr := zzh hbt
    have HBNr := zzh hbn
    clear hnot hb hbt hbn
    cases gk with
    | zero =>
      obtain rfl : i = T.length := by omega
      have d1 : decide ((T.length : Int) < T.length) = false := by simp
      go_wp2
      go_ret2
      have hn : n ∉ T := by have := HNOT.out; rwa [List.take_length] at this
      exact ⟨0, false, rfl, ⟨fun e => (by cases e), fun e => absurd e hn⟩, fun e => absurd e hn, fun _ => rfl, HB.out⟩
    | succ gk =>
      have hlt : i < T.length := by omega
      have d1 : decide ((i : Int) < T.length) = true := by simp; omega
      have t1 : (0 : Int) ≤ (i : Int) := by omega
      have t2 : (i : Int) < (T.length : Int) := by omega
      obtain ⟨b, off, hA, hbb, hcell⟩ := (H.out.below HB.out).at_.resolve_left (by omega)
      subst hA
      have hm := hcell i hlt
      obtain ⟨r, hr, he⟩ := HIN.out T[i] hm.wf
      obtain ⟨y0, y1, y2, y3, y4, y5, y6, y7⟩ := hm.all
      have HYes : Hid (r = true → n ∈ T ∧ T.idxOf n = i) := zzh fun e => ⟨hr.1 e ▸ List.getElem_mem hlt, idx_take HNOT.out hlt (hr.1 e)⟩
      have HNo : Hid (r = false → n ∉ T.take (i + 1)) := zzh fun e => notin_take HNOT.out hlt fun e2 => by rw [hr.2 e2] at e; cases e
      clear hcell hm hr
      generalize T[i] = m at *
      have ge := node_eql he
      have gg := node_guard
      clear he
      cases r with
      | true =>
        have HY := zzh (HYes.out rfl)
        go_wp2
        go_quiet (fail)
        go_wp2
        go_ret2
        exact ⟨i, true, rfl, ⟨fun _ => HY.out.1, fun _ => rfl⟩, fun _ => by rw [HY.out.2], fun e => absurd HY.out.1 e, below_drewN HB.out _⟩
      | false =>
        have HN := zzh (HNo.out rfl)
        go_wp2
        go_quiet (fail)
        go_wp2
        go_roundg gk
        case measure => omega
        case rel => exact ⟨i + 1, by omega, by go_num, HN.out, below_drewN HB.out _, HBTr.out.drewN _, HBNr.out.drewN _⟩
theorem rgreat_ok {w : World} (A : Option Addr) (n c : Nat) : Calls Tryz.prog 12 #[.agg #[.slice A n c]] w fun e w' => e = .returned (.bool (decide (300 < n))) ∧ Below w.heap.size w w' := by
  have HB0 := zzh (show Below w.heap.size w (w.alloc (.cells #[.slice A n c] 33)) from (Below.refl _ w).alloc (Nat.le_refl _) _)
  go_enter Tryz.func12, Tryz.ntmps12
  go_wp2
  go_ret
  refine ⟨?_, HB0.out⟩
  exact ret_bool (a := decide (300 < (n : Int))) (by rw [Bool.eq_iff_iff]; simp; omega)
end Go.Proofs.YtlipnnibagidiaaGreat

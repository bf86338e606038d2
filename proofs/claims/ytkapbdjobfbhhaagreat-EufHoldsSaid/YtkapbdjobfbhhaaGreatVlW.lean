/- gantryref10.Values. -/
import Derived.Test.YtkapbdjobfbhhaaGreatVlS
namespace Go.Proofs.YtkapbdjobfbhhaaGreat
open Go.RowKit Go.Lib
structure NodeSem (T : List Nd) (val : Int → Int) (i : Int) : Prop where
  bool : (ndAt T i).sort = 0 → val i = 0 ∨ val i = 1
  num1 : (ndAt T i).sort = 1 → mayN (val i) = true
  tru : (ndAt T i).op = 0 → val i = 1
  not : (ndAt T i).op = 1 → val i = 1 - val (ndAt T i).a0
  and : (ndAt T i).op = 2 → val i = val (ndAt T i).a0 * val (ndAt T i).a1
  or : (ndAt T i).op = 3 → val i = max (val (ndAt T i).a0) (val (ndAt T i).a1)
  eq : (ndAt T i).op = 6 → val i = bitI (val (ndAt T i).a0 = val (ndAt T i).a1)
  ite : (ndAt T i).op = 7 → val i = if val (ndAt T i).a0 = 1 then val (ndAt T i).a1 else val (ndAt T i).a2
  num : (ndAt T i).op = 10 → val i = (ndAt T i).num
  add : (ndAt T i).op = 11 → val i = val (ndAt T i).a0 + (ndAt T i).num
  diff : (ndAt T i).op = 12 → val i = bitI (val (ndAt T i).a0 - val (ndAt T i).a1 ≤ (ndAt T i).num)
theorem NodeSem.congr {T : List Nd} {val val' : Int → Int} {i : Int} (h : NodeSem T val i) (hi : val' i = val i) (h0 : val' (ndAt T i).a0 = val (ndAt T i).a0) (h1 : val' (ndAt T i).a1 = val (ndAt T i).a1) (h2 : val' (ndAt T i).a2 = val (ndAt T i).a2) : NodeSem T val' i := by
  refine ⟨?_, ?_, ?_, ?_, ?_, ?_, ?_, ?_, ?_, ?_, ?_⟩
  all_goals rw [hi]
  · exact h.bool
  · exact h.num1
  · exact h.tru
  · rw [h0]; exact h.not
  · rw [h0, h1]; exact h.and
  · rw [h0, h1]; exact h.or
  · rw [h0, h1]; exact h.eq
  · rw [h0, h1, h2]; exact h.ite
  · exact h.num
  · rw [h0]; exact h.add
  · rw [h0, h1]; exact h.diff
structure ValSem (n : Nd) (L : List Int) (x : Int) : Prop where
  bool : n.sort = 0 → x = 0 ∨ x = 1
  num1 : n.sort = 1 → mayN x = true
  tru : n.op = 0 → x = 1
  not : n.op = 1 → x = 1 - L.getD 0 0
  and : n.op = 2 → x = L.getD 0 0 * L.getD 1 0
  or : n.op = 3 → x = max (L.getD 0 0) (L.getD 1 0)
  eq : n.op = 6 → x = bitI (L.getD 0 0 = L.getD 1 0)
  ite : n.op = 7 → x = if L.getD 0 0 = 1 then L.getD 1 0 else L.getD 2 0
  num : n.op = 10 → x = n.num
  add : n.op = 11 → x = L.getD 0 0 + n.num
  diff : n.op = 12 → x = bitI (L.getD 0 0 - L.getD 1 0 ≤ n.num)
def FitS (S L : List Int) : Prop := S.length = L.length ∧ ∀ j, (S.getD j 2 = 0 → L.getD j 0 = 0 ∨ L.getD j 0 = 1) ∧ (S.getD j 2 = 1 → mayN (L.getD j 0) = true)
def ValIs (n : Nd) (L : List Int) (w : World) (e : Ending) (w' : World) : Prop := ∃ x ok, e = .returned (.tuple #[.int .i64 x, .bool ok]) ∧ I64 x ∧ (ok = true → ValSem n L x) ∧ Below w.heap.size w w'
theorem bitV_I (p : Prop) [Decidable p] (b : Bool) (h : b = true ↔ p) : bitV b = bitI p := by
  unfold bitV bitI
  by_cases hp : p
  · rw [if_pos hp, if_pos (h.2 hp)]
  · rw [if_neg hp, if_neg (fun e => hp (h.1 e))]
theorem bitV_01 (b : Bool) : bitV b = 0 ∨ bitV b = 1 := by cases b <;> simp [bitV]
theorem i64_01 {x : Int} (h : x = 0 ∨ x = 1) : I64 x := by rcases h with rfl | rfl <;> exact ⟨by decide, by decide⟩
theorem mayN_iff {x : Int} : mayN x = true ↔ -4611686018427387904 ≤ x ∧ x ≤ 4611686018427387904 := by unfold mayN; exact decide_eq_true_iff
theorem opL_len {op s : Int} {S : List Int} (h : opL op S = some s) : (S.length : Int) = manyM op ∧ opSort op (S[0]?.getD 0) (S[1]?.getD 0) (S[2]?.getD 0) = some s := by
  unfold opL at h
  by_cases e : (S.length : Int) = manyM op
  · rw [if_pos e] at h
    exact ⟨e, h⟩
  · rw [if_neg e] at h
    cases h
theorem len1 {L : List Int} (h : L.length = 1) : ∃ a, L = [a] := by
  match L, h with
  | [a], _ => exact ⟨a, rfl⟩
theorem len2 {L : List Int} (h : L.length = 2) : ∃ a b, L = [a, b] := by
  match L, h with
  | [a, b], _ => exact ⟨a, b, rfl⟩
theorem len3 {L : List Int} (h : L.length = 3) : ∃ a b c, L = [a, b, c] := by
  match L, h with
  | [a, b, c], _ => exact ⟨a, b, c, rfl⟩
theorem ValIs.of {n : Nd} {L : List Int} {w : World} {x : Int} {e : Ending} {w' : World} (h : VPost x true w e w') (hx : I64 x) (hs : ValSem n L x) : ValIs n L w e w' := ⟨x, true, h.1, hx, fun _ => hs, h.2⟩
theorem ValSem.bits {n : Nd} {L : List Int} {x : Int} (ho : n.op = 4 ∨ n.op = 5 ∨ n.op = 8 ∨ n.op = 9) (hs : n.sort = 0) (hx : x = 0 ∨ x = 1) : ValSem n L x := by
  refine ⟨fun _ => hx, ?_, ?_, ?_, ?_, ?_, ?_, ?_, ?_, ?_, ?_⟩
  all_goals intro h; omega
theorem opS_0 {s a b c : Int} (h : opSort 0 a b c = some s) : s = 0 := by simpa [opSort] using h.symm
theorem opS_10 {s a b c : Int} (h : opSort 10 a b c = some s) : s = 1 := by simpa [opSort] using h.symm
theorem opS_1 {s a b c : Int} (h : opSort 1 a b c = some s) : a = 0 ∧ s = 0 := by
  simp [opSort] at h
  exact ⟨h.1, h.2.symm⟩
theorem opS_11 {s a b c : Int} (h : opSort 11 a b c = some s) : a = 1 ∧ s = 1 := by
  simp [opSort] at h
  exact ⟨h.1, h.2.symm⟩
theorem opS_b {op s a b c : Int} (ho : op = 2 ∨ op = 3 ∨ op = 4 ∨ op = 5) (h : opSort op a b c = some s) : a = 0 ∧ b = 0 ∧ s = 0 := by
  rcases ho with rfl | rfl | rfl | rfl
  all_goals
    simp [opSort] at h
    exact ⟨h.1.1, h.1.2, h.2.symm⟩
theorem opS_n {op s a b c : Int} (ho : op = 8 ∨ op = 9 ∨ op = 12) (h : opSort op a b c = some s) : a = 1 ∧ b = 1 ∧ s = 0 := by
  rcases ho with rfl | rfl | rfl
  all_goals
    simp [opSort] at h
    exact ⟨h.1.1, h.1.2, h.2.symm⟩
theorem opS_6 {s a b c : Int} (h : opSort 6 a b c = some s) : a = b ∧ s = 0 := by
  simp [opSort] at h
  exact ⟨h.1, h.2.symm⟩
theorem opS_7 {s a b c : Int} (h : opSort 7 a b c = some s) : a = 0 ∧ b = c ∧ s = b := by
  simp [opSort] at h
  exact ⟨h.1.1, h.1.2, h.2.symm⟩
theorem mayN_I64 {x : Int} (h : mayN x = true) : I64 x := by
  have := mayN_iff.1 h
  exact ⟨by omega, by omega⟩
theorem atMost_iff {a b n : Int} (ha : mayN a = true) (hb : mayN b = true) (hn : mayN n = true) : atMostM a b n = true ↔ a - b ≤ n := by
  unfold atMostM
  rw [ha, hb, hn]
  simp
theorem ValSem.appV {n : Nd} {L : List Int} {x : Int} {g : SigV} {wl : WldV} {T : List Nd} (hr : RuleOk g T n) (ho : n.op = 13) (hx : AppV g wl n.fn x) : ValSem n L x := by
  obtain ⟨i, hi, hfn, hsrt⟩ := hr.1 ho
  obtain ⟨h64, h0⟩ := hx
  refine ⟨?_, ?_, ?_, ?_, ?_, ?_, ?_, ?_, ?_, ?_, ?_⟩
  rotate_left 2
  all_goals intro h
  all_goals try omega
  · rcases h0 with h0 | ⟨k, hk, hfk, hM⟩
    · exact .inl h0
    · have e : k = i := by omega
      subst e
      rw [← hsrt, h] at hM
      unfold isM at hM
      split at hM
      · cases hM
      · simpa using hM
  · rcases h0 with h0 | ⟨k, hk, hfk, hM⟩
    · rw [h0]; decide
    · have e : k = i := by omega
      subst e
      rw [← hsrt, h] at hM
      unfold isM at hM
      split at hM
      · cases hM
      · simpa using hM
set_option maxHeartbeats 4000000 in
theorem value_ok {w : World} {g : SigV} {wl : WldV} {T : List Nd} {n : Nd} {a : Int} {A : Option Addr} {L : List Int} (c : Nat) (hg : SigAt w g) (hd : SigDeep w g) (hw : WldAt w wl) (hwf : WldWf wl) (hS : Stands n a) (hr : RuleOk g T n) (hL : Row w A L) (hl : (L.length : Int) = n.len) (hf : FitS (argSorts T n) L) (hI : ∀ x ∈ L, I64 x) (h13 : n.op ≠ 13) :
    Calls Tryz.prog 20 #[.agg g.cells, .agg wl.cells, nodeVal n, .slice A L.length c] w (ValIs n L w) := by
  have hm := many_len hS h13
  obtain ⟨hsl, hso⟩ := opL_len (hr.2 h13)
  obtain ⟨hf1, hf2⟩ := hf
  generalize argSorts T n = S at hsl hso hf1 hf2
  have hN := hS.numb
  rcases arity_ops hS with e | e | e | e | e | e | e | e | e | e | e | e | e | e
  all_goals rw [e] at hm hsl hso
  rotate_left 13
  · exact absurd e h13
  · have hL0 : L = [] := List.length_eq_zero_iff.1 (by have : manyM 0 = 0 := rfl; omega)
    subst hL0
    have hs := opS_0 hso
    refine (value_0 g wl c e).mono fun e' w' h => ValIs.of h ⟨by decide, by decide⟩ ?_
    refine ⟨fun _ => .inr rfl, ?_, fun _ => rfl, ?_, ?_, ?_, ?_, ?_, ?_, ?_, ?_⟩
    all_goals intro h; omega
  · have hm1 : manyM 1 = 1 := rfl
    obtain ⟨x, rfl⟩ := len1 (L := L) (by omega)
    obtain ⟨s, rfl⟩ := len1 (L := S) (by omega)
    obtain ⟨ha, hs⟩ := opS_1 hso
    have hx := (hf2 0).1 ha
    have h2 : wrap64 (1 - x) = 1 - x ∧ (1 - x = 0 ∨ 1 - x = 1) := by
      rcases hx with h | h
      all_goals
        replace h : x = _ := h
        rw [h]
        decide +kernel
    refine (value_1 g wl c e hL).mono fun e' w' h => ValIs.of h ?_ ?_
    · rw [h2.1]; exact i64_01 h2.2
    · rw [h2.1]
      refine ⟨fun _ => h2.2, ?_, ?_, fun _ => rfl, ?_, ?_, ?_, ?_, ?_, ?_, ?_⟩
      all_goals intro h; omega
  · have hm1 : manyM 2 = 2 := rfl
    obtain ⟨x, y, rfl⟩ := len2 (L := L) (by omega)
    obtain ⟨s, t, rfl⟩ := len2 (L := S) (by omega)
    obtain ⟨ha, hb, hs⟩ := opS_b (.inl rfl) hso
    have hx : x = 0 ∨ x = 1 := (hf2 0).1 ha
    have hy : y = 0 ∨ y = 1 := (hf2 1).1 hb
    have h2 : IntKind.i64.wrap (x * y) = x * y ∧ (x * y = 0 ∨ x * y = 1) := by
      rcases hx with h | h <;> rcases hy with k | k <;> rw [h, k] <;> decide +kernel
    refine (value_2 g wl c e hL).mono fun e' w' h => ValIs.of h ?_ ?_
    · rw [h2.1]; exact i64_01 h2.2
    · rw [h2.1]
      refine ⟨fun _ => h2.2, ?_, ?_, ?_, fun _ => rfl, ?_, ?_, ?_, ?_, ?_, ?_⟩
      all_goals intro h; omega
  · have hm1 : manyM 3 = 2 := rfl
    obtain ⟨x, y, rfl⟩ := len2 (L := L) (by omega)
    obtain ⟨s, t, rfl⟩ := len2 (L := S) (by omega)
    obtain ⟨ha, hb, hs⟩ := opS_b (.inr (.inl rfl)) hso
    have hx : x = 0 ∨ x = 1 := (hf2 0).1 ha
    have hy : y = 0 ∨ y = 1 := (hf2 1).1 hb
    have h2 : max x y = 0 ∨ max x y = 1 := by omega
    refine (value_3 g wl c e hL).mono fun e' w' h => ?_
    obtain ⟨z, he, hz, hbb⟩ := h
    refine ⟨z, true, he, by rw [hz]; exact i64_01 h2, fun _ => ?_, hbb⟩
    rw [hz]
    refine ⟨fun _ => h2, ?_, ?_, ?_, ?_, fun _ => rfl, ?_, ?_, ?_, ?_, ?_⟩
    all_goals intro h; omega
  · have hm1 : manyM 4 = 2 := rfl
    obtain ⟨x, y, rfl⟩ := len2 (L := L) (by omega)
    obtain ⟨ha, hb, hs⟩ := opS_b (.inr (.inr (.inl rfl))) hso
    exact (value_4 g wl c e hL).mono fun e' w' h => ValIs.of h (i64_01 (bitV_01 _)) (ValSem.bits (by omega) hs (bitV_01 _))
  · have hm1 : manyM 5 = 2 := rfl
    obtain ⟨x, y, rfl⟩ := len2 (L := L) (by omega)
    obtain ⟨ha, hb, hs⟩ := opS_b (.inr (.inr (.inr rfl))) hso
    exact (value_5 g wl c e hL).mono fun e' w' h => ValIs.of h (i64_01 (bitV_01 _)) (ValSem.bits (by omega) hs (bitV_01 _))
  · have hm1 : manyM 6 = 2 := rfl
    obtain ⟨x, y, rfl⟩ := len2 (L := L) (by omega)
    obtain ⟨ha, hs⟩ := opS_6 hso
    have hbi : bitV (x == y) = bitI (x = y) := bitV_I _ _ beq_iff_eq
    refine (value_6 g wl c e hL).mono fun e' w' h => ValIs.of h (i64_01 (bitV_01 _)) ?_
    refine ⟨fun _ => bitV_01 _, ?_, ?_, ?_, ?_, ?_, fun _ => hbi, ?_, ?_, ?_, ?_⟩
    all_goals intro h; omega
  · have hm1 : manyM 7 = 3 := rfl
    obtain ⟨x, y, z, rfl⟩ := len3 (L := L) (by omega)
    obtain ⟨s, t, u, rfl⟩ := len3 (L := S) (by omega)
    obtain ⟨ha, hb, hs⟩ := opS_7 hso
    have hb' : t = u := hb
    have hs' : n.sort = t := hs
    have hy0 : t = 0 → y = 0 ∨ y = 1 := (hf2 1).1
    have hz0 : u = 0 → z = 0 ∨ z = 1 := (hf2 2).1
    have hy1 : t = 1 → mayN y = true := (hf2 1).2
    have hz1 : u = 1 → mayN z = true := (hf2 2).2
    by_cases h1 : x = 1
    · refine (value_7 g wl c e hL h1).mono fun e' w' h => ValIs.of h (hI y (by simp)) ?_
      refine ⟨fun q => hy0 (by omega), fun q => hy1 (by omega), ?_, ?_, ?_, ?_, ?_, fun _ => (if_pos h1).symm, ?_, ?_, ?_⟩
      all_goals intro h; omega
    · refine (value_7b g wl c e hL h1).mono fun e' w' h => ValIs.of h (hI z (by simp)) ?_
      refine ⟨fun q => hz0 (by omega), fun q => hz1 (by omega), ?_, ?_, ?_, ?_, ?_, fun _ => (if_neg h1).symm, ?_, ?_, ?_⟩
      all_goals intro h; omega
  · have hm1 : manyM 8 = 2 := rfl
    obtain ⟨x, y, rfl⟩ := len2 (L := L) (by omega)
    obtain ⟨ha, hb, hs⟩ := opS_n (.inl rfl) hso
    exact (value_8 g wl c e hL).mono fun e' w' h => ValIs.of h (i64_01 (bitV_01 _)) (ValSem.bits (by omega) hs (bitV_01 _))
  · have hm1 : manyM 9 = 2 := rfl
    obtain ⟨x, y, rfl⟩ := len2 (L := L) (by omega)
    obtain ⟨ha, hb, hs⟩ := opS_n (.inr (.inl rfl)) hso
    exact (value_9 g wl c e hL).mono fun e' w' h => ValIs.of h (i64_01 (bitV_01 _)) (ValSem.bits (by omega) hs (bitV_01 _))
  · have hL0 : L = [] := List.length_eq_zero_iff.1 (by have : manyM 10 = 0 := rfl; omega)
    subst hL0
    have hs := opS_10 hso
    have hn := mayN_iff.2 (hN.1 (by omega))
    refine (value_10 g wl c e).mono fun e' w' h => ValIs.of h (mayN_I64 hn) ?_
    refine ⟨?_, fun _ => hn, ?_, ?_, ?_, ?_, ?_, ?_, fun _ => rfl, ?_, ?_⟩
    all_goals intro h; omega
  · have hm1 : manyM 11 = 1 := rfl
    obtain ⟨x, rfl⟩ := len1 (L := L) (by omega)
    obtain ⟨s, rfl⟩ := len1 (L := S) (by omega)
    obtain ⟨ha, hs⟩ := opS_11 hso
    have hx : mayN x = true := (hf2 0).2 ha
    refine (value_11 g wl c e hL (mayN_iff.1 hx) (hN.1 (by omega))).mono fun e' w' h => ?_
    obtain ⟨z, ok, he, hz, h64, hbb⟩ := h
    refine ⟨z, ok, he, h64, fun ho => ?_, hbb⟩
    refine ⟨?_, fun _ => (hz ho).2, ?_, ?_, ?_, ?_, ?_, ?_, ?_, fun _ => (hz ho).1, ?_⟩
    all_goals intro h; omega
  · have hm1 : manyM 12 = 2 := rfl
    obtain ⟨x, y, rfl⟩ := len2 (L := L) (by omega)
    obtain ⟨s, t, rfl⟩ := len2 (L := S) (by omega)
    obtain ⟨ha, hb, hs⟩ := opS_n (.inr (.inr rfl)) hso
    have hx : mayN x = true := (hf2 0).2 ha
    have hy : mayN y = true := (hf2 1).2 hb
    have hn := mayN_iff.2 (hN.1 (by omega))
    have hbi : bitV (atMostM x y n.num) = bitI (x - y ≤ n.num) := bitV_I _ _ (atMost_iff hx hy hn)
    refine (value_12 g wl c e hL).mono fun e' w' h => ValIs.of h (i64_01 (bitV_01 _)) ?_
    refine ⟨fun _ => bitV_01 _, ?_, ?_, ?_, ?_, ?_, ?_, ?_, ?_, ?_, fun _ => hbi⟩
    all_goals intro h; omega
def vf (vals : List Int) (x : Int) : Int := vals.getD x.toNat 0
def argVals (vals : List Int) (n : Nd) : List Int := (List.range n.len.toNat).map fun k => vf vals (n.arg k)
structure VF (T : List Nd) (i : Nat) (vals : List Int) (overs : List Bool) : Prop where
  l1 : vals.length = i
  l2 : overs.length = i
  i64 : ∀ x ∈ vals, I64 x
  sem : ∀ k : Nat, k < i → overs.getD k true = false → NodeSem T (vf vals) (k : Int)
theorem VF.nil (T : List Nd) : VF T 0 [] [] := ⟨rfl, rfl, by simp, fun k hk => absurd hk (by omega)⟩
theorem vf_in {vals : List Int} (h : ∀ x ∈ vals, I64 x) (y : Int) : I64 (vf vals y) := by
  unfold vf
  rw [List.getD_eq_getElem?_getD]
  cases e : vals[y.toNat]? with
  | none => exact ⟨by decide, by decide⟩
  | some z => exact h z (List.mem_of_getElem? e)
theorem vf_append {vals : List Int} (x : Int) {y : Int} (h : y.toNat < vals.length) : vf (vals ++ [x]) y = vf vals y := by
  unfold vf
  rw [List.getD_eq_getElem?_getD, List.getD_eq_getElem?_getD, List.getElem?_append_left h]
theorem vf_last (vals : List Int) (x : Int) : vf (vals ++ [x]) (vals.length : Int) = x := by
  unfold vf
  rw [Int.toNat_natCast, List.getD_eq_getElem?_getD, List.getElem?_append_right (Nat.le_refl _), Nat.sub_self]
  rfl
theorem argVals_len (vals : List Int) (n : Nd) : (argVals vals n).length = n.len.toNat := by unfold argVals; rw [List.length_map, List.length_range]
theorem argVals_get (vals : List Int) {n : Nd} {j : Nat} (h : j < n.len.toNat) : (argVals vals n).getD j 0 = vf vals (n.arg j) := by
  unfold argVals
  rw [List.getD_eq_getElem?_getD, List.getElem?_map, List.getElem?_range h]
  rfl
theorem argSorts_get {T : List Nd} {n : Nd} {j : Nat} (h : j < n.len.toNat) : (argSorts T n).getD j 2 = (ndAt T (n.arg j)).sort := by
  unfold argSorts
  rw [List.getD_eq_getElem?_getD, List.getElem?_map, List.getElem?_range h]
  rfl
theorem VF.fit {T : List Nd} {i : Nat} {vals : List Int} {overs : List Bool} (h : VF T i vals overs) {n : Nd} (hs : Stands n i) (hb : ∀ k : Nat, k < n.len.toNat → overs.getD (n.arg k).toNat true = false) : FitS (argSorts T n) (argVals vals n) := by
  have hl : (argSorts T n).length = n.len.toNat := by unfold argSorts; rw [List.length_map, List.length_range]
  refine ⟨by rw [hl, argVals_len], fun j => ?_⟩
  by_cases hj : j < n.len.toNat
  · rw [argSorts_get hj, argVals_get vals hj]
    have h3 := hs.len
    have ha := hs.arg_lt j (by omega) (by omega)
    obtain ⟨k, hk⟩ : ∃ k : Nat, n.arg j = k := ⟨(n.arg j).toNat, by omega⟩
    have h4 := hb j hj
    rw [hk] at ha h4 ⊢
    rw [Int.toNat_natCast] at h4
    have := h.sem k (by omega) h4
    exact ⟨this.bool, this.num1⟩
  · rw [List.getD_eq_getElem?_getD, List.getElem?_eq_none (by omega)]
    exact ⟨fun e => absurd e (by decide), fun e => absurd e (by decide)⟩
theorem VF.push {T : List Nd} {i : Nat} {vals : List Int} {overs : List Bool} (h : VF T i vals overs) (hT : TabOk T) (hi : i < T.length) {x : Int} {o : Bool} (hx : I64 x) (ho : o = false → ValSem T[i] (argVals vals T[i]) x) : VF T (i + 1) (vals ++ [x]) (overs ++ [o]) := by
  have l1 := h.l1
  have l2 := h.l2
  have hst : ∀ k : Nat, (hk : k < T.length) → Stands T[k] k := fun k hk => hT.st k _ (List.getElem?_eq_getElem hk)
  have hargs : ∀ (k : Nat) (hk : k < T.length) (j : Nat), j < 3 → 0 ≤ T[k].arg j ∧ (T[k].arg j < k ∨ T[k].arg j = 0) := fun k hk j hj => by
    have := (hst k hk).args j hj
    by_cases e : (j : Int) < T[k].len
    · exact ⟨(this.1 e).1, .inl (this.1 e).2⟩
    · exact ⟨by rw [this.2 (by omega)]; decide, .inr (this.2 (by omega))⟩
  refine ⟨by rw [List.length_append, l1]; rfl, by rw [List.length_append, l2]; rfl, fun y hy => ?_, fun k hk hok => ?_⟩
  · rcases List.mem_append.1 hy with hy | hy
    · exact h.i64 y hy
    · rw [List.mem_singleton.1 hy]; exact hx
  · by_cases hki : k < i
    · rw [List.getD_eq_getElem?_getD, List.getElem?_append_left (by omega), ← List.getD_eq_getElem?_getD] at hok
      have hs := h.sem k hki hok
      have hkT : k < T.length := by omega
      have a0 := hargs k hkT 0 (by omega)
      have a1 := hargs k hkT 1 (by omega)
      have a2 := hargs k hkT 2 (by omega)
      rw [← ndAt_nat hkT] at a0 a1 a2
      have b0 : 0 ≤ (ndAt T k).a0 ∧ ((ndAt T k).a0 < k ∨ (ndAt T k).a0 = 0) := a0
      have b1 : 0 ≤ (ndAt T k).a1 ∧ ((ndAt T k).a1 < k ∨ (ndAt T k).a1 = 0) := a1
      have b2 : 0 ≤ (ndAt T k).a2 ∧ ((ndAt T k).a2 < k ∨ (ndAt T k).a2 = 0) := a2
      exact hs.congr (vf_append x (by omega)) (vf_append x (by omega)) (vf_append x (by omega)) (vf_append x (by omega))
    · obtain rfl : i = k := by omega
      rw [List.getD_eq_getElem?_getD, List.getElem?_append_right (by omega), l2, Nat.sub_self] at hok
      have hv := ho hok
      have hS := hst i hi
      have hm := fun e => many_len hS e
      have hl : vf (vals ++ [x]) (i : Int) = x := by rw [← l1]; exact vf_last vals x
      have g : ∀ j : Nat, j < 3 → (j : Int) < T[i].len → (argVals vals T[i]).getD j 0 = vf (vals ++ [x]) (T[i].arg j) := fun j hj hjl => by
        rw [argVals_get vals (by omega)]
        have := hS.arg_lt j hj hjl
        rw [vf_append x (by omega)]
      have g0 : (0 : Int) < T[i].len → (argVals vals T[i]).getD 0 0 = vf (vals ++ [x]) T[i].a0 := g 0 (by omega)
      have g1 : (1 : Int) < T[i].len → (argVals vals T[i]).getD 1 0 = vf (vals ++ [x]) T[i].a1 := g 1 (by omega)
      have g2 : (2 : Int) < T[i].len → (argVals vals T[i]).getD 2 0 = vf (vals ++ [x]) T[i].a2 := g 2 (by omega)
      have m1 : manyM 1 = 1 := rfl
      have m2 : manyM 2 = 2 := rfl
      have m3 : manyM 3 = 2 := rfl
      have m6 : manyM 6 = 2 := rfl
      have m7 : manyM 7 = 3 := rfl
      have m11 : manyM 11 = 1 := rfl
      have m12 : manyM 12 = 2 := rfl
      refine ⟨?_, ?_, ?_, ?_, ?_, ?_, ?_, ?_, ?_, ?_, ?_⟩
      all_goals rw [ndAt_nat hi, hl]
      · exact hv.bool
      · exact hv.num1
      · exact hv.tru
      · intro e
        have hm := hm (by omega)
        rw [e] at hm
        have q := hv.not e
        rw [g0 (by omega)] at q
        exact q
      · intro e
        have hm := hm (by omega)
        rw [e] at hm
        have q := hv.and e
        rw [g0 (by omega), g1 (by omega)] at q
        exact q
      · intro e
        have hm := hm (by omega)
        rw [e] at hm
        have q := hv.or e
        rw [g0 (by omega), g1 (by omega)] at q
        exact q
      · intro e
        have hm := hm (by omega)
        rw [e] at hm
        have := hv.eq e
        rw [g0 (by omega), g1 (by omega)] at this
        exact this
      · intro e
        have hm := hm (by omega)
        rw [e] at hm
        have q := hv.ite e
        rw [g0 (by omega), g1 (by omega), g2 (by omega)] at q
        exact q
      · exact hv.num
      · intro e
        have hm := hm (by omega)
        rw [e] at hm
        have q := hv.add e
        rw [g0 (by omega)] at q
        exact q
      · intro e
        have hm := hm (by omega)
        rw [e] at hm
        have := hv.diff e
        rw [g0 (by omega), g1 (by omega)] at this
        exact this
structure VX (w : World) (B : Nat) (g : SigV) (wl : WldV) (A : Option Addr) (T : List Nd) (c : Nat) (lo : Value) (vals : List Int) (oo : Value) (overs : List Bool) (W : World) : Prop where
  sg : Blk W B 26 g.cells
  wd : Blk W (B + 1) 30 wl.cells
  tb : Blk W (B + 1 + 1) 33 #[.slice A T.length c]
  hB : w.heap.size = B
  own : W.ownsRow (B + 1 + 1 + 1) 3 1 lo vals.length (vals.map (Value.int .i64))
  oown : W.ownsRow (B + 1 + 1 + 1) 4 1 oo overs.length (overs.map Value.bool)
  bel : Below B w W
section
variable {w W W2 : World} {B : Nat} {g : SigV} {wl : WldV} {A : Option Addr} {T : List Nd} {c : Nat} {lo oo : Value} {vals : List Int} {overs : List Bool}
theorem VX.kept (h : VX w B g wl A T c lo vals oo overs W) {S : Nat → Prop} (hk : Kept S W W2) (hs : ∀ b, S b → B + 1 + 1 + 1 ≤ b ∧ lo.ownBlock ≠ some b ∧ oo.ownBlock ≠ some b) : VX w B g wl A T c lo vals oo overs W2 := by
  have hsz := h.bel.size
  have hB := h.hB
  exact ⟨h.sg.kept hk (fun e => by have := (hs _ e).1; omega), h.wd.kept hk (fun e => by have := (hs _ e).1; omega), h.tb.kept hk (fun e => by have := (hs _ e).1; omega), h.hB, own_kept h.own hk (fun b e hb => (hs b hb).2.1 e), own_kept h.oown hk (fun b e hb => (hs b hb).2.2 e), h.bel.trans (hk.below (by omega) (fun b hb => by have := (hs b hb).1; omega))⟩
theorem VX.below (h : VX w B g wl A T c lo vals oo overs W) (hb : Below W.heap.size W W2) : VX w B g wl A T c lo vals oo overs W2 := h.kept (S := fun _ => False) (Kept.of_below hb) (fun _ e => e.elim)
theorem VX.push1 (h : VX w B g wl A T c lo vals oo overs W) {x : Int} {lo' : Value} (ho : W2.ownsRow (B + 1 + 1 + 1) 3 1 lo' (vals.length + 1) (vals.map (Value.int .i64) ++ #[Value.int .i64 x].toList)) {cs : Obj} (hg : (W.alloc cs).grownBy W2 lo.ownBlock) : VX w B g wl A T c lo' (vals ++ [x]) oo overs W2 := by
  have hk0 : Kept (fun b => some b = lo.ownBlock) W (W.alloc cs) := Kept.of_below (S := fun b => some b = lo.ownBlock) ((Below.refl _ W).alloc (Nat.le_refl _) _)
  have hk := hk0.grown hg (fun k e => .inl e.symm)
  have hob : ∀ b, some b = lo.ownBlock → B + 1 + 1 + 1 ≤ b := fun b e => (h.own.lt b e.symm).1
  have hsz := h.bel.size
  have hB := h.hB
  refine ⟨h.sg.kept hk (fun e => by have := hob _ e; omega), h.wd.kept hk (fun e => by have := hob _ e; omega), h.tb.kept hk (fun e => by have := hob _ e; omega), h.hB, ?_, own_kept h.oown hk (fun b e hb => own_own_ne h.oown h.own (by decide) e hb.symm), h.bel.trans (hk.below (by omega) (fun k e => by have := hob k e; omega))⟩
  rw [List.length_append, List.map_append]
  exact ho
theorem VX.push2 (h : VX w B g wl A T c lo vals oo overs W) {x : Bool} {oo' : Value} (ho : W2.ownsRow (B + 1 + 1 + 1) 4 1 oo' (overs.length + 1) (overs.map Value.bool ++ #[Value.bool x].toList)) {cs : Obj} (hg : (W.alloc cs).grownBy W2 oo.ownBlock) : VX w B g wl A T c lo vals oo' (overs ++ [x]) W2 := by
  have hk0 : Kept (fun b => some b = oo.ownBlock) W (W.alloc cs) := Kept.of_below (S := fun b => some b = oo.ownBlock) ((Below.refl _ W).alloc (Nat.le_refl _) _)
  have hk := hk0.grown hg (fun k e => .inl e.symm)
  have hob : ∀ b, some b = oo.ownBlock → B + 1 + 1 + 1 ≤ b := fun b e => (h.oown.lt b e.symm).1
  have hsz := h.bel.size
  have hB := h.hB
  refine ⟨h.sg.kept hk (fun e => by have := hob _ e; omega), h.wd.kept hk (fun e => by have := hob _ e; omega), h.tb.kept hk (fun e => by have := hob _ e; omega), h.hB, own_kept h.own hk (fun b e hb => own_own_ne h.own h.oown (by decide) e hb.symm), ?_, h.bel.trans (hk.below (by omega) (fun k e => by have := hob k e; omega))⟩
  rw [List.length_append, List.map_append]
  exact ho
end
structure IX (w : World) (B : Nat) (g : SigV) (wl : WldV) (A : Option Addr) (T : List Nd) (c : Nat) (lo : Value) (vals : List Int) (oo : Value) (overs : List Bool) (X : Nat) (n : Nd) (j : Nat) (sv : Value) (W : World) : Prop where
  vx : VX w B g wl A T c lo vals oo overs W
  nd : Blk W X 48 (nodeCells n).toArray
  hX : B + 1 + 1 + 1 ≤ X
  lo_ : ∀ b, lo.ownBlock = some b → b < X
  oo_ : ∀ b, oo.ownBlock = some b → b < X
  own : W.ownsRow (X + 1) 3 1 sv j (((List.range n.len.toNat).take j).map fun k => Value.int .i64 (vf vals (n.arg k)))
section
variable {w W W2 : World} {B : Nat} {g : SigV} {wl : WldV} {A : Option Addr} {T : List Nd} {c : Nat} {lo oo : Value} {vals : List Int} {overs : List Bool} {X : Nat} {n : Nd} {j : Nat} {sv : Value}
theorem VX.box (h : VX w B g wl A T c lo vals oo overs W) (n : Nd) : IX w B g wl A T c lo vals oo overs W.heap.size n 0 (.slice none 0 0) (W.alloc (.cells (nodeCells n).toArray 48)) :=
  ⟨h.below ((Below.refl _ W).alloc (Nat.le_refl _) _), Blk.new _ _ _, h.tb.lt, fun b e => (h.own.lt b e).2, fun b e => (h.oown.lt b e).2, World.ownsRow_nil _ _ _ _⟩
theorem IX.push (h : IX w B g wl A T c lo vals oo overs X n j sv W) (hj : j < n.len.toNat) {x : Int} (hx : vf vals (n.arg j) = x) {sv' : Value}
    (ho : W2.ownsRow (X + 1) 3 1 sv' (j + 1) (((List.range n.len.toNat).take j).map (fun k => Value.int .i64 (vf vals (n.arg k))) ++ #[Value.int .i64 x].toList)) {cs : Obj} (hg : (W.alloc cs).grownBy W2 sv.ownBlock) : IX w B g wl A T c lo vals oo overs X n (j + 1) sv' W2 := by
  have hk0 : Kept (fun b => some b = sv.ownBlock) W (W.alloc cs) := Kept.of_below (S := fun b => some b = sv.ownBlock) ((Below.refl _ W).alloc (Nat.le_refl _) _)
  have hk := hk0.grown hg (fun k e => .inl e.symm)
  have hX := h.hX
  have hob : ∀ b, some b = sv.ownBlock → X + 1 ≤ b := fun b e => (h.own.lt b e.symm).1
  refine ⟨h.vx.kept hk (fun b e => ⟨by have := hob b e; omega, fun e2 => by have := hob b e; have := h.lo_ b e2; omega, fun e2 => by have := hob b e; have := h.oo_ b e2; omega⟩), h.nd.kept hk (fun e => by have := hob _ e; omega), h.hX, h.lo_, h.oo_, ?_⟩
  rw [List.take_add_one, List.getElem?_range hj, List.map_append]
  simpa [hx] using ho
end
set_option maxRecDepth 100000 in
set_option maxHeartbeats 4000000 in
theorem value_13x {w : World} {g : SigV} {wl : WldV} {qs : Nat → Bool} {sf : Nat → Nat → ByteArray} {zf : Nat → Nat → Int} {n : Nd} {A : Option Addr} {L : List Int} (c : Nat) (hop : n.op = 13) (hg : SigAt w g) (hd : SigX w g qs sf zf) (hw : WldAt w wl) (hwf : WldWf wl) (hL : Row w A L) (h3 : L.length ≤ 3) (hI : ∀ x ∈ L, I64 x) :
    Calls Tryz.prog 20 #[.agg g.cells, .agg wl.cells, nodeVal n, .slice A L.length c] w (fun e w' => ∃ x, e = .returned (.tuple #[.int .i64 x, .bool true]) ∧ (AppV g wl n.fn x ∧ x = applyM g wl qs sf zf n.fn L) ∧ Below w.heap.size w w') := by
  obtain ⟨w0, hw0⟩ : ∃ w0, ((w.alloc (.cells g.cells 26)).alloc (.cells wl.cells 30)).alloc (.cells (nodeCells n).toArray 48) = w0 := ⟨_, rfl⟩
  have HB0 : Hid (Below w.heap.size w w0) := Lib.hid (by rw [← hw0]; exact (((Below.refl _ w).alloc (Nat.le_refl _) _).alloc (by simp) _).alloc (by simp; omega) _)
  have HN0 : Hid (Blk w0 (w.heap.size + 1 + 1) 48 (nodeCells n).toArray) := Lib.hid (by rw [← hw0]; exact Blk.new_at (by simp) _ _)
  have HG0 : Hid (Blk w0 w.heap.size 26 g.cells) := Lib.hid (by rw [← hw0]; exact ((Blk.new w 26 g.cells).alloc _).alloc _)
  have HV0 : Hid (Blk w0 (w.heap.size + 1) 30 wl.cells) := Lib.hid (by rw [← hw0]; exact (Blk.new_at (by simp) _ _).alloc _)
  have HGC : Hid (g.cells = #[.slice g.A0 g.sorts.length g.c0, .slice g.A1 g.funs.length g.c1, .slice g.A2 g.macs.length g.c2]) := Lib.hid rfl
  have HVC : Hid (wl.cells = #[.slice wl.A0 wl.sizes.length wl.c0, .slice wl.A1 wl.funs.length wl.c1]) := Lib.hid rfl
  have KA := Lib.hid (xapply_ok c (hg.below HB0.out) (hd.below HB0.out) (hw.below HB0.out) hwf (hL.below HB0.out) h3 hI n.fn)
  obtain ⟨x0, x1, x2⟩ := sig_blk HG0.out
  obtain ⟨x3, x4⟩ := wld_blk HV0.out
  obtain ⟨F, hF⟩ : ∃ F, applyM g wl qs sf zf = F := ⟨_, rfl⟩
  rw [hF] at KA ⊢
  clear hg hd hw hwf hL hI hF
  obtain ⟨op, len, q0, q1, q2, srt, fn, num⟩ := n
  simp only at hop KA ⊢
  subst hop
  have n0 : w0.cell? ⟨w.heap.size + 1 + 1, 0, none⟩ = some (.int .i8 13) := HN0.out.cell 0
  have n6 : w0.cell? ⟨w.heap.size + 1 + 1, 6, none⟩ = some (.int .i64 fn) := HN0.out.cell 6
  rw [HGC.out, HVC.out] at hw0 KA ⊢
  unfold nodeVal
  unfold nodeCells at *
  have HW0 := Lib.hid hw0
  clear hw0 HN0 HG0 HV0
  go_enter Tryz.func20, Tryz.ntmps20
  go_upto_region 1 with fail
  rw [HW0.out]
  clear HW0
  go_wp2_with fail
  refine KA.out.mono ?_
  rintro e w1 ⟨er, rfl, hx, hb1⟩
  generalize hxF : F fn L = x at *
  have HX := Lib.hid hx
  have HB1 := Lib.hid (HB0.out.trans (hb1.mono HB0.out.size))
  clear hx hb1
  go_wp2
  refine bodyPost_ret (v := .tuple #[.int .i64 x, .bool true]) (by simp [results, Tryz.results20, go_sem]) rfl ⟨x, rfl, ⟨HX.out, hxF.symm⟩, HB1.out⟩
def SigDD (w : World) (g : SigV) (qs : Nat → Bool) (sf : Nat → Nat → ByteArray) (zf : Nat → Nat → Int) : Prop := SigDeep w g ∧ SigX w g qs sf zf
theorem SigDD.below {w w' : World} {g : SigV} {qs : Nat → Bool} {sf : Nat → Nat → ByteArray} {zf : Nat → Nat → Int} (h : SigDD w g qs sf zf) (hb : Below w.heap.size w w') : SigDD w' g qs sf zf := ⟨h.1.below hb, h.2.below hb⟩
def ValSX (AF : Int → List Int → Int) (n : Nd) (L : List Int) (x : Int) : Prop := ValSem n L x ∧ (n.op = 13 → x = AF n.fn L)
def ValX (AF : Int → List Int → Int) (n : Nd) (L : List Int) (w : World) (e : Ending) (w' : World) : Prop := ∃ x ok, e = .returned (.tuple #[.int .i64 x, .bool ok]) ∧ I64 x ∧ (ok = true → ValSX AF n L x) ∧ Below w.heap.size w w'
theorem value_x {w : World} {g : SigV} {wl : WldV} {qs : Nat → Bool} {sf : Nat → Nat → ByteArray} {zf : Nat → Nat → Int} {T : List Nd} {n : Nd} {a : Int} {A : Option Addr} {L : List Int} (c : Nat) (hg : SigAt w g) (hd : SigDD w g qs sf zf) (hw : WldAt w wl) (hwf : WldWf wl) (hS : Stands n a) (hr : RuleOk g T n) (hL : Row w A L) (hl : (L.length : Int) = n.len) (hf : FitS (argSorts T n) L) (hI : ∀ x ∈ L, I64 x) :
    Calls Tryz.prog 20 #[.agg g.cells, .agg wl.cells, nodeVal n, .slice A L.length c] w (ValX (applyM g wl qs sf zf) n L w) := by
  by_cases h13 : n.op = 13
  · refine (value_13x c h13 hg hd.2 hw hwf hL (by have := hS.len; omega) hI).mono ?_
    rintro e w' ⟨x, rfl, ⟨hx, hxa⟩, hb⟩
    exact ⟨x, true, rfl, hx.1, fun _ => ⟨ValSem.appV hr h13 hx, fun _ => hxa⟩, hb⟩
  · refine (value_ok c hg hd.1 hw hwf hS hr hL hl hf hI h13).mono ?_
    rintro e w' ⟨x, ok, he, hx, hs, hb⟩
    exact ⟨x, ok, he, hx, fun h => ⟨hs h, fun h' => absurd h' h13⟩, hb⟩
structure VFX (AF : Int → List Int → Int) (T : List Nd) (i : Nat) (vals : List Int) (overs : List Bool) : Prop extends VF T i vals overs where
  app : ∀ k : Nat, k < i → overs.getD k true = false → (ndAt T k).op = 13 → vf vals (k : Int) = AF (ndAt T k).fn (argVals vals (ndAt T k))
theorem VFX.nil (AF : Int → List Int → Int) (T : List Nd) : VFX AF T 0 [] [] := ⟨VF.nil T, fun k hk => absurd hk (by omega)⟩
theorem argVals_push {vals : List Int} {x : Int} {n : Nd} {i : Nat} (hs : Stands n i) (hi : i ≤ vals.length) : argVals (vals ++ [x]) n = argVals vals n := by
  unfold argVals
  refine List.map_congr_left fun j hj => ?_
  have hj := List.mem_range.1 hj
  have h3 := hs.len
  have := hs.arg_lt j (by omega) (by omega)
  exact vf_append x (by omega)
theorem VFX.push {AF : Int → List Int → Int} {T : List Nd} {i : Nat} {vals : List Int} {overs : List Bool} (h : VFX AF T i vals overs) (hT : TabOk T) (hi : i < T.length) {x : Int} {o : Bool} (hx : I64 x) (ho : o = false → ValSX AF T[i] (argVals vals T[i]) x) : VFX AF T (i + 1) (vals ++ [x]) (overs ++ [o]) := by
  refine ⟨h.toVF.push hT hi hx (fun e => (ho e).1), fun k hk hok h13 => ?_⟩
  have l1 := h.l1
  have l2 := h.l2
  have hkT : k < T.length := by omega
  have hst : Stands T[k] k := hT.st k _ (List.getElem?_eq_getElem hkT)
  rw [ndAt_nat hkT] at h13 ⊢
  rw [argVals_push hst (by omega)]
  by_cases hki : k < i
  · rw [List.getD_eq_getElem?_getD, List.getElem?_append_left (by omega), ← List.getD_eq_getElem?_getD] at hok
    have := h.app k hki hok (by rw [ndAt_nat hkT]; exact h13)
    rw [ndAt_nat hkT] at this
    rw [vf_append x (by omega)]
    exact this
  · obtain rfl : i = k := by omega
    rw [List.getD_eq_getElem?_getD, List.getElem?_append_right (by omega), l2, Nat.sub_self] at hok
    rw [show vf (vals ++ [x]) (i : Int) = x by rw [← l1]; exact vf_last vals x]
    exact (ho hok).2 h13
def ValsX (AF : Int → List Int → Int) (g : SigV) (wl : WldV) (T : List Nd) (w : World) (e : Ending) (w' : World) : Prop :=
  ∃ (v1 v2 : Value) (er : Int), e = .returned (.tuple #[v1, v2, .int .i64 er]) ∧ (er = 0 → TabOk T ∧ MayW g wl ∧ (∀ n ∈ T, RuleOk g T n) ∧ ∃ vals overs, VFX AF T T.length vals overs ∧ w'.ownsRow w.heap.size 3 1 v1 T.length (vals.map (Value.int .i64)) ∧ w'.ownsRow w.heap.size 4 1 v2 T.length (overs.map Value.bool)) ∧ Below w.heap.size w w'
theorem ValsX.no {AF : Int → List Int → Int} {g : SigV} {wl : WldV} {T : List Nd} {w w' : World} {er : Int} (he : er ≠ 0) (h : Below w.heap.size w w') : ValsX AF g wl T w (.returned (.tuple #[.slice none 0 0, .slice none 0 0, .int .i64 er])) w' := ⟨_, _, er, rfl, fun e => absurd e he, h⟩
theorem bool_info : (Tryz.prog.info? 4).map (fun i => (i.zero, i.size, i.bytes)) = some (some (.bool false), 1, 1) := by kernel_rfl
theorem tab_box {w : World} {B : Nat} {A : Option Addr} {n c : Nat} (h : Blk w B 33 #[.slice A n c]) : w.cell? ⟨B, 0, none⟩ = some (.slice A n c) := h.cell 0
theorem nd_arg {W : World} {X : Nat} {n : Nd} {j k : Nat} (h : Blk W X 48 (nodeCells n).toArray) (hj : j < 3) (hk : n.arg j = k) : W.cell? ⟨X, 2 + j, none⟩ = some (.int .i64 (k : Int)) := by
  rw [← hk]
  rcases (show j = 0 ∨ j = 1 ∨ j = 2 by omega) with rfl | rfl | rfl
  · exact h.cell 2
  · exact h.cell 3
  · exact h.cell 4
theorem own_int_at {W : World} {base n q cap k : Nat} {vals : List Int} (h : W.ownsRow base 3 1 (.slice (some ⟨q, 0, none⟩) n cap) n (vals.map (Value.int .i64))) (hk : k < vals.length) : W.cell? ⟨q, k, none⟩ = some (.int .i64 (vf vals (k : Int))) := by
  have := h.cells (g := q) rfl k (.int .i64 (vf vals (k : Int))) (by rw [List.getElem?_map, List.getElem?_eq_getElem hk]; unfold vf; rw [Int.toNat_natCast, List.getD_eq_getElem?_getD, List.getElem?_eq_getElem hk]; rfl)
  rwa [addr_add] at this
theorem own_bool_at {W : World} {base n q cap k : Nat} {vals : List Bool} (h : W.ownsRow base 4 1 (.slice (some ⟨q, 0, none⟩) n cap) n (vals.map Value.bool)) (hk : k < vals.length) : W.cell? ⟨q, k, none⟩ = some (.bool (vals.getD k true)) := by
  have := h.cells (g := q) rfl k (.bool (vals.getD k true)) (by rw [List.getElem?_map, List.getElem?_eq_getElem hk, List.getD_eq_getElem?_getD, List.getElem?_eq_getElem hk]; rfl)
  rwa [addr_add] at this
end Go.Proofs.YtkapbdjobfbhhaaGreat

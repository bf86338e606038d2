/- The reference's write. -/
import Derived.Test.YtiklliiamljogaaGreatDoorPfE
namespace Go.Proofs.YtiklliiamljogaaGreatDoor
open Go.RowKit

/-- Leaves as they stand in a row. -/
def numC (n : Int) : C3 := ⟨1, numB n, none, 0, 0⟩
def symC (t : List UInt8) : C3 := ⟨0, ⟨t.toArray⟩, none, 0, 0⟩
/-- A row of one's own of expressions that have no rows themselves. -/
structure Lvs (w : World) (D : Nat) (sv : Value) (cs : List C3) (xs : List Sx) : Prop where
  own : w.ownsRow D 28 3 sv cs.length (cs.flatMap C3.cells)
  len : cs.length = xs.length
  leaf : ∀ i (h : i < cs.length), ∀ S w', Lies S w' (cs[i]).val (xs[i]'(len ▸ h))
theorem Lvs.acc {w : World} {D : Nat} {sv : Value} {cs : List C3} {xs : List Sx} (h : Lvs w D sv cs xs) : Acc w D sv cs xs := ⟨h.own, h.len, fun i hi => h.leaf i hi _ _⟩
theorem Lvs.of_acc {w : World} {D : Nat} {sv : Value} {cs : List C3} {xs : List Sx} (h : Acc w D sv cs xs) (hl : ∀ i (hi : i < cs.length), ∀ S w', Lies S w' (cs[i]).val (xs[i]'(h.len ▸ hi))) : Lvs w D sv cs xs := ⟨h.own, h.len, hl⟩
theorem Lvs.nil (w : World) (D : Nat) : Lvs w D (.slice none 0 0) [] [] := ⟨World.ownsRow_nil _ _ _ _, rfl, fun _ h => absurd h (Nat.not_lt_zero _)⟩
theorem Lvs.kept {w w' : World} {K : Nat → Prop} {D : Nat} {sv : Value} {cs : List C3} {xs : List Sx} (h : Lvs w D sv cs xs) (hk : Kept K w w') (hK : ∀ g, sv.ownBlock = some g → ¬ K g) : Lvs w' D sv cs xs := ⟨own_kept h.own hk hK, h.len, h.leaf⟩
theorem Lvs.keep {w w' : World} {D : Nat} {sv : Value} {cs : List C3} {xs : List Sx} (h : Lvs w D sv cs xs) (hb : Below w.heap.size w w') : Lvs w' D sv cs xs := h.kept (Kept.of_below (S := fun _ => False) hb) (fun _ _ h => h)
theorem Lvs.base {w : World} {D D' : Nat} {sv : Value} {cs : List C3} {xs : List Sx} (h : Lvs w D sv cs xs) (hD : D' ≤ D) : Lvs w D' sv cs xs := ⟨own_base h.own fun g hg => Nat.le_trans hD (h.own.lt g hg).1, h.len, h.leaf⟩
theorem Lvs.push {w : World} {D g cap : Nat} {cs : List C3} {xs : List Sx} {y : C3} {X : Sx} {sv0 : Value} {w0 : World} (h0 : Lvs w0 D sv0 cs xs) (h : Acc w D (.slice (some ⟨g, 0, none⟩) (cs.length + 1) cap) (cs ++ [y]) (xs ++ [X])) (hy : ∀ S w', Lies S w' y.val X) : Lvs w D (.slice (some ⟨g, 0, none⟩) (cs.length + 1) cap) (cs ++ [y]) (xs ++ [X]) :=
  Lvs.of_acc h fun i hi S w' => by
    rcases Nat.lt_or_ge i cs.length with h1 | h1
    · rw [List.getElem_append_left h1, List.getElem_append_left (h0.len ▸ h1)]
      exact h0.leaf i h1 S w'
    · rw [List.length_append, List.length_singleton] at hi
      obtain rfl : i = cs.length := by omega
      rw [List.getElem_append_right (Nat.le_refl _), List.getElem_append_right (by rw [h0.len]; exact Nat.le_refl _)]
      simpa using hy S w'
theorem Lvs.one (w : World) (y : C3) (X : Sx) (hy : ∀ S w', Lies S w' y.val X) : Lvs (w.alloc (.cells #[.int .i8 y.k, .string y.t, .slice y.A y.n y.c] 28)) w.heap.size (.slice (some ⟨w.heap.size, 0, none⟩) 1 1) [y] [X] :=
  Lvs.of_acc (Acc.one w y X (hy _ _)) fun i hi S w' => by
    obtain rfl : i = 0 := by have : i < 1 := hi; omega
    exact hy S w'
theorem num_lies (n : Int) (S : Nat → Prop) (w : World) : Lies S w (numC n).val (numS n) := leaf_num S w n
theorem sym_lies (t : List UInt8) (S : Nat → Prop) (w : World) : Lies S w (symC t).val (symS t) := leaf_sym S w t


set_option maxHeartbeats 4000000 in
set_option maxRecDepth 100000 in
theorem rwrite_0 (s : Stp) (h0 : 0 ≤ s.k) (h6 : s.k < 6) (hk : manyK s.k = 0) (ha : fitN s.a = true) (hb : fitN s.b = true) (hl : s.l.all fitN = true) (hz : s.l.length ≤ 100000) (w w0 : World) (A : Option Addr) (c : Nat) (h : Box4 w s A c w0) :
    Calls Tryz.prog 29 #[.agg #[.int .i8 s.k, .int .i64 s.a, .int .i64 s.b, .slice A s.l.length c]] w fun e w' => (∃ y : C3, Lies (fun b => w.heap.size ≤ b) w' y.val (.mk 3 [] (symS (headK s.k) :: (([] : List Int).map numS ++ [.mk 3 [] (s.l.map numS)]))) ∧ e = .returned (.agg #[.int .i8 y.k, .string y.t, .slice y.A y.n y.c])) ∧ Below w.heap.size w w' := by
  have e0 := h.eq
  have hs0 : w0.heap.size = w.heap.size + 1 := by rw [← e0]; simp
  obtain ⟨W, eW⟩ : ∃ W, w0.alloc (.cells #[.int .i8 0, .string ⟨#[]⟩, .slice none 0 0] 28) = W := ⟨_, rfl⟩
  have hsW : W.heap.size = w.heap.size + 2 := by rw [← eW]; simp; omega
  have hbW : Below w0.heap.size w0 W := eW ▸ (Below.refl _ w0).alloc (Nat.le_refl _) _
  have hRes : Blk W w0.heap.size 28 #[.int .i8 0, .string ⟨#[]⟩, .slice none 0 0] := eW ▸ Blk.new w0 _ _
  have HW := Lib.hid (h.below.trans (hbW.mono h.below.size))
  have HAT := Lib.hid (fun w1 (h1 : Below W.heap.size W w1) => h.at_ w1 (hbW.trans (h1.mono hbW.size)))
  have HROW := Lib.hid (fun w1 (h1 : Below W.heap.size W w1) => h.row w1 (hbW.trans (h1.mono hbW.size)))
  have HRES := Lib.hid (fun w1 (h1 : Below W.heap.size W w1) => hRes.below h1 hRes.lt)
  have HHD := Lib.hid (rhead_ok s.k h0 h6)
  have HMN := Lib.hid (rmany_ok s.k h0 h6)
  rw [hk] at HMN
  have HNA := Lib.hid (rnum_ok s.a ha)
  have HNB := Lib.hid (rnum_ok s.b hb)
  have HNL := Lib.hid (fun i (hi : i < s.l.length) => rnum_ok (s.l[i]) (List.all_eq_true.1 hl _ (List.getElem_mem hi)))
  have HCAP := Lib.hid h.cap
  obtain ⟨x0, x1, x2, x3⟩ := h.at_ W hbW
  clear h ha hb hl hk hbW hRes
  have HS0 := Lib.hid hs0
  clear hs0
  go_enter Tryz.func29, Tryz.ntmps29
  go_wp2_with (first
    | (go_at_call 52; refine (HHD.out _).mono ?_; rintro e w1 ⟨rfl, rfl⟩)
    | (go_at_call 28; refine (rsym_ok _ _).mono ?_; rintro e w2 ⟨rfl, hb2⟩; obtain ⟨w3, e3⟩ : ∃ w3, w2.alloc (.cells #[.int .i8 0, .string ⟨(headK s.k).toArray⟩, .slice none 0 0] 28) = w3 := ⟨_, rfl⟩; have hv3 := ((Lvs.one w2 (symC (headK s.k)) _ (sym_lies _)).base hb2.size); have hb3 := hb2.alloc hb2.size (.cells #[.int .i8 0, .string ⟨(headK s.k).toArray⟩, .slice none 0 0] 28); have hv3 : Lvs w3 W.heap.size (.slice (some ⟨w2.heap.size, 0, none⟩) 1 1) [symC (headK s.k)] [symS (headK s.k)] := e3 ▸ hv3; have hb3 : Below W.heap.size W w3 := e3 ▸ hb3; have HV3 := Lib.hid hv3; have HB3 := Lib.hid hb3; obtain ⟨y0, y1, y2, y3⟩ := HAT.out w3 hb3; clear hv3 hb2 hb3)
    | (go_at_call 53; refine (HMN.out _).mono ?_; rintro e w1 ⟨rfl, rfl⟩))
  have HE := Lib.hid HB3.out.size
  go_loopw [5, 6] (fun v d wx => Below w3.heap.size w3 wx ∧ ∃ i : Nat, i ≤ s.l.length ∧ d = .int .i64 i ∧ Lvs wx w3.heap.size v ((s.l.take i).map numC) ((s.l.take i).map numS)) (fun _ d _ => (s.l.length - intOf d).toNat)
  case atStart => exact ⟨Below.refl _ _, 0, Nat.zero_le _, rfl, Lvs.nil _ _⟩
  case round =>
    obtain ⟨hBx, i, hi, rfl, hvx⟩ := hrel
    have hBW := HB3.out.trans (hBx.mono HB3.out.size)
    obtain ⟨z0, z1, z2, z3⟩ := HAT.out wr hBW
    have HBX := Lib.hid hBx
    have HBW := Lib.hid hBW
    have HVX := Lib.hid hvx
    clear hBx hBW hvx
    by_cases hin : i < s.l.length
    · have hiz : (i : Int) < (s.l.length : Int) := by omega
      have d1 : decide ((i : Int) < s.l.length) = true := decide_eq_true hiz
      obtain ⟨b, off, rfl, hbl, hcl⟩ := (HROW.out wr HBW.out).at_.resolve_left (by omega)
      have c0 := hcl i hin
      have htk : s.l.take (i + 1) = s.l.take i ++ [s.l[i]] := List.take_succ_eq_append_getElem hin
      have HN := Lib.hid (HNL.out i hin)
      have HTK := Lib.hid htk
      obtain ⟨z, hzz⟩ : ∃ z, s.l[i] = z := ⟨_, rfl⟩
      rw [hzz] at HTK HN c0
      clear hcl htk hzz
      have hln : ((s.l.take i).map numC).length = i := by rw [List.length_map, List.length_take]; omega
      have HLN := Lib.hid hln
      clear hln
      go_wp2_with (first
        | (go_at_call 54; refine (HN.out _).mono ?_; rintro e wa ⟨rfl, hba⟩; have HBA := Lib.hid hba; have HVA := Lib.hid (HVX.out.keep hba); clear hba)
        | (at_builtin; refine acc_push_list wa rfl (.tmp 38) (.tmp 45) rfl w3.heap.size _ ((s.l.take i).map numC) ((s.l.take i).map numS) HVA.out.acc (Nat.le_trans HBX.out.size HBA.out.size) (numC z) (numS z) (num_lies _ _ _) (by rw [HLN.out]; omega) rfl rfl ?_; intro ga capa wb hAb hkb hatb; have HVB := Lib.hid (HVA.out.push hAb (num_lies z)); have HKB := Lib.hid hkb; clear hAb hkb hatb))
      go_roundw
      case rel =>
        refine ⟨(below_then HBX.out (Nat.le_refl _) HBA.out).trans (HKB.out.below (Nat.le_trans HBX.out.size HBA.out.size) (fun g hg => (HVA.out.own.lt g hg).1)), i + 1, by omega, by go_num, ?_⟩
        rw [HTK.out, List.map_append, List.map_append]
        have hvb := HVB.out
        rw [HLN.out] at hvb
        exact hvb
      case measure => simp only [intOf]; omega
    · have d1 : decide ((i : Int) < s.l.length) = false := decide_eq_false (by omega)
      have hall : s.l.take i = s.l := List.take_of_length_le (by omega)
      have HL2 := Lib.hid (show Lvs wr w3.heap.size u5 (s.l.map numC) (s.l.map numS) from by have := HVX.out; rwa [hall] at this)
      obtain ⟨A5, c5, rfl⟩ := own_slice HL2.out.own
      have hn5 : (s.l.map numC).length = s.l.length := List.length_map _
      rw [hn5] at HL2
      have hly : Lies (fun b => w3.heap.size ≤ b) wr (C3.val ⟨3, ⟨#[]⟩, A5, s.l.length, c5⟩) (.mk 3 [] (s.l.map numS)) := HL2.out.acc.lies (by rw [List.length_map]; omega)
      have hg1 := HV3.out.own.lt
      have HLY := Lib.hid (hly.mono (S' := fun b => W.heap.size ≤ b ∧ (Value.ownBlock (.slice (some ⟨w2.heap.size, 0, none⟩) 1 1)) ≠ some b) fun b _ hb => ⟨Nat.le_trans HE.out hb, fun e => by have := (hg1 b e).2; omega⟩)
      have HV1 := Lib.hid (HV3.out.keep HBX.out)
      clear hall HL2 hly hg1 hn5
      go_wp2_with (at_builtin; refine acc_push_list wr rfl (.tmp 47) (.tmp 50) rfl W.heap.size (.slice (some ⟨w2.heap.size, 0, none⟩) 1 1) ([symC (headK s.k)]) ([symS (headK s.k)]) HV1.out.acc HBW.out.size ⟨3, ⟨#[]⟩, A5, s.l.length, c5⟩ (.mk 3 [] (s.l.map numS)) HLY.out (by simp) rfl rfl ?_; intro gz capz wz hAz hkz hatz; have HAZ := Lib.hid hAz; have hbz := HBW.out.trans (hkz.below HBW.out.size (fun g hg => (HV1.out.own.lt g hg).1)); have HBZ := Lib.hid hbz; obtain ⟨r0, r1, r2, f0, f1, f2⟩ := blk3 (HRES.out wz hbz); clear hAz hkz hatz hbz)
      have hset := (HRES.out wz HBZ.out).set3 (.int .i8 3) (.string ⟨#[]⟩) (.slice (some ⟨gz, 0, none⟩) 2 capz)
      obtain ⟨v0, v1, v2, _⟩ := blk3 hset
      have hkf : Kept (fun i => i = w0.heap.size) wz (((wz.setCell ⟨w0.heap.size, 0, none⟩ (.int .i8 3)).setCell ⟨w0.heap.size, 1, none⟩ (.string ⟨#[]⟩)).setCell ⟨w0.heap.size, 2, none⟩ (.slice (some ⟨gz, 0, none⟩) 2 capz)) :=
        Kept.setCell (S := fun i => i = w0.heap.size) (Kept.setCell (S := fun i => i = w0.heap.size) (Kept.setCell (S := fun i => i = w0.heap.size) (Kept.refl _ wz) (p := ⟨w0.heap.size, 0, none⟩) (.inl rfl) _) (p := ⟨w0.heap.size, 1, none⟩) (.inl rfl) _) (p := ⟨w0.heap.size, 2, none⟩) (.inl rfl) _
      refine bodyPost_ret (v := .agg #[.int .i8 3, .string ⟨#[]⟩, .slice (some ⟨gz, 0, none⟩) 2 capz]) ?_ rfl ?_
      · simp [results, Tryz.results29, go_sem, v0, v1, v2]
      refine ⟨⟨⟨3, ⟨#[]⟩, some ⟨gz, 0, none⟩, 2, capz⟩, ?_, rfl⟩, ?_⟩
      · exact ((HAZ.out.lies (by simp)).kept hkf (fun b _ h1 h2 => by have := HS0.out; omega)).mono fun b _ h1 => by omega
      · exact HW.out.trans ((HBZ.out.mono HW.out.size).trans (hkf.below (by have := HBZ.out.size; omega) (fun k hk => by have := HS0.out; omega)))

set_option maxHeartbeats 4000000 in
set_option maxRecDepth 100000 in
theorem rwrite_1 (s : Stp) (h0 : 0 ≤ s.k) (h6 : s.k < 6) (hk : manyK s.k = 1) (ha : fitN s.a = true) (hb : fitN s.b = true) (hl : s.l.all fitN = true) (hz : s.l.length ≤ 100000) (w w0 : World) (A : Option Addr) (c : Nat) (h : Box4 w s A c w0) :
    Calls Tryz.prog 29 #[.agg #[.int .i8 s.k, .int .i64 s.a, .int .i64 s.b, .slice A s.l.length c]] w fun e w' => (∃ y : C3, Lies (fun b => w.heap.size ≤ b) w' y.val (.mk 3 [] (symS (headK s.k) :: (([s.a] : List Int).map numS ++ [.mk 3 [] (s.l.map numS)]))) ∧ e = .returned (.agg #[.int .i8 y.k, .string y.t, .slice y.A y.n y.c])) ∧ Below w.heap.size w w' := by
  have e0 := h.eq
  have hs0 : w0.heap.size = w.heap.size + 1 := by rw [← e0]; simp
  obtain ⟨W, eW⟩ : ∃ W, w0.alloc (.cells #[.int .i8 0, .string ⟨#[]⟩, .slice none 0 0] 28) = W := ⟨_, rfl⟩
  have hsW : W.heap.size = w.heap.size + 2 := by rw [← eW]; simp; omega
  have hbW : Below w0.heap.size w0 W := eW ▸ (Below.refl _ w0).alloc (Nat.le_refl _) _
  have hRes : Blk W w0.heap.size 28 #[.int .i8 0, .string ⟨#[]⟩, .slice none 0 0] := eW ▸ Blk.new w0 _ _
  have HW := Lib.hid (h.below.trans (hbW.mono h.below.size))
  have HAT := Lib.hid (fun w1 (h1 : Below W.heap.size W w1) => h.at_ w1 (hbW.trans (h1.mono hbW.size)))
  have HROW := Lib.hid (fun w1 (h1 : Below W.heap.size W w1) => h.row w1 (hbW.trans (h1.mono hbW.size)))
  have HRES := Lib.hid (fun w1 (h1 : Below W.heap.size W w1) => hRes.below h1 hRes.lt)
  have HHD := Lib.hid (rhead_ok s.k h0 h6)
  have HMN := Lib.hid (rmany_ok s.k h0 h6)
  rw [hk] at HMN
  have HNA := Lib.hid (rnum_ok s.a ha)
  have HNB := Lib.hid (rnum_ok s.b hb)
  have HNL := Lib.hid (fun i (hi : i < s.l.length) => rnum_ok (s.l[i]) (List.all_eq_true.1 hl _ (List.getElem_mem hi)))
  have HCAP := Lib.hid h.cap
  obtain ⟨x0, x1, x2, x3⟩ := h.at_ W hbW
  clear h ha hb hl hk hbW hRes
  have HS0 := Lib.hid hs0
  clear hs0
  go_enter Tryz.func29, Tryz.ntmps29
  go_wp2_with (first
    | (go_at_call 52; refine (HHD.out _).mono ?_; rintro e w1 ⟨rfl, rfl⟩)
    | (go_at_call 28; refine (rsym_ok _ _).mono ?_; rintro e w2 ⟨rfl, hb2⟩; obtain ⟨w3, e3⟩ : ∃ w3, w2.alloc (.cells #[.int .i8 0, .string ⟨(headK s.k).toArray⟩, .slice none 0 0] 28) = w3 := ⟨_, rfl⟩; have hv3 := ((Lvs.one w2 (symC (headK s.k)) _ (sym_lies _)).base hb2.size); have hb3 := hb2.alloc hb2.size (.cells #[.int .i8 0, .string ⟨(headK s.k).toArray⟩, .slice none 0 0] 28); have hv3 : Lvs w3 W.heap.size (.slice (some ⟨w2.heap.size, 0, none⟩) 1 1) [symC (headK s.k)] [symS (headK s.k)] := e3 ▸ hv3; have hb3 : Below W.heap.size W w3 := e3 ▸ hb3; have HV3 := Lib.hid hv3; have HB3 := Lib.hid hb3; obtain ⟨y0, y1, y2, y3⟩ := HAT.out w3 hb3; clear hv3 hb2 hb3)
    | (go_at_call 53; refine (HMN.out _).mono ?_; rintro e w1 ⟨rfl, rfl⟩)
    | (go_at_call 54; (with_reducible refine (HNA.out _).mono ?_); rintro e w4 ⟨rfl, hb4⟩; have HB4 := Lib.hid (HB3.out.trans (hb4.mono HB3.out.size)); have HV4 := Lib.hid (HV3.out.keep hb4); clear hb4)
    | (at_builtin; refine acc_push_list w4 rfl (.tmp 17) (.tmp 21) rfl W.heap.size (.slice (some ⟨w2.heap.size, 0, none⟩) 1 1) ([symC (headK s.k)]) ([symS (headK s.k)]) HV4.out.acc HB4.out.size (numC s.a) (numS s.a) (num_lies _ _ _) (by simp) rfl rfl ?_; intro g4 cap4 w5 hA5 hk5 hat5; have HV5 := Lib.hid (HV4.out.push hA5 (num_lies s.a)); have hb5 := HB4.out.trans (hk5.below HB4.out.size (fun g hg => (HV4.out.own.lt g hg).1)); have HB5 := Lib.hid hb5; obtain ⟨q40, q41, q42, q43⟩ := HAT.out w5 hb5; clear hA5 hk5 hat5 hb5))
  have HE := Lib.hid HB5.out.size
  go_loopw [5, 6] (fun v d wx => Below w5.heap.size w5 wx ∧ ∃ i : Nat, i ≤ s.l.length ∧ d = .int .i64 i ∧ Lvs wx w5.heap.size v ((s.l.take i).map numC) ((s.l.take i).map numS)) (fun _ d _ => (s.l.length - intOf d).toNat)
  case atStart => exact ⟨Below.refl _ _, 0, Nat.zero_le _, rfl, Lvs.nil _ _⟩
  case round =>
    obtain ⟨hBx, i, hi, rfl, hvx⟩ := hrel
    have hBW := HB5.out.trans (hBx.mono HB5.out.size)
    obtain ⟨z0, z1, z2, z3⟩ := HAT.out wr hBW
    have HBX := Lib.hid hBx
    have HBW := Lib.hid hBW
    have HVX := Lib.hid hvx
    clear hBx hBW hvx
    by_cases hin : i < s.l.length
    · have hiz : (i : Int) < (s.l.length : Int) := by omega
      have d1 : decide ((i : Int) < s.l.length) = true := decide_eq_true hiz
      obtain ⟨b, off, rfl, hbl, hcl⟩ := (HROW.out wr HBW.out).at_.resolve_left (by omega)
      have c0 := hcl i hin
      have htk : s.l.take (i + 1) = s.l.take i ++ [s.l[i]] := List.take_succ_eq_append_getElem hin
      have HN := Lib.hid (HNL.out i hin)
      have HTK := Lib.hid htk
      obtain ⟨z, hzz⟩ : ∃ z, s.l[i] = z := ⟨_, rfl⟩
      rw [hzz] at HTK HN c0
      clear hcl htk hzz
      have hln : ((s.l.take i).map numC).length = i := by rw [List.length_map, List.length_take]; omega
      have HLN := Lib.hid hln
      clear hln
      go_wp2_with (first
        | (go_at_call 54; refine (HN.out _).mono ?_; rintro e wa ⟨rfl, hba⟩; have HBA := Lib.hid hba; have HVA := Lib.hid (HVX.out.keep hba); clear hba)
        | (at_builtin; refine acc_push_list wa rfl (.tmp 38) (.tmp 45) rfl w5.heap.size _ ((s.l.take i).map numC) ((s.l.take i).map numS) HVA.out.acc (Nat.le_trans HBX.out.size HBA.out.size) (numC z) (numS z) (num_lies _ _ _) (by rw [HLN.out]; omega) rfl rfl ?_; intro ga capa wb hAb hkb hatb; have HVB := Lib.hid (HVA.out.push hAb (num_lies z)); have HKB := Lib.hid hkb; clear hAb hkb hatb))
      go_roundw
      case rel =>
        refine ⟨(below_then HBX.out (Nat.le_refl _) HBA.out).trans (HKB.out.below (Nat.le_trans HBX.out.size HBA.out.size) (fun g hg => (HVA.out.own.lt g hg).1)), i + 1, by omega, by go_num, ?_⟩
        rw [HTK.out, List.map_append, List.map_append]
        have hvb := HVB.out
        rw [HLN.out] at hvb
        exact hvb
      case measure => simp only [intOf]; omega
    · have d1 : decide ((i : Int) < s.l.length) = false := decide_eq_false (by omega)
      have hall : s.l.take i = s.l := List.take_of_length_le (by omega)
      have HL2 := Lib.hid (show Lvs wr w5.heap.size u5 (s.l.map numC) (s.l.map numS) from by have := HVX.out; rwa [hall] at this)
      obtain ⟨A5, c5, rfl⟩ := own_slice HL2.out.own
      have hn5 : (s.l.map numC).length = s.l.length := List.length_map _
      rw [hn5] at HL2
      have hly : Lies (fun b => w5.heap.size ≤ b) wr (C3.val ⟨3, ⟨#[]⟩, A5, s.l.length, c5⟩) (.mk 3 [] (s.l.map numS)) := HL2.out.acc.lies (by rw [List.length_map]; omega)
      have hg1 := HV5.out.own.lt
      have HLY := Lib.hid (hly.mono (S' := fun b => W.heap.size ≤ b ∧ (Value.ownBlock (.slice (some ⟨g4, 0, none⟩) 2 cap4)) ≠ some b) fun b _ hb => ⟨Nat.le_trans HE.out hb, fun e => by have := (hg1 b e).2; omega⟩)
      have HV1 := Lib.hid (HV5.out.keep HBX.out)
      clear hall HL2 hly hg1 hn5
      go_wp2_with (at_builtin; refine acc_push_list wr rfl (.tmp 47) (.tmp 50) rfl W.heap.size (.slice (some ⟨g4, 0, none⟩) 2 cap4) ([symC (headK s.k)] ++ [numC s.a]) ([symS (headK s.k)] ++ [numS s.a]) HV1.out.acc HBW.out.size ⟨3, ⟨#[]⟩, A5, s.l.length, c5⟩ (.mk 3 [] (s.l.map numS)) HLY.out (by simp) rfl rfl ?_; intro gz capz wz hAz hkz hatz; have HAZ := Lib.hid hAz; have hbz := HBW.out.trans (hkz.below HBW.out.size (fun g hg => (HV1.out.own.lt g hg).1)); have HBZ := Lib.hid hbz; obtain ⟨r0, r1, r2, f0, f1, f2⟩ := blk3 (HRES.out wz hbz); clear hAz hkz hatz hbz)
      have hset := (HRES.out wz HBZ.out).set3 (.int .i8 3) (.string ⟨#[]⟩) (.slice (some ⟨gz, 0, none⟩) 3 capz)
      obtain ⟨v0, v1, v2, _⟩ := blk3 hset
      have hkf : Kept (fun i => i = w0.heap.size) wz (((wz.setCell ⟨w0.heap.size, 0, none⟩ (.int .i8 3)).setCell ⟨w0.heap.size, 1, none⟩ (.string ⟨#[]⟩)).setCell ⟨w0.heap.size, 2, none⟩ (.slice (some ⟨gz, 0, none⟩) 3 capz)) :=
        Kept.setCell (S := fun i => i = w0.heap.size) (Kept.setCell (S := fun i => i = w0.heap.size) (Kept.setCell (S := fun i => i = w0.heap.size) (Kept.refl _ wz) (p := ⟨w0.heap.size, 0, none⟩) (.inl rfl) _) (p := ⟨w0.heap.size, 1, none⟩) (.inl rfl) _) (p := ⟨w0.heap.size, 2, none⟩) (.inl rfl) _
      refine bodyPost_ret (v := .agg #[.int .i8 3, .string ⟨#[]⟩, .slice (some ⟨gz, 0, none⟩) 3 capz]) ?_ rfl ?_
      · simp [results, Tryz.results29, go_sem, v0, v1, v2]
      refine ⟨⟨⟨3, ⟨#[]⟩, some ⟨gz, 0, none⟩, 3, capz⟩, ?_, rfl⟩, ?_⟩
      · exact ((HAZ.out.lies (by simp)).kept hkf (fun b _ h1 h2 => by have := HS0.out; omega)).mono fun b _ h1 => by omega
      · exact HW.out.trans ((HBZ.out.mono HW.out.size).trans (hkf.below (by have := HBZ.out.size; omega) (fun k hk => by have := HS0.out; omega)))

set_option maxHeartbeats 4000000 in
set_option maxRecDepth 100000 in
theorem rwrite_2 (s : Stp) (h0 : 0 ≤ s.k) (h6 : s.k < 6) (hk : manyK s.k = 2) (ha : fitN s.a = true) (hb : fitN s.b = true) (hl : s.l.all fitN = true) (hz : s.l.length ≤ 100000) (w w0 : World) (A : Option Addr) (c : Nat) (h : Box4 w s A c w0) :
    Calls Tryz.prog 29 #[.agg #[.int .i8 s.k, .int .i64 s.a, .int .i64 s.b, .slice A s.l.length c]] w fun e w' => (∃ y : C3, Lies (fun b => w.heap.size ≤ b) w' y.val (.mk 3 [] (symS (headK s.k) :: (([s.a, s.b] : List Int).map numS ++ [.mk 3 [] (s.l.map numS)]))) ∧ e = .returned (.agg #[.int .i8 y.k, .string y.t, .slice y.A y.n y.c])) ∧ Below w.heap.size w w' := by
  have e0 := h.eq
  have hs0 : w0.heap.size = w.heap.size + 1 := by rw [← e0]; simp
  obtain ⟨W, eW⟩ : ∃ W, w0.alloc (.cells #[.int .i8 0, .string ⟨#[]⟩, .slice none 0 0] 28) = W := ⟨_, rfl⟩
  have hsW : W.heap.size = w.heap.size + 2 := by rw [← eW]; simp; omega
  have hbW : Below w0.heap.size w0 W := eW ▸ (Below.refl _ w0).alloc (Nat.le_refl _) _
  have hRes : Blk W w0.heap.size 28 #[.int .i8 0, .string ⟨#[]⟩, .slice none 0 0] := eW ▸ Blk.new w0 _ _
  have HW := Lib.hid (h.below.trans (hbW.mono h.below.size))
  have HAT := Lib.hid (fun w1 (h1 : Below W.heap.size W w1) => h.at_ w1 (hbW.trans (h1.mono hbW.size)))
  have HROW := Lib.hid (fun w1 (h1 : Below W.heap.size W w1) => h.row w1 (hbW.trans (h1.mono hbW.size)))
  have HRES := Lib.hid (fun w1 (h1 : Below W.heap.size W w1) => hRes.below h1 hRes.lt)
  have HHD := Lib.hid (rhead_ok s.k h0 h6)
  have HMN := Lib.hid (rmany_ok s.k h0 h6)
  rw [hk] at HMN
  have HNA := Lib.hid (rnum_ok s.a ha)
  have HNB := Lib.hid (rnum_ok s.b hb)
  have HNL := Lib.hid (fun i (hi : i < s.l.length) => rnum_ok (s.l[i]) (List.all_eq_true.1 hl _ (List.getElem_mem hi)))
  have HCAP := Lib.hid h.cap
  obtain ⟨x0, x1, x2, x3⟩ := h.at_ W hbW
  clear h ha hb hl hk hbW hRes
  have HS0 := Lib.hid hs0
  clear hs0
  go_enter Tryz.func29, Tryz.ntmps29
  go_wp2_with (first
    | (go_at_call 52; refine (HHD.out _).mono ?_; rintro e w1 ⟨rfl, rfl⟩)
    | (go_at_call 28; refine (rsym_ok _ _).mono ?_; rintro e w2 ⟨rfl, hb2⟩; obtain ⟨w3, e3⟩ : ∃ w3, w2.alloc (.cells #[.int .i8 0, .string ⟨(headK s.k).toArray⟩, .slice none 0 0] 28) = w3 := ⟨_, rfl⟩; have hv3 := ((Lvs.one w2 (symC (headK s.k)) _ (sym_lies _)).base hb2.size); have hb3 := hb2.alloc hb2.size (.cells #[.int .i8 0, .string ⟨(headK s.k).toArray⟩, .slice none 0 0] 28); have hv3 : Lvs w3 W.heap.size (.slice (some ⟨w2.heap.size, 0, none⟩) 1 1) [symC (headK s.k)] [symS (headK s.k)] := e3 ▸ hv3; have hb3 : Below W.heap.size W w3 := e3 ▸ hb3; have HV3 := Lib.hid hv3; have HB3 := Lib.hid hb3; obtain ⟨y0, y1, y2, y3⟩ := HAT.out w3 hb3; clear hv3 hb2 hb3)
    | (go_at_call 53; refine (HMN.out _).mono ?_; rintro e w1 ⟨rfl, rfl⟩)
    | (go_at_call 54; (with_reducible refine (HNA.out _).mono ?_); rintro e w4 ⟨rfl, hb4⟩; have HB4 := Lib.hid (HB3.out.trans (hb4.mono HB3.out.size)); have HV4 := Lib.hid (HV3.out.keep hb4); clear hb4)
    | (at_builtin; refine acc_push_list w4 rfl (.tmp 17) (.tmp 21) rfl W.heap.size (.slice (some ⟨w2.heap.size, 0, none⟩) 1 1) ([symC (headK s.k)]) ([symS (headK s.k)]) HV4.out.acc HB4.out.size (numC s.a) (numS s.a) (num_lies _ _ _) (by simp) rfl rfl ?_; intro g4 cap4 w5 hA5 hk5 hat5; have HV5 := Lib.hid (HV4.out.push hA5 (num_lies s.a)); have hb5 := HB4.out.trans (hk5.below HB4.out.size (fun g hg => (HV4.out.own.lt g hg).1)); have HB5 := Lib.hid hb5; obtain ⟨q40, q41, q42, q43⟩ := HAT.out w5 hb5; clear hA5 hk5 hat5 hb5)
    | (go_at_call 54; (with_reducible refine (HNB.out _).mono ?_); rintro e w6 ⟨rfl, hb6⟩; have HB6 := Lib.hid (HB5.out.trans (hb6.mono HB5.out.size)); have HV6 := Lib.hid (HV5.out.keep hb6); clear hb6)
    | (at_builtin; refine acc_push_list w6 rfl (.tmp 25) (.tmp 29) rfl W.heap.size (.slice (some ⟨g4, 0, none⟩) 2 cap4) ([symC (headK s.k)] ++ [numC s.a]) ([symS (headK s.k)] ++ [numS s.a]) HV6.out.acc HB6.out.size (numC s.b) (numS s.b) (num_lies _ _ _) (by simp) rfl rfl ?_; intro g6 cap6 w7 hA7 hk7 hat7; have HV7 := Lib.hid (HV6.out.push hA7 (num_lies s.b)); have hb7 := HB6.out.trans (hk7.below HB6.out.size (fun g hg => (HV6.out.own.lt g hg).1)); have HB7 := Lib.hid hb7; obtain ⟨q60, q61, q62, q63⟩ := HAT.out w7 hb7; clear hA7 hk7 hat7 hb7))
  have HE := Lib.hid HB7.out.size
  go_loopw [5, 6] (fun v d wx => Below w7.heap.size w7 wx ∧ ∃ i : Nat, i ≤ s.l.length ∧ d = .int .i64 i ∧ Lvs wx w7.heap.size v ((s.l.take i).map numC) ((s.l.take i).map numS)) (fun _ d _ => (s.l.length - intOf d).toNat)
  case atStart => exact ⟨Below.refl _ _, 0, Nat.zero_le _, rfl, Lvs.nil _ _⟩
  case round =>
    obtain ⟨hBx, i, hi, rfl, hvx⟩ := hrel
    have hBW := HB7.out.trans (hBx.mono HB7.out.size)
    obtain ⟨z0, z1, z2, z3⟩ := HAT.out wr hBW
    have HBX := Lib.hid hBx
    have HBW := Lib.hid hBW
    have HVX := Lib.hid hvx
    clear hBx hBW hvx
    by_cases hin : i < s.l.length
    · have hiz : (i : Int) < (s.l.length : Int) := by omega
      have d1 : decide ((i : Int) < s.l.length) = true := decide_eq_true hiz
      obtain ⟨b, off, rfl, hbl, hcl⟩ := (HROW.out wr HBW.out).at_.resolve_left (by omega)
      have c0 := hcl i hin
      have htk : s.l.take (i + 1) = s.l.take i ++ [s.l[i]] := List.take_succ_eq_append_getElem hin
      have HN := Lib.hid (HNL.out i hin)
      have HTK := Lib.hid htk
      obtain ⟨z, hzz⟩ : ∃ z, s.l[i] = z := ⟨_, rfl⟩
      rw [hzz] at HTK HN c0
      clear hcl htk hzz
      have hln : ((s.l.take i).map numC).length = i := by rw [List.length_map, List.length_take]; omega
      have HLN := Lib.hid hln
      clear hln
      go_wp2_with (first
        | (go_at_call 54; refine (HN.out _).mono ?_; rintro e wa ⟨rfl, hba⟩; have HBA := Lib.hid hba; have HVA := Lib.hid (HVX.out.keep hba); clear hba)
        | (at_builtin; refine acc_push_list wa rfl (.tmp 38) (.tmp 45) rfl w7.heap.size _ ((s.l.take i).map numC) ((s.l.take i).map numS) HVA.out.acc (Nat.le_trans HBX.out.size HBA.out.size) (numC z) (numS z) (num_lies _ _ _) (by rw [HLN.out]; omega) rfl rfl ?_; intro ga capa wb hAb hkb hatb; have HVB := Lib.hid (HVA.out.push hAb (num_lies z)); have HKB := Lib.hid hkb; clear hAb hkb hatb))
      go_roundw
      case rel =>
        refine ⟨(below_then HBX.out (Nat.le_refl _) HBA.out).trans (HKB.out.below (Nat.le_trans HBX.out.size HBA.out.size) (fun g hg => (HVA.out.own.lt g hg).1)), i + 1, by omega, by go_num, ?_⟩
        rw [HTK.out, List.map_append, List.map_append]
        have hvb := HVB.out
        rw [HLN.out] at hvb
        exact hvb
      case measure => simp only [intOf]; omega
    · have d1 : decide ((i : Int) < s.l.length) = false := decide_eq_false (by omega)
      have hall : s.l.take i = s.l := List.take_of_length_le (by omega)
      have HL2 := Lib.hid (show Lvs wr w7.heap.size u5 (s.l.map numC) (s.l.map numS) from by have := HVX.out; rwa [hall] at this)
      obtain ⟨A5, c5, rfl⟩ := own_slice HL2.out.own
      have hn5 : (s.l.map numC).length = s.l.length := List.length_map _
      rw [hn5] at HL2
      have hly : Lies (fun b => w7.heap.size ≤ b) wr (C3.val ⟨3, ⟨#[]⟩, A5, s.l.length, c5⟩) (.mk 3 [] (s.l.map numS)) := HL2.out.acc.lies (by rw [List.length_map]; omega)
      have hg1 := HV7.out.own.lt
      have HLY := Lib.hid (hly.mono (S' := fun b => W.heap.size ≤ b ∧ (Value.ownBlock (.slice (some ⟨g6, 0, none⟩) 3 cap6)) ≠ some b) fun b _ hb => ⟨Nat.le_trans HE.out hb, fun e => by have := (hg1 b e).2; omega⟩)
      have HV1 := Lib.hid (HV7.out.keep HBX.out)
      clear hall HL2 hly hg1 hn5
      go_wp2_with (at_builtin; refine acc_push_list wr rfl (.tmp 47) (.tmp 50) rfl W.heap.size (.slice (some ⟨g6, 0, none⟩) 3 cap6) ([symC (headK s.k)] ++ [numC s.a] ++ [numC s.b]) ([symS (headK s.k)] ++ [numS s.a] ++ [numS s.b]) HV1.out.acc HBW.out.size ⟨3, ⟨#[]⟩, A5, s.l.length, c5⟩ (.mk 3 [] (s.l.map numS)) HLY.out (by simp) rfl rfl ?_; intro gz capz wz hAz hkz hatz; have HAZ := Lib.hid hAz; have hbz := HBW.out.trans (hkz.below HBW.out.size (fun g hg => (HV1.out.own.lt g hg).1)); have HBZ := Lib.hid hbz; obtain ⟨r0, r1, r2, f0, f1, f2⟩ := blk3 (HRES.out wz hbz); clear hAz hkz hatz hbz)
      have hset := (HRES.out wz HBZ.out).set3 (.int .i8 3) (.string ⟨#[]⟩) (.slice (some ⟨gz, 0, none⟩) 4 capz)
      obtain ⟨v0, v1, v2, _⟩ := blk3 hset
      have hkf : Kept (fun i => i = w0.heap.size) wz (((wz.setCell ⟨w0.heap.size, 0, none⟩ (.int .i8 3)).setCell ⟨w0.heap.size, 1, none⟩ (.string ⟨#[]⟩)).setCell ⟨w0.heap.size, 2, none⟩ (.slice (some ⟨gz, 0, none⟩) 4 capz)) :=
        Kept.setCell (S := fun i => i = w0.heap.size) (Kept.setCell (S := fun i => i = w0.heap.size) (Kept.setCell (S := fun i => i = w0.heap.size) (Kept.refl _ wz) (p := ⟨w0.heap.size, 0, none⟩) (.inl rfl) _) (p := ⟨w0.heap.size, 1, none⟩) (.inl rfl) _) (p := ⟨w0.heap.size, 2, none⟩) (.inl rfl) _
      refine bodyPost_ret (v := .agg #[.int .i8 3, .string ⟨#[]⟩, .slice (some ⟨gz, 0, none⟩) 4 capz]) ?_ rfl ?_
      · simp [results, Tryz.results29, go_sem, v0, v1, v2]
      refine ⟨⟨⟨3, ⟨#[]⟩, some ⟨gz, 0, none⟩, 4, capz⟩, ?_, rfl⟩, ?_⟩
      · exact ((HAZ.out.lies (by simp)).kept hkf (fun b _ h1 h2 => by have := HS0.out; omega)).mono fun b _ h1 => by omega
      · exact HW.out.trans ((HBZ.out.mono HW.out.size).trans (hkf.below (by have := HBZ.out.size; omega) (fun k hk => by have := HS0.out; omega)))

theorem rwrite_ok (s : Stp) (hm : s.may = true) (hz : s.l.length ≤ 100000) (w : World) (y : C4) (h : Is4 w y s) :
    Calls Tryz.prog 29 #[y.val] w fun e w' => (∃ y : C3, Lies (fun b => w.heap.size ≤ b) w' y.val s.sx ∧ e = .returned (.agg #[.int .i8 y.k, .string y.t, .slice y.A y.n y.c])) ∧ Below w.heap.size w w' := by
  obtain ⟨A, c, w0, hy, hx⟩ := box4 h
  obtain ⟨h0, h6, _, ha, hb, hl, _⟩ := (may_iff s).1 hm
  rw [hy]
  have : manyK s.k = 0 ∨ manyK s.k = 1 ∨ manyK s.k = 2 := by unfold manyK; split <;> (try split) <;> omega
  unfold Stp.sx Stp.nums
  rcases this with h3 | h3 | h3
  · rw [h3]; exact rwrite_0 s h0 h6 h3 ha hb hl hz w w0 A c hx
  · rw [h3]; exact rwrite_1 s h0 h6 h3 ha hb hl hz w w0 A c hx
  · rw [h3]; exact rwrite_2 s h0 h6 h3 ha hb hl hz w w0 A c hx
end Go.Proofs.YtiklliiamljogaaGreatDoor

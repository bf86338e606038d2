/- Exactly: whether a function may be. -/
import Derived.Test.YtkapbdjobfbhhaaGreatVxB
namespace Go.Proofs.YtkapbdjobfbhhaaGreat
open Go.RowKit Go.Lib
def FnM.arg (f : FnM) (i : Nat) : Int := if i = 0 then f.a0 else if i = 1 then f.a1 else f.a2
theorem FnM.Wf.arg {f : FnM} (h : f.Wf) (i : Nat) : I64 (f.arg i) := by
  unfold FnM.arg
  split
  · exact h.a0
  · split
    · exact h.a1
    · exact h.a2
def FnM.agg (f : FnM) : Array Value := #[.string f.nm, .int .i64 f.len, .int .i64 f.a0, .int .i64 f.a1, .int .i64 f.a2, .int .i64 f.res]
theorem FnM.agg_arg (f : FnM) {i : Nat} (h : i < 3) : f.agg[2 + i]? = some (.int .i64 (f.arg i)) := by
  match i, h with
  | 0, _ => rfl
  | 1, _ => rfl
  | 2, _ => rfl
structure Say (b : Bool) (P : Prop) : Prop where
  iff : b = true ↔ P
theorem Say.yes {P : Prop} (h : P) : Say true P := ⟨⟨fun _ => h, fun _ => rfl⟩⟩
theorem Say.no {P : Prop} (h : ¬ P) : Say false P := ⟨⟨fun e => (by cases e), fun e => absurd e h⟩⟩
theorem Say.t {P : Prop} (h : Say true P) : P := h.iff.1 rfl
theorem Say.f {P : Prop} (h : Say false P) : ¬ P := fun p => by have := h.iff.2 p; cases this
def YesB (P : Prop) (w : World) (e : Ending) (w' : World) : Prop := ∃ b, e = .returned (.bool b) ∧ Say b P ∧ Below w.heap.size w w'
theorem YesB.yes {P : Prop} {w w' : World} (h : P) (hb : Below w.heap.size w w') : YesB P w (.returned (.bool true)) w' := ⟨true, rfl, .yes h, hb⟩
theorem YesB.no {P : Prop} {w w' : World} (h : ¬ P) (hb : Below w.heap.size w w') : YesB P w (.returned (.bool false)) w' := ⟨false, rfl, .no h, hb⟩
def YesIB (P : Prop) (w : World) (e : Ending) (w' : World) : Prop := ∃ n b, e = .returned (.tuple #[.int .i64 n, .bool b]) ∧ Say b P ∧ Below w.heap.size w w'
theorem YesIB.yes {P : Prop} {w w' : World} (n : Int) (h : P) (hb : Below w.heap.size w w') : YesIB P w (.returned (.tuple #[.int .i64 n, .bool true])) w' := ⟨n, true, rfl, .yes h, hb⟩
theorem YesIB.no {P : Prop} {w w' : World} (n : Int) (h : ¬ P) (hb : Below w.heap.size w w') : YesIB P w (.returned (.tuple #[.int .i64 n, .bool false])) w' := ⟨n, false, rfl, .no h, hb⟩
def coreL (l : List UInt8) : Bool :=
  l == [116, 114, 117, 101] || l == [102, 97, 108, 115, 101] || l == [110, 111, 116] || l == [97, 110, 100] || l == [111, 114] || l == [120, 111, 114] || l == [61, 62] || l == [61] || l == [100, 105, 115, 116, 105, 110, 99, 116] || l == [105, 116, 101] || l == [43] || l == [45] || l == [60, 61] || l == [60] || l == [62, 61] || l == [62]
theorem xcore_ok (s : ByteArray) (w : World) : Calls Tryz.prog 80 #[.string s] w fun e w' => e = .returned (.bool (coreL (byts s))) ∧ w = w' := by
  rw [show byts s = s.toList from (Lib.toList_data s).symm]
  go_enter Tryz.func80, Tryz.ntmps80
  go_wp2
  all_goals (go_ret; refine ⟨?_, rfl⟩; simp_all [coreL])
def sortP (S : List ByteArray) (s : ByteArray) : Prop := s.toList = [66, 111, 111, 108] ∨ s.toList = [73, 110, 116] ∨ ∃ (i : Nat) (h : i < S.length), S[i].toList = s.toList
def funP (F : List FnM) (s : ByteArray) : Prop := ∃ (i : Nat) (h : i < F.length), F[i].nm.toList = s.toList
def macP (F : List MacM) (s : ByteArray) : Prop := ∃ (i : Nat) (h : i < F.length), F[i].nm.toList = s.toList
set_option maxRecDepth 100000 in
theorem xsort_ok {w : World} {g : SigV} (h : SigAt w g) (s : ByteArray) : Calls Tryz.prog 77 #[.agg g.cells, .string s] w (YesIB (sortP g.sorts s) w) := by
  have H := Lib.hid h
  have HB0 := Lib.hid (sig_box w g)
  have HG0 := Lib.hid (Blk.new w 26 g.cells)
  have hn := h.n0
  clear h
  obtain ⟨A0, c0, S, A1, c1, F, A2, c2, M⟩ := g
  unfold SigV.cells at *
  simp only at *
  have x0 := HG0.out.cell 0
  simp only [List.getElem?_toArray, List.getElem?_cons_zero, List.getElem?_cons_succ] at x0
  go_enter Tryz.func77, Tryz.ntmps77
  go_upto_region 5 with fail
  · refine bodyPost_ret (v := .tuple #[.int .i64 0, .bool true]) (by simp [results, Tryz.results77, go_sem]) rfl (YesIB.yes _ (.inl (beq_iff_eq.1 ‹(s.toList == [66, 111, 111, 108]) = true›)) HB0.out)
  · refine bodyPost_ret (v := .tuple #[.int .i64 1, .bool true]) (by simp [results, Tryz.results77, go_sem]) rfl (YesIB.yes _ (.inr (.inl (beq_iff_eq.1 ‹(s.toList == [73, 110, 116]) = true›))) HB0.out)
  · have HS1 := Lib.hid (beq_eq_false_iff_ne.1 ‹(s.toList == [66, 111, 111, 108]) = false›)
    have HS2 := Lib.hid (beq_eq_false_iff_ne.1 ‹(s.toList == [73, 110, 116]) = false›)
    go_wp2
    generalize w.alloc (.cells #[.slice A0 S.length c0, .slice A1 F.length c1, .slice A2 M.length c2] 26) = w0 at *
    clear HG0
    go_loopg [6] S.length (fun g v wr => ∃ i : Nat, i + g = S.length ∧ v = .int .i64 i ∧ w0 = wr ∧ ∀ (j : Nat) (hj : j < S.length), j < i → S[j].toList ≠ s.toList)
    case atStart => exact ⟨0, by omega, rfl, rfl, fun j _ h => by omega⟩
    case round =>
      obtain ⟨i, hig, rfl, rfl, hinv⟩ := hrel
      have HI := Lib.hid hinv
      clear hinv
      cases gk with
      | zero =>
        obtain rfl : i = S.length := by omega
        have d1 : decide ((S.length : Int) < S.length) = false := by simp
        go_wp2
        refine bodyPost_ret (v := .tuple #[.int .i64 0, .bool false]) (by simp [results, Tryz.results77, go_sem]) rfl (YesIB.no _ (fun h => h.elim HS1.out fun h => h.elim HS2.out fun ⟨j, hj, h⟩ => HI.out j hj hj h) HB0.out)
      | succ g =>
        have hlt : i < S.length := by omega
        have d1 : decide ((i : Int) < S.length) = true := by simp; omega
        have t1 : (0 : Int) ≤ (i : Int) := by omega
        have t2 : (i : Int) < (S.length : Int) := by omega
        obtain ⟨b, off, hA, hb, hat⟩ := (H.out.below HB0.out).s i hlt
        dsimp only at hA hat
        have y0 := hat
        subst hA
        clear hat
        obtain ⟨z, hz⟩ : ∃ z, S[i] = z := ⟨_, rfl⟩
        have HZ := Lib.hid hz
        rw [hz] at y0
        clear hz
        cases hq : (z.toList == s.toList) with
        | true =>
          have HQ := Lib.hid (beq_iff_eq.1 hq)
          go_wp2
          refine bodyPost_ret (v := .tuple #[.int .i64 (wrap64 (2 + i)), .bool true]) (by simp [results, Tryz.results77, go_sem]) rfl (YesIB.yes _ (.inr (.inr ⟨i, hlt, by rw [HZ.out]; exact HQ.out⟩)) HB0.out)
        | false =>
          have HQ := Lib.hid (beq_eq_false_iff_ne.1 hq)
          go_wp2
          go_roundg g
          case measure => omega
          case rel => exact ⟨i + 1, by omega, by go_num, rfl, fun j hj h => by
            rcases Nat.lt_or_ge j i with h' | h'
            · exact HI.out j hj h'
            · obtain rfl : j = i := by omega
              rw [HZ.out]
              exact HQ.out⟩
set_option maxRecDepth 100000 in
theorem xfun_ok {w : World} {g : SigV} (h : SigAt w g) (s : ByteArray) : Calls Tryz.prog 78 #[.agg g.cells, .string s] w (YesIB (funP g.funs s) w) := by
  have H := Lib.hid h
  have HB0 := Lib.hid (sig_box w g)
  have HG0 := Lib.hid (Blk.new w 26 g.cells)
  have hn := h.n1
  clear h
  obtain ⟨A0, c0, S, A1, c1, F, A2, c2, M⟩ := g
  unfold SigV.cells at *
  simp only at *
  have x0 := HG0.out.cell 1
  simp only [List.getElem?_toArray, List.getElem?_cons_zero, List.getElem?_cons_succ] at x0
  go_enter Tryz.func78, Tryz.ntmps78
  go_wp2
  generalize w.alloc (.cells #[.slice A0 S.length c0, .slice A1 F.length c1, .slice A2 M.length c2] 26) = w0 at *
  clear HG0
  go_loopg [6] F.length (fun g v wr => ∃ i : Nat, i + g = F.length ∧ v = .int .i64 i ∧ w0 = wr ∧ ∀ (j : Nat) (hj : j < F.length), j < i → F[j].nm.toList ≠ s.toList)
  case atStart => exact ⟨0, by omega, rfl, rfl, fun j _ h => by omega⟩
  case round =>
    obtain ⟨i, hig, rfl, rfl, hinv⟩ := hrel
    have HI := Lib.hid hinv
    clear hinv
    cases gk with
    | zero =>
      obtain rfl : i = F.length := by omega
      have d1 : decide ((F.length : Int) < F.length) = false := by simp
      go_wp2
      refine bodyPost_ret (v := .tuple #[.int .i64 0, .bool false]) (by simp [results, Tryz.results78, go_sem]) rfl (YesIB.no _ (fun ⟨j, hj, h⟩ => HI.out j hj hj h) HB0.out)
    | succ g =>
      have hlt : i < F.length := by omega
      have d1 : decide ((i : Int) < F.length) = true := by simp; omega
      have t1 : (0 : Int) ≤ (i : Int) := by omega
      have t2 : (i : Int) < (F.length : Int) := by omega
      obtain ⟨b, off, hA, hb, hat⟩ := (H.out.below HB0.out).f i hlt
      dsimp only at hA hat
      have y0 := hat.c0
      subst hA
      clear hat
      obtain ⟨z, hz⟩ : ∃ z, F[i].nm = z := ⟨_, rfl⟩
      have HZ := Lib.hid hz
      rw [hz] at y0
      clear hz
      cases hq : (z.toList == s.toList) with
      | true =>
        have HQ := Lib.hid (beq_iff_eq.1 hq)
        go_wp2
        refine bodyPost_ret (v := .tuple #[.int .i64 i, .bool true]) (by simp [results, Tryz.results78, go_sem]) rfl (YesIB.yes _ (⟨i, hlt, by rw [HZ.out]; exact HQ.out⟩) HB0.out)
      | false =>
        have HQ := Lib.hid (beq_eq_false_iff_ne.1 hq)
        go_wp2
        go_roundg g
        case measure => omega
        case rel => exact ⟨i + 1, by omega, by go_num, rfl, fun j hj h => by
          rcases Nat.lt_or_ge j i with h' | h'
          · exact HI.out j hj h'
          · obtain rfl : j = i := by omega
            rw [HZ.out]
            exact HQ.out⟩
set_option maxRecDepth 100000 in
theorem xmacro_ok {w : World} {g : SigV} (h : SigAt w g) (s : ByteArray) : Calls Tryz.prog 79 #[.agg g.cells, .string s] w (YesIB (macP g.macs s) w) := by
  have H := Lib.hid h
  have HB0 := Lib.hid (sig_box w g)
  have HG0 := Lib.hid (Blk.new w 26 g.cells)
  have hn := h.n2
  clear h
  obtain ⟨A0, c0, S, A1, c1, F, A2, c2, M⟩ := g
  unfold SigV.cells at *
  simp only at *
  have x0 := HG0.out.cell 2
  simp only [List.getElem?_toArray, List.getElem?_cons_zero, List.getElem?_cons_succ] at x0
  go_enter Tryz.func79, Tryz.ntmps79
  go_wp2
  generalize w.alloc (.cells #[.slice A0 S.length c0, .slice A1 F.length c1, .slice A2 M.length c2] 26) = w0 at *
  clear HG0
  go_loopg [6] M.length (fun g v wr => ∃ i : Nat, i + g = M.length ∧ v = .int .i64 i ∧ w0 = wr ∧ ∀ (j : Nat) (hj : j < M.length), j < i → M[j].nm.toList ≠ s.toList)
  case atStart => exact ⟨0, by omega, rfl, rfl, fun j _ h => by omega⟩
  case round =>
    obtain ⟨i, hig, rfl, rfl, hinv⟩ := hrel
    have HI := Lib.hid hinv
    clear hinv
    cases gk with
    | zero =>
      obtain rfl : i = M.length := by omega
      have d1 : decide ((M.length : Int) < M.length) = false := by simp
      go_wp2
      refine bodyPost_ret (v := .tuple #[.int .i64 0, .bool false]) (by simp [results, Tryz.results79, go_sem]) rfl (YesIB.no _ (fun ⟨j, hj, h⟩ => HI.out j hj hj h) HB0.out)
    | succ g =>
      have hlt : i < M.length := by omega
      have d1 : decide ((i : Int) < M.length) = true := by simp; omega
      have t1 : (0 : Int) ≤ (i : Int) := by omega
      have t2 : (i : Int) < (M.length : Int) := by omega
      obtain ⟨b, off, hA, hb, hat⟩ := (H.out.below HB0.out).m i hlt
      dsimp only at hA hat
      have y0 := hat.c0
      subst hA
      clear hat
      obtain ⟨z, hz⟩ : ∃ z, M[i].nm = z := ⟨_, rfl⟩
      have HZ := Lib.hid hz
      rw [hz] at y0
      clear hz
      cases hq : (z.toList == s.toList) with
      | true =>
        have HQ := Lib.hid (beq_iff_eq.1 hq)
        go_wp2
        refine bodyPost_ret (v := .tuple #[.int .i64 i, .bool true]) (by simp [results, Tryz.results79, go_sem]) rfl (YesIB.yes _ (⟨i, hlt, by rw [HZ.out]; exact HQ.out⟩) HB0.out)
      | false =>
        have HQ := Lib.hid (beq_eq_false_iff_ne.1 hq)
        go_wp2
        go_roundg g
        case measure => omega
        case rel => exact ⟨i + 1, by omega, by go_num, rfl, fun j hj h => by
          rcases Nat.lt_or_ge j i with h' | h'
          · exact HI.out j hj h'
          · obtain rfl : j = i := by omega
            rw [HZ.out]
            exact HQ.out⟩
structure SayN (n : Int) (P : Prop) : Prop where
  iff : n = 0 ↔ P
def YesI (P : Prop) (w : World) (e : Ending) (w' : World) : Prop := ∃ n, e = .returned (.int .i64 n) ∧ SayN n P ∧ Below w.heap.size w w'
theorem YesI.yes {P : Prop} {w w' : World} (h : P) (hb : Below w.heap.size w w') : YesI P w (.returned (.int .i64 0)) w' := ⟨0, rfl, ⟨⟨fun _ => h, fun _ => rfl⟩⟩, hb⟩
theorem YesI.no {P : Prop} {w w' : World} {n : Int} (hn : n ≠ 0) (h : ¬ P) (hb : Below w.heap.size w w') : YesI P w (.returned (.int .i64 n)) w' := ⟨n, rfl, ⟨⟨fun e => absurd e hn, fun e => absurd e h⟩⟩, hb⟩
structure FreeP (S : List ByteArray) (F : List FnM) (M : List MacM) (s : ByteArray) (b : Bool) : Prop where
  may : mayL (byts s) = true
  res : reservedL (byts s) = false
  sort : b = true → ¬ sortP S s
  fun_ : b = false → ¬ funP F s
  mac : b = false → ¬ macP M s
  core : b = false → coreL (byts s) = false
set_option maxRecDepth 100000 in
set_option maxHeartbeats 2000000 in
theorem xfree_ok {w : World} {g : SigV} (h : SigAt w g) (s : ByteArray) (b : Bool) : Calls Tryz.prog 60 #[.agg g.cells, .string s, .bool b] w (YesI (FreeP g.sorts g.funs g.macs s b) w) := by
  have HB0 := Lib.hid (sig_box w g)
  have HG0 := Lib.hid (Blk.new w 26 g.cells)
  have H := Lib.hid (h.below HB0.out)
  clear h
  have HX := Lib.hid (fun W (hW : Below (w.alloc (.cells g.cells 26)).heap.size (w.alloc (.cells g.cells 26)) W) => sig_blk (HG0.out.below hW HG0.out.lt))
  have KS := Lib.hid (fun W (hW : Below (w.alloc (.cells g.cells 26)).heap.size (w.alloc (.cells g.cells 26)) W) => xsort_ok (H.out.below hW) s)
  have KF := Lib.hid (fun W (hW : Below (w.alloc (.cells g.cells 26)).heap.size (w.alloc (.cells g.cells 26)) W) => xfun_ok (H.out.below hW) s)
  have KM := Lib.hid (fun W (hW : Below (w.alloc (.cells g.cells 26)).heap.size (w.alloc (.cells g.cells 26)) W) => xmacro_ok (H.out.below hW) s)
  obtain ⟨x0, x1, x2⟩ := sig_blk HG0.out
  obtain ⟨A0, c0, S, A1, c1, F, A2, c2, M⟩ := g
  unfold SigV.cells at *
  simp only at *
  clear HG0 H
  obtain ⟨q1, hq1⟩ : ∃ q, mayL (byts s) = q := ⟨_, rfl⟩
  obtain ⟨q2, hq2⟩ : ∃ q, reservedL (byts s) = q := ⟨_, rfl⟩
  obtain ⟨q3, hq3⟩ : ∃ q, coreL (byts s) = q := ⟨_, rfl⟩
  have HQ1 := Lib.hid hq1
  have HQ2 := Lib.hid hq2
  have HQ3 := Lib.hid hq3
  have KN := Lib.hid (fun W => nmay_ok s W)
  have KR := Lib.hid (fun W => rreserved_ok s W)
  have KC := Lib.hid (fun W => xcore_ok s W)
  rw [hq1] at KN
  rw [hq2] at KR
  rw [hq3] at KC
  clear hq1 hq2 hq3
  go_enter Tryz.func60, Tryz.ntmps60
  go_upto_region 1 with fail
  generalize w.alloc (.cells #[.slice A0 S.length c0, .slice A1 F.length c1, .slice A2 M.length c2] 26) = w0 at *
  cases q1 with
  | false =>
    go_wp2_with (go_at_call 75; refine (KN.out _).mono ?_; rintro e w1 ⟨rfl, rfl⟩)
    go_ret
    exact YesI.no (by decide) (fun h => Bool.noConfusion (HQ1.out.symm.trans h.may)) HB0.out
  | true =>
  cases q2 with
  | true =>
    go_wp2_with (first
      | (go_at_call 75; refine (KN.out _).mono ?_; rintro e w1 ⟨rfl, rfl⟩)
      | (go_at_call 76; refine (KR.out _).mono ?_; rintro e w1 ⟨rfl, rfl⟩))
    go_ret
    exact YesI.no (by decide) (fun h => Bool.noConfusion (HQ2.out.symm.trans h.res)) HB0.out
  | false =>
  cases b with
  | true =>
    go_wp2_with (first
      | (go_at_call 75; refine (KN.out _).mono ?_; rintro e w1 ⟨rfl, rfl⟩)
      | (go_at_call 76; refine (KR.out _).mono ?_; rintro e w1 ⟨rfl, rfl⟩)
      | (go_at_call 77; refine (KS.out _ (Below.refl _ _)).mono ?_; rintro e w1 ⟨n1, b1, rfl, hs1, hb1⟩; have HS1 := Lib.hid hs1; clear hs1; cases b1))
    all_goals go_ret
    · exact YesI.yes ⟨HQ1.out, HQ2.out, fun _ h => HS1.out.f h, fun e => Bool.noConfusion e, fun e => Bool.noConfusion e, fun e => Bool.noConfusion e⟩ (HB0.out.trans (hb1.mono HB0.out.size))
    · exact YesI.no (by decide) (fun h => h.sort rfl HS1.out.t) (HB0.out.trans (hb1.mono HB0.out.size))
  | false =>
    cases q3 with
    | true =>
      go_wp2_with (first
        | (go_at_call 79; refine (KM.out _ hb2).mono ?_; rintro e w3 ⟨n3, b3, rfl, hs3, hb3⟩; have HS3 := Lib.hid hs3; clear hs3; cases b3)
        | (go_at_call 78; refine (KF.out _ hb1).mono ?_; rintro e w2 ⟨n2, b2, rfl, hs2, hb2⟩; have HS2 := Lib.hid hs2; clear hs2; have hb2 := hb1.trans (hb2.mono hb1.size); obtain ⟨y0, y1, y2⟩ := HX.out _ hb2; cases b2)
        | (go_at_call 77; refine (KS.out _ (Below.refl _ _)).mono ?_; rintro e w1 ⟨n1, b1, rfl, _, hb1⟩; obtain ⟨y0, y1, y2⟩ := HX.out _ hb1; cases b1)
        | (go_at_call 80; refine (KC.out _).mono ?_; rintro e w4 ⟨rfl, rfl⟩)
        | (go_at_call 75; refine (KN.out _).mono ?_; rintro e w1 ⟨rfl, rfl⟩)
        | (go_at_call 76; refine (KR.out _).mono ?_; rintro e w1 ⟨rfl, rfl⟩))
      all_goals go_ret
      all_goals exact YesI.no (by decide) (fun h => Bool.noConfusion (HQ3.out.symm.trans (h.core rfl))) (HB0.out.trans ((hb2.trans (hb3.mono hb2.size)).mono HB0.out.size))
    | false =>
      go_wp2_with (first
        | (go_at_call 79; refine (KM.out _ hb2).mono ?_; rintro e w3 ⟨n3, b3, rfl, hs3, hb3⟩; have HS3 := Lib.hid hs3; clear hs3; cases b3)
        | (go_at_call 78; refine (KF.out _ hb1).mono ?_; rintro e w2 ⟨n2, b2, rfl, hs2, hb2⟩; have HS2 := Lib.hid hs2; clear hs2; have hb2 := hb1.trans (hb2.mono hb1.size); obtain ⟨y0, y1, y2⟩ := HX.out _ hb2; cases b2)
        | (go_at_call 77; refine (KS.out _ (Below.refl _ _)).mono ?_; rintro e w1 ⟨n1, b1, rfl, _, hb1⟩; obtain ⟨y0, y1, y2⟩ := HX.out _ hb1; cases b1)
        | (go_at_call 80; refine (KC.out _).mono ?_; rintro e w4 ⟨rfl, rfl⟩)
        | (go_at_call 75; refine (KN.out _).mono ?_; rintro e w1 ⟨rfl, rfl⟩)
        | (go_at_call 76; refine (KR.out _).mono ?_; rintro e w1 ⟨rfl, rfl⟩))
      all_goals go_ret
      all_goals first
        | exact YesI.no (by decide) (fun h => h.fun_ rfl HS2.out.t) (HB0.out.trans ((hb2.trans (hb3.mono hb2.size)).mono HB0.out.size))
        | exact YesI.no (by decide) (fun h => h.mac rfl HS3.out.t) (HB0.out.trans ((hb2.trans (hb3.mono hb2.size)).mono HB0.out.size))
        | exact YesI.yes ⟨HQ1.out, HQ2.out, fun e => Bool.noConfusion e, fun _ => HS2.out.f, fun _ => HS3.out.f, fun _ => HQ3.out⟩ (HB0.out.trans ((hb2.trans (hb3.mono hb2.size)).mono HB0.out.size))
def okF (n : Nat) (f : FnM) (i : Nat) : Bool := if (i : Int) < f.len then thereM n (f.arg i) else !(f.arg i != 0)
structure FunP (n : Nat) (f : FnM) : Prop where
  l0 : 0 ≤ f.len
  l3 : f.len ≤ 3
  res : thereM n f.res = true
  arg : ∀ i, i < 3 → okF n f i = true
set_option maxRecDepth 100000 in
set_option maxHeartbeats 4000000 in
theorem xfunOk_ok {w : World} {g : SigV} {f : FnM} (h : SigAt w g) (hf : f.Wf) : Calls Tryz.prog 61 #[.agg g.cells, .agg f.agg] w (YesB (FunP g.sorts.length f) w) := by
  obtain ⟨w0, hw0⟩ : ∃ w0, (w.alloc (.cells g.cells 26)).alloc (.cells f.agg 83) = w0 := ⟨_, rfl⟩
  have HB0 : Hid (Below w.heap.size w w0) := Lib.hid (by rw [← hw0]; exact (sig_box w g).alloc (sig_box w g).size _)
  have HG0 : Hid (Blk w0 w.heap.size 26 g.cells) := Lib.hid (by rw [← hw0]; exact (Blk.new w 26 g.cells).alloc _)
  have HF0 : Hid (Blk w0 (w.heap.size + 1) 83 f.agg) := Lib.hid (by rw [← hw0]; exact Blk.new_at (by simp) _ _)
  have H := Lib.hid (h.below HB0.out)
  have HX : Hid (∀ W, Below w0.heap.size w0 W → (W.cell? ⟨w.heap.size, 0, none⟩ = some (.slice g.A0 g.sorts.length g.c0) ∧ W.cell? ⟨w.heap.size, 1, none⟩ = some (.slice g.A1 g.funs.length g.c1) ∧ W.cell? ⟨w.heap.size, 2, none⟩ = some (.slice g.A2 g.macs.length g.c2)) ∧ W.cell? ⟨w.heap.size + 1, 1, none⟩ = some (.int .i64 f.len) ∧ W.cell? ⟨w.heap.size + 1, 5, none⟩ = some (.int .i64 f.res) ∧ ∀ i, i < 3 → W.cell? ⟨w.heap.size + 1, 2 + i, none⟩ = some (.int .i64 (f.arg i))) := Lib.hid (fun W hW => by
    have h2 := HF0.out.below hW HF0.out.lt
    exact ⟨sig_blk (HG0.out.below hW HG0.out.lt), h2.cell 1, h2.cell 5, fun i hi => by rw [h2.cell]; exact FnM.agg_arg f hi⟩)
  have KT := Lib.hid (fun W (hW : Below w0.heap.size w0 W) (z : Int) (hz : I64 z) => there_ok (H.out.below hW) z hz)
  have HWf := Lib.hid hf
  have HNo0 : Hid (f.len < 0 → ¬ FunP g.sorts.length f) := Lib.hid (fun h1 h2 => by have := h2.l0; omega)
  have HNo3 : Hid (f.len > 3 → ¬ FunP g.sorts.length f) := Lib.hid (fun h1 h2 => by have := h2.l3; omega)
  have HNoR : Hid (thereM g.sorts.length f.res = false → ¬ FunP g.sorts.length f) := Lib.hid (fun h1 h2 => Bool.noConfusion (h1.symm.trans h2.res))
  have HNoA : Hid (∀ i, i < 3 → okF g.sorts.length f i = false → ¬ FunP g.sorts.length f) := Lib.hid (fun i hi h1 h2 => Bool.noConfusion (h1.symm.trans (h2.arg i hi)))
  have HYes : Hid (¬ f.len < 0 → ¬ f.len > 3 → thereM g.sorts.length f.res = true → (∀ i, i < 3 → okF g.sorts.length f i = true) → FunP g.sorts.length f) := Lib.hid (fun h1 h2 h3 h4 => ⟨by omega, by omega, h3, h4⟩)
  have HOk : Hid (∀ i : Nat, okF g.sorts.length f i = if (i : Int) < f.len then thereM g.sorts.length (f.arg i) else !(f.arg i != 0)) := Lib.hid (fun i => rfl)
  generalize FunP g.sorts.length f = P at *
  generalize okF g.sorts.length f = K at *
  obtain ⟨⟨x0, x1, x2⟩, y1, y5, _⟩ := HX.out w0 (Below.refl _ _)
  clear h hf
  obtain ⟨A0, c0, S, A1, c1, F, A2, c2, M⟩ := g
  obtain ⟨nm, len, a0, a1, a2, res⟩ := f
  unfold SigV.cells FnM.agg at *
  simp only at *
  have HW0 := Lib.hid hw0
  clear hw0 HG0 HF0 H
  have hr := HWf.out.res
  simp only at hr
  go_enter Tryz.func61, Tryz.ntmps61
  go_upto_region 1 with fail
  rw [HW0.out]
  clear HW0
  by_cases hl0 : len < 0
  · have d0 : decide (len < 0) = true := decide_eq_true hl0
    have HE := Lib.hid (HNo0.out hl0)
    clear hl0
    go_wp2
    go_ret
    exact YesB.no HE.out HB0.out
  have d0 : decide (len < 0) = false := decide_eq_false hl0
  by_cases hl3 : len > 3
  · have d1 : decide (len > 3) = true := decide_eq_true hl3
    have d1' : decide (3 < len) = true := decide_eq_true hl3
    have HE := Lib.hid (HNo3.out hl3)
    clear hl0 hl3
    go_wp2
    go_ret
    exact YesB.no HE.out HB0.out
  have d1 : decide (len > 3) = false := decide_eq_false hl3
  have d1' : decide (3 < len) = false := decide_eq_false hl3
  go_wp2_with fail
  refine (KT.out _ (Below.refl _ _) _ hr).mono ?_
  rintro e w1 ⟨rfl, hb1⟩
  have HB1 := Lib.hid hb1
  clear hb1 x0 x1 x2 y1 y5 hr d0 d1 d1'
  cases hq : thereM S.length res with
  | false =>
    have HE := Lib.hid (HNoR.out hq)
    go_wp2
    go_ret
    exact YesB.no HE.out (HB0.out.trans (HB1.out.mono HB0.out.size))
  | true =>
    have HEnd := Lib.hid (HYes.out hl0 hl3 hq)
    clear hq hl0 hl3
    go_wp2
    go_loopg [5] 3 (fun g v wr => ∃ i : Nat, i + g = 3 ∧ v = .int .i64 i ∧ Below w0.heap.size w0 wr ∧ ∀ j, j < i → K j = true)
    case atStart => exact ⟨0, by omega, rfl, HB1.out, fun j h => absurd h (Nat.not_lt_zero j)⟩
    case round =>
      obtain ⟨i, hig, rfl, hb, hinv⟩ := hrel
      have HI := Lib.hid hinv
      clear hinv
      have HB := Lib.hid hb
      clear hb
      cases gk with
      | zero =>
        obtain rfl : i = 3 := by omega
        go_wp2
        go_ret
        exact YesB.yes (HEnd.out HI.out) (HB0.out.trans (HB.out.mono HB0.out.size))
      | succ gk =>
        have hi3 : i < 3 := by omega
        have d2 : decide ((i : Int) < 3) = true := decide_eq_true (by omega)
        have t1 : (0 : Int) ≤ (i : Int) := by omega
        have t2 : (i : Int) < (3 : Int) := by omega
        have hai := HWf.out.arg i
        have HFx : Hid (∀ W, Below wr.heap.size wr W → W.cell? ⟨w.heap.size, 0, none⟩ = some (.slice A0 S.length c0) ∧ W.cell? ⟨w.heap.size, 1, none⟩ = some (.slice A1 F.length c1) ∧ W.cell? ⟨w.heap.size, 2, none⟩ = some (.slice A2 M.length c2) ∧ W.cell? ⟨w.heap.size + 1, 1, none⟩ = some (.int .i64 len) ∧ W.cell? ⟨w.heap.size + 1, 2 + i, none⟩ = some (.int .i64 (FnM.arg ⟨nm, len, a0, a1, a2, res⟩ i))) := Lib.hid (fun W hW => by
          obtain ⟨⟨k0, k1, k2⟩, k3, _, k4⟩ := HX.out W (HB.out.trans (hW.mono HB.out.size))
          exact ⟨k0, k1, k2, k3, k4 i hi3⟩)
        have KI := Lib.hid (fun W (hW : Below wr.heap.size wr W) => KT.out W (HB.out.trans (hW.mono HB.out.size)) _ hai)
        have HKi := Lib.hid (HOk.out i)
        obtain ⟨q, hq⟩ : ∃ q, thereM S.length (FnM.arg ⟨nm, len, a0, a1, a2, res⟩ i) = q := ⟨_, rfl⟩
        rw [hq] at KI HKi
        generalize FnM.arg ⟨nm, len, a0, a1, a2, res⟩ i = ai at *
        clear hai hq
        go_upto_region 6 with fail
        by_cases hil : (i : Int) < len
        · have d3 : decide ((i : Int) < len) = true := decide_eq_true hil
          have d4 : decide ((i : Int) ≥ len) = false := decide_eq_false (by omega)
          have d4' : decide (len ≤ (i : Int)) = false := decide_eq_false (by omega)
          have HK1 : Hid (K i = q) := Lib.hid (by rw [HKi.out, if_pos hil])
          clear hil
          cases q with
          | true =>
            refine wp_region_quiet (C := fun w' => Below wr.heap.size wr w') (by kernel_rfl) (by kernel_rfl) (⟨rfl, rfl, rfl, Nat.le_refl _, fun _ _ => rfl⟩) ?_
            refine QW.lit ?_
            refine qw_want rfl ?_ (fun w' hw' => ?_) ?_
            rotate_left
            · unfold Oper.quietAt
              go_simp
              exact rfl
            simp only [Act.put, List.setIfInBounds_toArray, List.set_cons_succ, List.set_cons_zero]
            refine qw_want rfl ?_ (fun w' hw' => ?_) ?_
            rotate_left
            · unfold Oper.quietAt
              go_simp
              exact rfl
            simp only [Act.put, List.setIfInBounds_toArray, List.set_cons_succ, List.set_cons_zero]
            refine qw_want rfl ?_ (fun w' hw' => ?_) ?_
            rotate_left
            · obtain ⟨k0, k1, k2, k3, k4⟩ := HFx.out w' hw'
              unfold Oper.quietAt
              go_simp
              exact rfl
            simp only [Act.put, List.setIfInBounds_toArray, List.set_cons_succ, List.set_cons_zero]
            refine qw_want rfl ?_ (fun w' hw' => ?_) ?_
            rotate_left
            · unfold Oper.quietAt
              go_simp
              exact rfl
            simp only [Act.put, List.setIfInBounds_toArray, List.set_cons_succ, List.set_cons_zero]
            refine qw_want rfl ?_ (fun w' hw' => ?_) ?_
            rotate_left
            · unfold Oper.quietAt
              go_simp
              exact rfl
            simp only [Act.put, List.setIfInBounds_toArray, List.set_cons_succ, List.set_cons_zero]
            refine qw_want rfl ?_ (fun w' hw' => ?_) ?_
            rotate_left
            · obtain ⟨k0, k1, k2, k3, k4⟩ := HFx.out w' hw'
              unfold Oper.quietAt
              go_simp
              exact rfl
            simp only [Act.put, List.setIfInBounds_toArray, List.set_cons_succ, List.set_cons_zero]
            refine qw_want rfl ?_ (fun w' hw' => ?_) ?_
            rotate_left
            · unfold Oper.quietAt
              go_simp
              exact rfl
            simp only [Act.put, List.setIfInBounds_toArray, List.set_cons_succ, List.set_cons_zero]
            refine qw_want rfl ?_ (fun w' hw' => ?_) ?_
            rotate_left
            · unfold Oper.quietAt
              go_simp
              exact rfl
            simp only [Act.put, List.setIfInBounds_toArray, List.set_cons_succ, List.set_cons_zero]
            refine qw_want rfl ?_ (fun w' hw' => ?_) ?_
            rotate_left
            · unfold Oper.quietAt
              go_simp
              exact rfl
            simp only [Act.put, List.setIfInBounds_toArray, List.set_cons_succ, List.set_cons_zero]
            refine qw_want rfl ?_ (fun w' hw' => ?_) ?_
            rotate_left
            · obtain ⟨k0, k1, k2, k3, k4⟩ := HFx.out w' hw'
              unfold Oper.quietAt
              go_simp
              exact rfl
            simp only [Act.put, List.setIfInBounds_toArray, List.set_cons_succ, List.set_cons_zero]
            refine qw_want rfl (.bool true) (fun w' hw' => ?_) ?_
            · unfold Oper.quietAt
              go_simp
              refine (KI.out w' hw').mono ?_
              rintro e w2 ⟨rfl, hb⟩
              have hz := below_then hw' (Nat.le_refl _) hb
              exact ⟨rfl, by simpa using hz⟩
            simp only [Act.put, List.setIfInBounds_toArray, List.set_cons_succ, List.set_cons_zero]
            refine qw_want rfl ?_ (fun w' hw' => ?_) ?_
            rotate_left
            · unfold Oper.quietAt
              go_simp
              exact rfl
            simp only [Act.put, List.setIfInBounds_toArray, List.set_cons_succ, List.set_cons_zero]
            refine qw_want rfl ?_ (fun w' hw' => ?_) ?_
            rotate_left
            · unfold Oper.quietAt
              go_simp
              exact rfl
            simp only [Act.put, List.setIfInBounds_toArray, List.set_cons_succ, List.set_cons_zero]
            refine qw_want rfl ?_ (fun w' hw' => ?_) ?_
            rotate_left
            · unfold Oper.quietAt
              go_simp
              exact rfl
            simp only [Act.put, List.setIfInBounds_toArray, List.set_cons_succ, List.set_cons_zero]
            refine qw_want rfl ?_ (fun w' hw' => ?_) ?_
            rotate_left
            · unfold Oper.quietAt
              go_simp
              exact rfl
            simp only [Act.put, List.setIfInBounds_toArray, List.set_cons_succ, List.set_cons_zero]
            refine qw_want rfl ?_ (fun w' hw' => ?_) ?_
            rotate_left
            · unfold Oper.quietAt
              go_simp
              exact rfl
            simp only [Act.put, List.setIfInBounds_toArray, List.set_cons_succ, List.set_cons_zero]
            refine qw_want rfl ?_ (fun w' hw' => ?_) ?_
            rotate_left
            · obtain ⟨k0, k1, k2, k3, k4⟩ := HFx.out w' hw'
              unfold Oper.quietAt
              go_simp
              exact rfl
            simp only [Act.put, List.setIfInBounds_toArray, List.set_cons_succ, List.set_cons_zero]
            refine qw_want rfl ?_ (fun w' hw' => ?_) ?_
            rotate_left
            · unfold Oper.quietAt
              go_simp
              exact rfl
            simp only [Act.put, List.setIfInBounds_toArray, List.set_cons_succ, List.set_cons_zero]
            refine qw_want rfl ?_ (fun w' hw' => ?_) ?_
            rotate_left
            · unfold Oper.quietAt
              go_simp
              exact rfl
            simp only [Act.put, List.setIfInBounds_toArray, List.set_cons_succ, List.set_cons_zero]
            refine qw_skip (by rfl) ?_
            simp only [Act.put, List.setIfInBounds_toArray, List.set_cons_succ, List.set_cons_zero]
            refine qw_skip (by rfl) ?_
            simp only [Act.put, List.setIfInBounds_toArray, List.set_cons_succ, List.set_cons_zero]
            refine qw_skip (by rfl) ?_
            simp only [Act.put, List.setIfInBounds_toArray, List.set_cons_succ, List.set_cons_zero]
            refine qw_skip (by rfl) ?_
            simp only [Act.put, List.setIfInBounds_toArray, List.set_cons_succ, List.set_cons_zero]
            refine qw_skip (by rfl) ?_
            simp only [Act.put, List.setIfInBounds_toArray, List.set_cons_succ, List.set_cons_zero]
            refine qw_want rfl ?_ (fun w' hw' => ?_) ?_
            rotate_left
            · unfold Oper.quietAt
              go_simp
              exact rfl
            simp only [Act.put, List.setIfInBounds_toArray, List.set_cons_succ, List.set_cons_zero]
            refine qw_want rfl ?_ (fun w' hw' => ?_) ?_
            rotate_left
            · unfold Oper.quietAt
              go_simp
              exact rfl
            simp only [Act.put, List.setIfInBounds_toArray, List.set_cons_succ, List.set_cons_zero]
            refine qw_end (fun w5 hb5 => ?_)
            have HB5 := Lib.hid (HB.out.trans (hb5.mono HB.out.size))
            clear hb5
            go_wp2
            go_roundg gk
            case measure => omega
            case rel => exact ⟨i + 1, by omega, by go_num, HB5.out, fun j h => by
                rcases Nat.lt_or_ge j i with h' | h'
                · exact HI.out j h'
                · obtain rfl : j = i := by omega
                  exact HK1.out⟩
          | false =>
            refine wp_region_quiet (C := fun w' => Below wr.heap.size wr w') (by kernel_rfl) (by kernel_rfl) (⟨rfl, rfl, rfl, Nat.le_refl _, fun _ _ => rfl⟩) ?_
            refine QW.lit ?_
            refine qw_want rfl ?_ (fun w' hw' => ?_) ?_
            rotate_left
            · unfold Oper.quietAt
              go_simp
              exact rfl
            simp only [Act.put, List.setIfInBounds_toArray, List.set_cons_succ, List.set_cons_zero]
            refine qw_want rfl ?_ (fun w' hw' => ?_) ?_
            rotate_left
            · unfold Oper.quietAt
              go_simp
              exact rfl
            simp only [Act.put, List.setIfInBounds_toArray, List.set_cons_succ, List.set_cons_zero]
            refine qw_want rfl ?_ (fun w' hw' => ?_) ?_
            rotate_left
            · obtain ⟨k0, k1, k2, k3, k4⟩ := HFx.out w' hw'
              unfold Oper.quietAt
              go_simp
              exact rfl
            simp only [Act.put, List.setIfInBounds_toArray, List.set_cons_succ, List.set_cons_zero]
            refine qw_want rfl ?_ (fun w' hw' => ?_) ?_
            rotate_left
            · unfold Oper.quietAt
              go_simp
              exact rfl
            simp only [Act.put, List.setIfInBounds_toArray, List.set_cons_succ, List.set_cons_zero]
            refine qw_want rfl ?_ (fun w' hw' => ?_) ?_
            rotate_left
            · unfold Oper.quietAt
              go_simp
              exact rfl
            simp only [Act.put, List.setIfInBounds_toArray, List.set_cons_succ, List.set_cons_zero]
            refine qw_want rfl ?_ (fun w' hw' => ?_) ?_
            rotate_left
            · obtain ⟨k0, k1, k2, k3, k4⟩ := HFx.out w' hw'
              unfold Oper.quietAt
              go_simp
              exact rfl
            simp only [Act.put, List.setIfInBounds_toArray, List.set_cons_succ, List.set_cons_zero]
            refine qw_want rfl ?_ (fun w' hw' => ?_) ?_
            rotate_left
            · unfold Oper.quietAt
              go_simp
              exact rfl
            simp only [Act.put, List.setIfInBounds_toArray, List.set_cons_succ, List.set_cons_zero]
            refine qw_want rfl ?_ (fun w' hw' => ?_) ?_
            rotate_left
            · unfold Oper.quietAt
              go_simp
              exact rfl
            simp only [Act.put, List.setIfInBounds_toArray, List.set_cons_succ, List.set_cons_zero]
            refine qw_want rfl ?_ (fun w' hw' => ?_) ?_
            rotate_left
            · unfold Oper.quietAt
              go_simp
              exact rfl
            simp only [Act.put, List.setIfInBounds_toArray, List.set_cons_succ, List.set_cons_zero]
            refine qw_want rfl ?_ (fun w' hw' => ?_) ?_
            rotate_left
            · obtain ⟨k0, k1, k2, k3, k4⟩ := HFx.out w' hw'
              unfold Oper.quietAt
              go_simp
              exact rfl
            simp only [Act.put, List.setIfInBounds_toArray, List.set_cons_succ, List.set_cons_zero]
            refine qw_want rfl (.bool false) (fun w' hw' => ?_) ?_
            · unfold Oper.quietAt
              go_simp
              refine (KI.out w' hw').mono ?_
              rintro e w2 ⟨rfl, hb⟩
              have hz := below_then hw' (Nat.le_refl _) hb
              exact ⟨rfl, by simpa using hz⟩
            simp only [Act.put, List.setIfInBounds_toArray, List.set_cons_succ, List.set_cons_zero]
            refine qw_want rfl ?_ (fun w' hw' => ?_) ?_
            rotate_left
            · unfold Oper.quietAt
              go_simp
              exact rfl
            simp only [Act.put, List.setIfInBounds_toArray, List.set_cons_succ, List.set_cons_zero]
            refine qw_want rfl ?_ (fun w' hw' => ?_) ?_
            rotate_left
            · unfold Oper.quietAt
              go_simp
              exact rfl
            simp only [Act.put, List.setIfInBounds_toArray, List.set_cons_succ, List.set_cons_zero]
            refine qw_want rfl ?_ (fun w' hw' => ?_) ?_
            rotate_left
            · unfold Oper.quietAt
              go_simp
              exact rfl
            simp only [Act.put, List.setIfInBounds_toArray, List.set_cons_succ, List.set_cons_zero]
            refine qw_skip (by rfl) ?_
            simp only [Act.put, List.setIfInBounds_toArray, List.set_cons_succ, List.set_cons_zero]
            refine qw_skip (by rfl) ?_
            simp only [Act.put, List.setIfInBounds_toArray, List.set_cons_succ, List.set_cons_zero]
            refine qw_skip (by rfl) ?_
            simp only [Act.put, List.setIfInBounds_toArray, List.set_cons_succ, List.set_cons_zero]
            refine qw_skip (by rfl) ?_
            simp only [Act.put, List.setIfInBounds_toArray, List.set_cons_succ, List.set_cons_zero]
            refine qw_skip (by rfl) ?_
            simp only [Act.put, List.setIfInBounds_toArray, List.set_cons_succ, List.set_cons_zero]
            refine qw_skip (by rfl) ?_
            simp only [Act.put, List.setIfInBounds_toArray, List.set_cons_succ, List.set_cons_zero]
            refine qw_skip (by rfl) ?_
            simp only [Act.put, List.setIfInBounds_toArray, List.set_cons_succ, List.set_cons_zero]
            refine qw_skip (by rfl) ?_
            simp only [Act.put, List.setIfInBounds_toArray, List.set_cons_succ, List.set_cons_zero]
            refine qw_skip (by rfl) ?_
            simp only [Act.put, List.setIfInBounds_toArray, List.set_cons_succ, List.set_cons_zero]
            refine qw_skip (by rfl) ?_
            simp only [Act.put, List.setIfInBounds_toArray, List.set_cons_succ, List.set_cons_zero]
            refine qw_skip (by rfl) ?_
            simp only [Act.put, List.setIfInBounds_toArray, List.set_cons_succ, List.set_cons_zero]
            refine qw_want rfl ?_ (fun w' hw' => ?_) ?_
            rotate_left
            · unfold Oper.quietAt
              go_simp
              exact rfl
            simp only [Act.put, List.setIfInBounds_toArray, List.set_cons_succ, List.set_cons_zero]
            refine qw_end (fun w5 hb5 => ?_)
            have HB5 := Lib.hid (HB.out.trans (hb5.mono HB.out.size))
            clear hb5
            go_wp2
            go_ret
            exact YesB.no (HNoA.out i hi3 HK1.out) (HB0.out.trans (HB5.out.mono HB0.out.size))
        · have d3 : decide ((i : Int) < len) = false := decide_eq_false hil
          have d4 : decide ((i : Int) ≥ len) = true := decide_eq_true (by omega)
          have d4' : decide (len ≤ (i : Int)) = true := decide_eq_true (by omega)
          have HK1 : Hid (K i = !(ai != 0)) := Lib.hid (by rw [HKi.out, if_neg hil])
          clear hil
          cases hz : (ai != 0) with
          | false =>
            have HZ := Lib.hid hz
            refine wp_region_quiet (C := fun w' => Below wr.heap.size wr w') (by kernel_rfl) (by kernel_rfl) (⟨rfl, rfl, rfl, Nat.le_refl _, fun _ _ => rfl⟩) ?_
            refine QW.lit ?_
            refine qw_want rfl ?_ (fun w' hw' => ?_) ?_
            rotate_left
            · unfold Oper.quietAt
              go_simp
              exact rfl
            simp only [Act.put, List.setIfInBounds_toArray, List.set_cons_succ, List.set_cons_zero]
            refine qw_want rfl ?_ (fun w' hw' => ?_) ?_
            rotate_left
            · unfold Oper.quietAt
              go_simp
              exact rfl
            simp only [Act.put, List.setIfInBounds_toArray, List.set_cons_succ, List.set_cons_zero]
            refine qw_want rfl ?_ (fun w' hw' => ?_) ?_
            rotate_left
            · obtain ⟨k0, k1, k2, k3, k4⟩ := HFx.out w' hw'
              unfold Oper.quietAt
              go_simp
              exact rfl
            simp only [Act.put, List.setIfInBounds_toArray, List.set_cons_succ, List.set_cons_zero]
            refine qw_want rfl ?_ (fun w' hw' => ?_) ?_
            rotate_left
            · unfold Oper.quietAt
              go_simp
              exact rfl
            simp only [Act.put, List.setIfInBounds_toArray, List.set_cons_succ, List.set_cons_zero]
            refine qw_want rfl ?_ (fun w' hw' => ?_) ?_
            rotate_left
            · unfold Oper.quietAt
              go_simp
              exact rfl
            simp only [Act.put, List.setIfInBounds_toArray, List.set_cons_succ, List.set_cons_zero]
            refine qw_skip (by rfl) ?_
            simp only [Act.put, List.setIfInBounds_toArray, List.set_cons_succ, List.set_cons_zero]
            refine qw_skip (by rfl) ?_
            simp only [Act.put, List.setIfInBounds_toArray, List.set_cons_succ, List.set_cons_zero]
            refine qw_skip (by rfl) ?_
            simp only [Act.put, List.setIfInBounds_toArray, List.set_cons_succ, List.set_cons_zero]
            refine qw_skip (by rfl) ?_
            simp only [Act.put, List.setIfInBounds_toArray, List.set_cons_succ, List.set_cons_zero]
            refine qw_skip (by rfl) ?_
            simp only [Act.put, List.setIfInBounds_toArray, List.set_cons_succ, List.set_cons_zero]
            refine qw_skip (by rfl) ?_
            simp only [Act.put, List.setIfInBounds_toArray, List.set_cons_succ, List.set_cons_zero]
            refine qw_skip (by rfl) ?_
            simp only [Act.put, List.setIfInBounds_toArray, List.set_cons_succ, List.set_cons_zero]
            refine qw_want rfl ?_ (fun w' hw' => ?_) ?_
            rotate_left
            · unfold Oper.quietAt
              go_simp
              exact rfl
            simp only [Act.put, List.setIfInBounds_toArray, List.set_cons_succ, List.set_cons_zero]
            refine qw_want rfl ?_ (fun w' hw' => ?_) ?_
            rotate_left
            · unfold Oper.quietAt
              go_simp
              exact rfl
            simp only [Act.put, List.setIfInBounds_toArray, List.set_cons_succ, List.set_cons_zero]
            refine qw_want rfl ?_ (fun w' hw' => ?_) ?_
            rotate_left
            · unfold Oper.quietAt
              go_simp
              exact rfl
            simp only [Act.put, List.setIfInBounds_toArray, List.set_cons_succ, List.set_cons_zero]
            refine qw_want rfl ?_ (fun w' hw' => ?_) ?_
            rotate_left
            · unfold Oper.quietAt
              go_simp
              exact rfl
            simp only [Act.put, List.setIfInBounds_toArray, List.set_cons_succ, List.set_cons_zero]
            refine qw_want rfl ?_ (fun w' hw' => ?_) ?_
            rotate_left
            · obtain ⟨k0, k1, k2, k3, k4⟩ := HFx.out w' hw'
              unfold Oper.quietAt
              go_simp
              exact rfl
            simp only [Act.put, List.setIfInBounds_toArray, List.set_cons_succ, List.set_cons_zero]
            refine qw_want rfl ?_ (fun w' hw' => ?_) ?_
            rotate_left
            · unfold Oper.quietAt
              go_simp
              exact rfl
            simp only [Act.put, List.setIfInBounds_toArray, List.set_cons_succ, List.set_cons_zero]
            refine qw_want rfl ?_ (fun w' hw' => ?_) ?_
            rotate_left
            · unfold Oper.quietAt
              go_simp
              exact rfl
            simp only [Act.put, List.setIfInBounds_toArray, List.set_cons_succ, List.set_cons_zero]
            refine qw_want rfl ?_ (fun w' hw' => ?_) ?_
            rotate_left
            · unfold Oper.quietAt
              go_simp
              exact rfl
            simp only [Act.put, List.setIfInBounds_toArray, List.set_cons_succ, List.set_cons_zero]
            refine qw_want rfl ?_ (fun w' hw' => ?_) ?_
            rotate_left
            · unfold Oper.quietAt
              go_simp
              exact rfl
            simp only [Act.put, List.setIfInBounds_toArray, List.set_cons_succ, List.set_cons_zero]
            refine qw_want rfl ?_ (fun w' hw' => ?_) ?_
            rotate_left
            · unfold Oper.quietAt
              go_simp
              exact rfl
            simp only [Act.put, List.setIfInBounds_toArray, List.set_cons_succ, List.set_cons_zero]
            refine qw_want rfl ?_ (fun w' hw' => ?_) ?_
            rotate_left
            · obtain ⟨k0, k1, k2, k3, k4⟩ := HFx.out w' hw'
              unfold Oper.quietAt
              go_simp
              exact rfl
            simp only [Act.put, List.setIfInBounds_toArray, List.set_cons_succ, List.set_cons_zero]
            refine qw_want rfl ?_ (fun w' hw' => ?_) ?_
            rotate_left
            · unfold Oper.quietAt
              go_simp
              exact rfl
            simp only [Act.put, List.setIfInBounds_toArray, List.set_cons_succ, List.set_cons_zero]
            refine qw_want rfl ?_ (fun w' hw' => ?_) ?_
            rotate_left
            · unfold Oper.quietAt
              go_simp
              exact rfl
            simp only [Act.put, List.setIfInBounds_toArray, List.set_cons_succ, List.set_cons_zero]
            refine qw_want rfl ?_ (fun w' hw' => ?_) ?_
            rotate_left
            · unfold Oper.quietAt
              go_simp
              exact rfl
            simp only [Act.put, List.setIfInBounds_toArray, List.set_cons_succ, List.set_cons_zero]
            refine qw_end (fun w5 hb5 => ?_)
            have HB5 := Lib.hid (HB.out.trans (hb5.mono HB.out.size))
            clear hb5
            go_wp2
            go_roundg gk
            case measure => omega
            case rel => exact ⟨i + 1, by omega, by go_num, HB5.out, fun j h => by
                rcases Nat.lt_or_ge j i with h' | h'
                · exact HI.out j h'
                · obtain rfl : j = i := by omega
                  exact HK1.out.trans (congrArg (!·) HZ.out)⟩
          | true =>
            have HZ := Lib.hid hz
            refine wp_region_quiet (C := fun w' => Below wr.heap.size wr w') (by kernel_rfl) (by kernel_rfl) (⟨rfl, rfl, rfl, Nat.le_refl _, fun _ _ => rfl⟩) ?_
            refine QW.lit ?_
            refine qw_want rfl ?_ (fun w' hw' => ?_) ?_
            rotate_left
            · unfold Oper.quietAt
              go_simp
              exact rfl
            simp only [Act.put, List.setIfInBounds_toArray, List.set_cons_succ, List.set_cons_zero]
            refine qw_want rfl ?_ (fun w' hw' => ?_) ?_
            rotate_left
            · unfold Oper.quietAt
              go_simp
              exact rfl
            simp only [Act.put, List.setIfInBounds_toArray, List.set_cons_succ, List.set_cons_zero]
            refine qw_want rfl ?_ (fun w' hw' => ?_) ?_
            rotate_left
            · obtain ⟨k0, k1, k2, k3, k4⟩ := HFx.out w' hw'
              unfold Oper.quietAt
              go_simp
              exact rfl
            simp only [Act.put, List.setIfInBounds_toArray, List.set_cons_succ, List.set_cons_zero]
            refine qw_want rfl ?_ (fun w' hw' => ?_) ?_
            rotate_left
            · unfold Oper.quietAt
              go_simp
              exact rfl
            simp only [Act.put, List.setIfInBounds_toArray, List.set_cons_succ, List.set_cons_zero]
            refine qw_want rfl ?_ (fun w' hw' => ?_) ?_
            rotate_left
            · unfold Oper.quietAt
              go_simp
              exact rfl
            simp only [Act.put, List.setIfInBounds_toArray, List.set_cons_succ, List.set_cons_zero]
            refine qw_skip (by rfl) ?_
            simp only [Act.put, List.setIfInBounds_toArray, List.set_cons_succ, List.set_cons_zero]
            refine qw_skip (by rfl) ?_
            simp only [Act.put, List.setIfInBounds_toArray, List.set_cons_succ, List.set_cons_zero]
            refine qw_skip (by rfl) ?_
            simp only [Act.put, List.setIfInBounds_toArray, List.set_cons_succ, List.set_cons_zero]
            refine qw_skip (by rfl) ?_
            simp only [Act.put, List.setIfInBounds_toArray, List.set_cons_succ, List.set_cons_zero]
            refine qw_skip (by rfl) ?_
            simp only [Act.put, List.setIfInBounds_toArray, List.set_cons_succ, List.set_cons_zero]
            refine qw_skip (by rfl) ?_
            simp only [Act.put, List.setIfInBounds_toArray, List.set_cons_succ, List.set_cons_zero]
            refine qw_skip (by rfl) ?_
            simp only [Act.put, List.setIfInBounds_toArray, List.set_cons_succ, List.set_cons_zero]
            refine qw_want rfl ?_ (fun w' hw' => ?_) ?_
            rotate_left
            · unfold Oper.quietAt
              go_simp
              exact rfl
            simp only [Act.put, List.setIfInBounds_toArray, List.set_cons_succ, List.set_cons_zero]
            refine qw_want rfl ?_ (fun w' hw' => ?_) ?_
            rotate_left
            · unfold Oper.quietAt
              go_simp
              exact rfl
            simp only [Act.put, List.setIfInBounds_toArray, List.set_cons_succ, List.set_cons_zero]
            refine qw_want rfl ?_ (fun w' hw' => ?_) ?_
            rotate_left
            · unfold Oper.quietAt
              go_simp
              exact rfl
            simp only [Act.put, List.setIfInBounds_toArray, List.set_cons_succ, List.set_cons_zero]
            refine qw_want rfl ?_ (fun w' hw' => ?_) ?_
            rotate_left
            · unfold Oper.quietAt
              go_simp
              exact rfl
            simp only [Act.put, List.setIfInBounds_toArray, List.set_cons_succ, List.set_cons_zero]
            refine qw_want rfl ?_ (fun w' hw' => ?_) ?_
            rotate_left
            · obtain ⟨k0, k1, k2, k3, k4⟩ := HFx.out w' hw'
              unfold Oper.quietAt
              go_simp
              exact rfl
            simp only [Act.put, List.setIfInBounds_toArray, List.set_cons_succ, List.set_cons_zero]
            refine qw_want rfl ?_ (fun w' hw' => ?_) ?_
            rotate_left
            · unfold Oper.quietAt
              go_simp
              exact rfl
            simp only [Act.put, List.setIfInBounds_toArray, List.set_cons_succ, List.set_cons_zero]
            refine qw_want rfl ?_ (fun w' hw' => ?_) ?_
            rotate_left
            · unfold Oper.quietAt
              go_simp
              exact rfl
            simp only [Act.put, List.setIfInBounds_toArray, List.set_cons_succ, List.set_cons_zero]
            refine qw_want rfl ?_ (fun w' hw' => ?_) ?_
            rotate_left
            · unfold Oper.quietAt
              go_simp
              exact rfl
            simp only [Act.put, List.setIfInBounds_toArray, List.set_cons_succ, List.set_cons_zero]
            refine qw_want rfl ?_ (fun w' hw' => ?_) ?_
            rotate_left
            · unfold Oper.quietAt
              go_simp
              exact rfl
            simp only [Act.put, List.setIfInBounds_toArray, List.set_cons_succ, List.set_cons_zero]
            refine qw_want rfl ?_ (fun w' hw' => ?_) ?_
            rotate_left
            · unfold Oper.quietAt
              go_simp
              exact rfl
            simp only [Act.put, List.setIfInBounds_toArray, List.set_cons_succ, List.set_cons_zero]
            refine qw_want rfl ?_ (fun w' hw' => ?_) ?_
            rotate_left
            · obtain ⟨k0, k1, k2, k3, k4⟩ := HFx.out w' hw'
              unfold Oper.quietAt
              go_simp
              exact rfl
            simp only [Act.put, List.setIfInBounds_toArray, List.set_cons_succ, List.set_cons_zero]
            refine qw_want rfl ?_ (fun w' hw' => ?_) ?_
            rotate_left
            · unfold Oper.quietAt
              go_simp
              exact rfl
            simp only [Act.put, List.setIfInBounds_toArray, List.set_cons_succ, List.set_cons_zero]
            refine qw_want rfl ?_ (fun w' hw' => ?_) ?_
            rotate_left
            · unfold Oper.quietAt
              go_simp
              exact rfl
            simp only [Act.put, List.setIfInBounds_toArray, List.set_cons_succ, List.set_cons_zero]
            refine qw_want rfl ?_ (fun w' hw' => ?_) ?_
            rotate_left
            · unfold Oper.quietAt
              go_simp
              exact rfl
            simp only [Act.put, List.setIfInBounds_toArray, List.set_cons_succ, List.set_cons_zero]
            refine qw_end (fun w5 hb5 => ?_)
            have HB5 := Lib.hid (HB.out.trans (hb5.mono HB.out.size))
            clear hb5
            go_wp2
            go_ret
            exact YesB.no (HNoA.out i hi3 (HK1.out.trans (congrArg (!·) HZ.out))) (HB0.out.trans (HB5.out.mono HB0.out.size))
end Go.Proofs.YtkapbdjobfbhhaaGreat

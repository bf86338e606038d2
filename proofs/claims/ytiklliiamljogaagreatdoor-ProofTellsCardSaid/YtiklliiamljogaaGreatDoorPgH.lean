/- Clauses, both. -/
import Derived.Test.YtiklliiamljogaaGreatDoorPfT
import Derived.Test.YtiklliiamljogaaGreatDoorPgG
import Derived.Test.YtiklliiamljogaaGreatDoorPgI
import Derived.Test.YtiklliiamljogaaGreatDoorSameRef
import Derived.Test.YtiklliiamljogaaGreatDoorPfD
namespace Go.Proofs.YtiklliiamljogaaGreatDoor
open Go.RowKit

def C4.row (y : C4) : Value := .slice y.A y.n y.c
/-- A row of clauses of one's own, the clauses lying as they lay in W. -/
structure Cls (W w : World) (v : Value) (L : List Stp) (ys : List C4) : Prop where
  own : w.ownsRow W.heap.size 44 1 v ys.length (ys.map C4.row)
  len : ys.length = L.length
  each : ∀ i (hi : i < ys.length), Is4 W ys[i] (L[i]'(len ▸ hi))
  below : Below W.heap.size W w
theorem slice_info : (Tryz.prog.info? 44).map (fun i => (i.zero, i.size, i.bytes)) = some (some (.slice none 0 0), 1, 24) := by kernel_rfl
theorem make_cls (n : Nat) (hn : n ≤ 1000000) (w : World) : ∃ C : Array Value, C.size = n * 1 ∧ (Instr.makeSlice 42 (.int .i64 0) (.int .i64 n)).run Tryz.prog w = .ok (.slice (some ⟨w.heap.size, 0, none⟩) 0 n) (w.alloc (.cells C 44)) := by
  obtain ⟨i0, hi, hz0, hz1, hz2⟩ := info_parts slice_info
  exact ⟨madeCells (Value.slice none 0 0).cells (n * 1), size_madeCells _ _, Eq.trans (run_make_rowN (P := Tryz.prog) 42 44 i0 (.slice none 0 0) Tryz.underlying42 hi hz0 .i64 .i64 0 n (Nat.zero_le _) (by rw [hz2]; omega) (by omega) w) (by rw [hz1])⟩
theorem Cls.push {W w w' : World} {v v' : Value} {L : List Stp} {ys : List C4} {y : C4} {X : Stp} (h : Cls W w v L ys) (hX : Is4 W y X) (ho : w'.ownsRow W.heap.size 44 1 v' (ys.length + 1) (ys.map C4.row ++ [y.row])) (hb : Below W.heap.size W w') : Cls W w' v' (L ++ [X]) (ys ++ [y]) := by
  have hl := h.len
  refine ⟨by rw [List.length_append, List.length_singleton, List.map_append]; exact ho, by simp [hl], fun i hi => ?_, hb⟩
  rcases Nat.lt_or_ge i ys.length with h1 | h1
  · rw [List.getElem_append_left h1, List.getElem_append_left (hl ▸ h1)]
    exact h.each i h1
  · rw [List.length_append, List.length_singleton] at hi
    obtain rfl : i = ys.length := by omega
    rw [List.getElem_append_right (Nat.le_refl _), List.getElem_append_right (by omega)]
    simpa [hl] using hX
theorem row_push {ops : Array Oper} {rest : List Oper} {o : Oper} {a : Act} {Q : Exit → Act → World → Prop} (w0 : World) (hgd : o.guard = none) (s x : Operand)
    (ho : o.op = .call { callee := .builtin .append, args := #[s, x], argTypes := #[42, 42] }) (w : World) (y : C4) (hw : w0 = w.alloc (.cells #[.slice y.A y.n y.c] 44)) (W : World) (v : Value) (L : List Stp) (ys : List C4) (X : Stp) (hs : a.eval s = v) (hR : Cls W w v L ys) (hX : Is4 W y X)
    (hx : a.eval x = .slice (some ⟨w.heap.size, 0, none⟩) 1 1) (hn : ys.length ≤ 1000000)
    (h : ∀ v' w', Cls W w' v' (L ++ [X]) (ys ++ [y]) → wpList Tryz.prog ops Q rest (a.put o.dst v') w') : wpList Tryz.prog ops Q (o :: rest) a w0 := by
  subst hw
  obtain ⟨i0, hi, hz0, hz1, hz2⟩ := info_parts slice_info
  have hD := hR.below.size
  refine list_push _ hgd s x 42 ho W.heap.size 44 i0 (.slice none 0 0) 1 24 Tryz.underlying42 hi hz0 hz1 hz2 rfl (by decide) v ys.length (ys.map C4.row) hs (hR.own.alloc _) w.heap.size #[.slice y.A y.n y.c] hx (Blk.new _ _ _) rfl (by simp [Value.oneCell']) (by omega) (by decide) hD ?_
  intro g cap w5 hown hgrow hat hlt
  have hk : Kept (fun i => v.ownBlock = some i) w w5 := ((Kept.refl _ w).alloc (.cells #[.slice y.A y.n y.c] 44)).grown hgrow (fun i hi => .inl hi)
  exact h _ _ (hR.push hX hown (hR.below.trans (hk.below hD fun k hk => (hR.own.lt k hk).1)))
theorem Cls.form {W w : World} {v : Value} {L : List Stp} {ys : List C4} (h : Cls W w v L ys) : ∃ A N c, v = .slice A N c := by
  obtain ⟨A, c, rfl⟩ := own_slice h.own
  exact ⟨_, _, _, rfl⟩
/-- What Clauses hands over. -/
def ClsOut (L : List Stp) (w w' : World) (e : Ending) : Prop := ∃ v ys, e = .returned v ∧ Cls w w' v L ys

set_option maxHeartbeats 2000000 in
set_option maxRecDepth 100000 in
theorem rclauses_ok (L : List Stp) (hl : L.length ≤ 20000) (w : World) (A : Option Addr) (c : Nat) (h : Steps w A L) :
    Calls Tryz.prog 22 #[.slice A L.length c] w fun e w' => ClsOut L w w' e := by
  have HS := Lib.hid h
  clear h
  go_enter Tryz.func22, Tryz.ntmps22
  go_wp2
  go_loopw [3, 4] (fun v d wx => ∃ (i : Nat) (ys : List C4), i ≤ L.length ∧ d = .int .i64 i ∧ Cls w wx v (L.take i) ys) (fun _ d _ => (L.length - intOf d).toNat)
  case atStart => exact ⟨0, [], Nat.zero_le _, rfl, ⟨World.ownsRow_nil _ _ _ _, rfl, fun i h => absurd h (Nat.not_lt_zero _), Below.refl _ _⟩⟩
  case round =>
    obtain ⟨i, ys, hi, rfl, hC⟩ := hrel
    obtain ⟨B, N, k, rfl⟩ := hC.form
    have hyl := hC.len
    rw [List.length_take] at hyl
    have HC := Lib.hid hC
    clear hC
    by_cases hin : i < L.length
    · have hiz : (i : Int) < (L.length : Int) := by omega
      have d1 : decide ((i : Int) < L.length) = true := decide_eq_true hiz
      obtain ⟨b, off, y, rfl, hlt, ⟨_, _, _, x3⟩, hy⟩ := HS.out i hin
      have hbx := HC.out.below
      have x3 := (hbx.cell (p := ⟨b, off + i * 4 + 3, none⟩) hlt).trans x3
      have hlt := Nat.lt_of_lt_of_le hlt hbx.size
      have HY := Lib.hid hy
      have HT := Lib.hid (List.take_succ_eq_append_getElem hin)
      clear hy hbx HS
      go_wp2_with (at_builtin; refine row_push _ rfl (.tmp 11) (.tmp 17) rfl wr y rfl w _ (L.take i) ys (L[i]) rfl HC.out HY.out rfl (by omega) ?_; intro v2 w2 hC2)
      go_roundw
      case rel => exact ⟨i + 1, ys ++ [y], by omega, by go_num, by rw [HT.out]; exact hC2⟩
      case measure => simp only [intOf]; omega
    · have d1 : decide ((i : Int) < L.length) = false := decide_eq_false (by omega)
      have e : L.take i = L := List.take_of_length_le (by omega)
      rw [e] at HC
      clear HS
      go_wp2
      go_ret
      exact ⟨_, ys, rfl, HC.out⟩

set_option maxHeartbeats 2000000 in
set_option maxRecDepth 100000 in
theorem clauses_ok (L : List Stp) (hl : L.length ≤ 20000) (w : World) (A : Option Addr) (c : Nat) (h : Steps w A L) :
    Calls Tryz.prog 21 #[.slice A L.length c] w fun e w' => ClsOut L w w' e := by
  have HS := Lib.hid h
  clear h
  obtain ⟨C, hCs, hmk⟩ := make_cls L.length (by omega) w
  go_enter Tryz.func21, Tryz.ntmps21
  go_wp2
  go_loopw [3, 11] (fun v d wx => ∃ (i : Nat) (ys : List C4), i ≤ L.length ∧ d = .int .i64 i ∧ Cls w wx v (L.take i) ys) (fun _ d _ => (L.length - intOf d).toNat)
  case atStart => exact ⟨0, [], Nat.zero_le _, rfl, ⟨World.ownsRow_made w C L.length (Nat.le_refl _) (by unfold maxLen; omega) hCs, rfl, fun i h => absurd h (Nat.not_lt_zero _), (Below.refl _ w).alloc (Nat.le_refl _) _⟩⟩
  case round =>
    obtain ⟨i, ys, hi, rfl, hC⟩ := hrel
    obtain ⟨B, N, k, rfl⟩ := hC.form
    have hyl := hC.len
    rw [List.length_take] at hyl
    have HC := Lib.hid hC
    clear hC hmk hCs
    by_cases hin : i < L.length
    · have hiz : (i : Int) < (L.length : Int) := by omega
      have d1 : decide ((i : Int) < L.length) = true := decide_eq_true hiz
      obtain ⟨b, off, y, rfl, hlt, ⟨x0, x1, x2, x3⟩, hy⟩ := HS.out i hin
      have hbx := HC.out.below
      have x0 := (hbx.cell (p := ⟨b, off + i * 4, none⟩) hlt).trans x0
      have x1 := (hbx.cell (p := ⟨b, off + i * 4 + 1, none⟩) hlt).trans x1
      have x2 := (hbx.cell (p := ⟨b, off + i * 4 + 2, none⟩) hlt).trans x2
      have x3 := (hbx.cell (p := ⟨b, off + i * 4 + 3, none⟩) hlt).trans x3
      have hlt := Nat.lt_of_lt_of_le hlt hbx.size
      have HY := Lib.hid hy
      have HT := Lib.hid (List.take_succ_eq_append_getElem hin)
      obtain ⟨wb, hwb⟩ : ∃ wb, wr.alloc (.cells #[.int .i8 y.k, .int .i64 y.a, .int .i64 y.b, .slice y.A y.n y.c] 46) = wb := ⟨_, rfl⟩
      have hC1 : Cls w wb (.slice B N k) (L.take i) ys := hwb ▸ ⟨HC.out.own.alloc _, HC.out.len, HC.out.each, HC.out.below.alloc HC.out.below.size _⟩
      have hsz : wb.heap.size = wr.heap.size + 1 := by rw [← hwb]; simp
      have HC1 := Lib.hid hC1
      have HSZ := Lib.hid hsz
      clear hy hbx HS hC1 hsz
      subst hwb
      go_wp2_with (at_builtin; refine row_push _ rfl (.tmp 15) (.tmp 18) rfl (wr.alloc (.cells #[.int .i8 y.k, .int .i64 y.a, .int .i64 y.b, .slice y.A y.n y.c] 46)) y rfl w _ (L.take i) ys (L[i]) rfl HC1.out HY.out (by rw [HSZ.out]; rfl) (by omega) ?_; intro v2 w2 hC2)
      go_roundw
      case rel => exact ⟨i + 1, ys ++ [y], by omega, by go_num, by rw [HT.out]; exact hC2⟩
      case measure => simp only [intOf]; omega
    · have d1 : decide ((i : Int) < L.length) = false := decide_eq_false (by omega)
      have e : L.take i = L := List.take_of_length_le (by omega)
      rw [e] at HC
      clear HS
      go_wp2
      go_ret
      exact ⟨_, ys, rfl, HC.out⟩
end Go.Proofs.YtiklliiamljogaaGreatDoor

/- ProofTells: the walk. -/
namespace Go.Proofs.YtiklliiamljogaaGreatDoor
open Go.RowKit Go.Lib

/-- Clauses as they lie. -/
def ClsAt (w : World) (A : Option Addr) (L : List Stp) : Prop := ∀ i (hi : i < L.length), ∃ g B m, A = some ⟨g, 0, none⟩ ∧ g < w.heap.size ∧ w.cell? ⟨g, i, none⟩ = some (.slice B L[i].l.length m) ∧ Row .i64 w B L[i].l
theorem ClsAt.keep {w w' : World} {A : Option Addr} {L : List Stp} (h : ClsAt w A L) (hb : Below w.heap.size w w') : ClsAt w' A L := fun i hi => by
  obtain ⟨g, B, m, e, hlt, hc, hr⟩ := h i hi
  exact ⟨g, B, m, e, Nat.lt_of_lt_of_le hlt hb.size, (hb.cell (p := ⟨g, i, none⟩) hlt).trans hc, hr.below hb⟩
theorem ClsOut.norm {L : List Stp} {w w' : World} {e : Ending} (h : ClsOut L w w' e) : (∃ A c, e = .returned (.slice A L.length c) ∧ ClsAt w' A L) ∧ Below w.heap.size w w' := by
  obtain ⟨v, ys, rfl, hC⟩ := h
  obtain ⟨A, c, rfl⟩ := own_slice hC.own
  refine ⟨⟨A, c, by rw [hC.len], fun i hi => ?_⟩, hC.below⟩
  have hiy : i < ys.length := by rw [hC.len]; exact hi
  obtain ⟨g, cap, hv, _, hlt, _⟩ := own_form hC.own (by omega)
  injection hv with e1 _ _
  subst e1
  have hc := hC.own.cellAt i (by omega)
  rw [List.getElem?_map, List.getElem?_eq_getElem hiy] at hc
  have hI := hC.each i hiy
  refine ⟨g, ys[i].A, ys[i].c, rfl, hlt, ?_, hI.row.below hC.below⟩
  rw [hc, ← hI.n]
  rfl

set_option maxHeartbeats 2000000 in
set_option maxRecDepth 100000 in
theorem proofTells_walk (s : Stp) (a b : List Stp) (w : World) (ht : Tab w) (y : C4) (hyg : Is4G w y s) (A B : Option Addr) (c d : Nat) (hAg : GS w A a) (hBg : GS w B b) :
    Calls Tryz.prog 7 #[.agg #[.int .i8 y.k, .int .i64 y.a, .int .i64 y.b, .slice y.A y.n y.c], .slice A a.length c, .slice B b.length d] w fun e w' => e = .returned (.bool true) ∧ Below w.heap.size w w' := by
  obtain ⟨W, eW⟩ : ∃ W, w.alloc (.cells #[.int .i8 y.k, .int .i64 y.a, .int .i64 y.b, .slice y.A y.n y.c] 46) = W := ⟨_, rfl⟩
  have hbW : Below w.heap.size w W := eW ▸ (Below.refl _ w).alloc (Nat.le_refl _) _
  have hBx : Blk W w.heap.size 46 #[.int .i8 y.k, .int .i64 y.a, .int .i64 y.b, .slice y.A y.n y.c] := eW ▸ Blk.new w _ _
  have HW := Lib.hid hbW
  have HBX := Lib.hid (fun w1 (h1 : Below W.heap.size W w1) => hBx.below h1 hBx.lt)
  have HWK := Lib.hid (fun w1 (h1 : Below W.heap.size W w1) => wakes_ok w1 (ht.keep (below_then hbW (Nat.le_refl _) h1)))
  have HSAG := Lib.hid (fun w1 (h1 : Below W.heap.size W w1) => (hAg.keep hbW).keep h1)
  have HSBG := Lib.hid (fun w1 (h1 : Below W.heap.size W w1) => (hBg.keep hbW).keep h1)
  have HYG := Lib.hid (fun w1 (h1 : Below W.heap.size W w1) => (hyg.keep hbW).keep h1)
  have HGA := Lib.hid (great28g_ok a W A c (hAg.keep hbW))
  have HGB := Lib.hid (great28g_ok b W B d (hBg.keep hbW))
  have hyn := hyg.n
  have hk := hyg.kind.2
  have ha := hAg.len
  obtain ⟨x0, x1, x2, x3⟩ := blk4 hBx
  clear hyg hbW hBx ht hAg hBg
  cases hga : greatM a with
  | true =>
    rw [hga] at HGA
    clear hga hyn
    go_enter Tryz.func7, Tryz.ntmps7
    go_wp2_with (first
      | (go_at_call 8; (with_reducible refine HGA.out.mono ?_); rintro e w1 ⟨rfl, rfl⟩)
      | (go_at_call 9; (with_reducible refine (HWK.out _ (Below.refl _ _)).mono ?_); rintro e w2 ⟨rfl, hb2⟩))
    go_ret
    exact ⟨rfl, below_then HW.out (Nat.le_refl _) hb2⟩
  | false =>
    rw [hga] at HGA
    have hNa := not_great hga
    clear hga
    cases hgb : greatM b with
    | true =>
      rw [hgb] at HGB
      clear hgb hyn hNa
      go_enter Tryz.func7, Tryz.ntmps7
      go_wp2_with (first
        | (go_at_call 8; (with_reducible refine HGA.out.mono ?_); rintro e w1 ⟨rfl, rfl⟩)
        | (go_at_call 8; (with_reducible refine HGB.out.mono ?_); rintro e w1 ⟨rfl, rfl⟩)
        | (go_at_call 9; (with_reducible refine (HWK.out _ (Below.refl _ _)).mono ?_); rintro e w2 ⟨rfl, hb2⟩))
      go_ret
      exact ⟨rfl, below_then HW.out (Nat.le_refl _) hb2⟩
    | false =>
      rw [hgb] at HGB
      have hNb := not_great hgb
      clear hgb
      by_cases hl : 1000 < y.n
      · have d1 : decide ((y.n : Int) > 1000) = true := decide_eq_true (by omega)
        have d2 : decide ((1000 : Int) < y.n) = true := d1
        clear hl hyn hNa hNb
        go_enter Tryz.func7, Tryz.ntmps7
        go_wp2_with (first
          | (go_at_call 8; (with_reducible refine HGA.out.mono ?_); rintro e w1 ⟨rfl, rfl⟩)
          | (go_at_call 8; (with_reducible refine HGB.out.mono ?_); rintro e w1 ⟨rfl, rfl⟩)
          | (go_at_call 9; (with_reducible refine (HWK.out _ (Below.refl _ _)).mono ?_); rintro e w2 ⟨rfl, hb2⟩))
        go_ret
        exact ⟨rfl, below_then HW.out (Nat.le_refl _) hb2⟩
      · have d1 : decide ((y.n : Int) > 1000) = false := decide_eq_false (by omega)
        have d2 : decide ((1000 : Int) < y.n) = false := d1
        have hal := hNa.len
        have HSA := Lib.hid (fun w1 (h1 : Below W.heap.size W w1) => (HSAG.out w1 h1).steps hNa)
        have HSB := Lib.hid (fun w1 (h1 : Below W.heap.size W w1) => (HSBG.out w1 h1).steps hNb)
        have HY := Lib.hid (fun w1 (h1 : Below W.heap.size W w1) => (HYG.out w1 h1).is (by omega))
        have HCA := Lib.hid ((clauses_ok a (by omega) W A c (HSA.out W (Below.refl _ _))).mono fun e w' h => h.norm)
        have HCB := Lib.hid (fun w1 (h1 : Below W.heap.size W w1) => (rclauses_ok a (by omega) w1 A c (HSA.out w1 h1)).mono fun e w' h => h.norm)
        have HM1 := Lib.hid (fun w1 (h1 : Below W.heap.size W w1) => may_ok s w1 y (HY.out w1 h1) hk)
        have HM2 := Lib.hid (fun w1 (h1 : Below W.heap.size W w1) => rmay_ok s w1 y (HY.out w1 h1) (by omega))
        have HS1 := Lib.hid (fun w1 (h1 : Below W.heap.size W w1) => same28_ok a b ha w1 A B c d (HSA.out w1 h1) (HSB.out w1 h1))
        have HS2 := Lib.hid (fun w1 (h1 : Below W.heap.size W w1) => rsame28_ok a b ha w1 A B c d (HSA.out w1 h1) (HSB.out w1 h1))
        unfold C4.val at HM1 HM2
        obtain ⟨ms, hms⟩ : ∃ ms, s.may = ms := ⟨_, rfl⟩
        obtain ⟨eb, heb⟩ : ∃ eb, eqbs a b = eb := ⟨_, rfl⟩
        rw [hms] at HM1 HM2
        rw [heb] at HS1 HS2
        have hlit : ∀ t ∈ a, t.l.length ≤ 8999 := hNa.lits
        have HLIT := Lib.hid hlit
        clear hl hyn hNa hNb hms heb hlit ha hk
        go_enter Tryz.func7, Tryz.ntmps7
        go_wp2_with (first
          | (go_at_call 8; (with_reducible refine HGA.out.mono ?_); rintro e w1 ⟨rfl, rfl⟩)
          | (go_at_call 8; (with_reducible refine HGB.out.mono ?_); rintro e w1 ⟨rfl, rfl⟩)
          | (go_at_call 21; (with_reducible refine HCA.out.mono ?_); rintro e w2 ⟨⟨XA, xc, rfl, hX⟩, hb2⟩; have HB2 := Lib.hid hb2; have HX2 := Lib.hid hX; clear hb2 hX)
          | (go_at_call 22; (with_reducible refine (HCB.out _ HB2.out).mono ?_); rintro e w3 ⟨⟨YA, yc, rfl, hY⟩, hb3⟩; have HB3 := Lib.hid (below_then HB2.out (Nat.le_refl _) hb3); have HX3 := Lib.hid (HX2.out.keep hb3); have HY3 := Lib.hid hY; clear hb3 hY))
        go_loopw [9] (fun d wx => Below w3.heap.size w3 wx ∧ ∃ i : Nat, i ≤ a.length ∧ d = .int .i64 i) (fun d _ => (a.length - intOf d).toNat)
        case atStart => exact ⟨Below.refl _ _, 0, Nat.zero_le _, rfl⟩
        case round =>
          obtain ⟨hBx, i, hi, rfl⟩ := hrel
          have HBx := Lib.hid hBx
          by_cases hin : i < a.length
          · have hinz : (i : Int) < (a.length : Int) := by omega
            have d3 : decide ((i : Int) < a.length) = true := decide_eq_true hinz
            obtain ⟨g, B1, m1, rfl, hlt, cx, hrx⟩ := (HX3.out.keep hBx) i hin
            obtain ⟨g', B2, m2, rfl, hlt', cy, hry⟩ := (HY3.out.keep hBx) i hin
            obtain ⟨z, hz⟩ : ∃ z, a[i].l = z := ⟨_, rfl⟩
            have hzl := HLIT.out _ (List.getElem_mem hin)
            rw [hz] at cx cy hrx hry hzl
            have HLT := Lib.hid hlt
            have HLT' := Lib.hid hlt'
            have HCX := Lib.hid cx
            have HCY := Lib.hid cy
            have HRX := Lib.hid hrx
            have HRY := Lib.hid hry
            clear hBx hz hlt hlt' hrx hry
            go_wp2
            go_quiet (fail)
            go_wp2
            go_loopw [10] (fun d wx => Below wr.heap.size wr wx ∧ ∃ k : Nat, k ≤ z.length ∧ d = .int .i64 k) (fun d _ => (z.length - intOf d).toNat)
            case atStart => exact ⟨below_drewN (Below.refl _ wr) nq, 0, Nat.zero_le _, rfl⟩
            case round =>
              obtain ⟨hBk, k, hk, rfl⟩ := hrel
              have HBk := Lib.hid hBk
              have dx := (hBk.cell (p := ⟨g, i, none⟩) HLT.out).trans HCX.out
              have dy := (hBk.cell (p := ⟨g', i, none⟩) HLT'.out).trans HCY.out
              by_cases hkn : k < z.length
              · have hknz : (k : Int) < (z.length : Int) := by omega
                have d4 : decide ((k : Int) < z.length) = true := decide_eq_true hknz
                obtain ⟨b1, o1, rfl, _, hc1⟩ := (HRX.out.below hBk).at_.resolve_left (by omega)
                obtain ⟨b2, o2, rfl, _, hc2⟩ := (HRY.out.below hBk).at_.resolve_left (by omega)
                have e1 := hc1 k hkn
                have e2 := hc2 k hkn
                obtain ⟨v, hv⟩ : ∃ v, z[k] = v := ⟨_, rfl⟩
                rw [hv] at e1 e2
                clear hc1 hc2 hBk hv cx cy
                go_wp2
                go_quiet (fail)
                go_wp2
                go_roundw
                case rel => exact ⟨below_drewN HBk.out _, k + 1, hkn, by go_num⟩
                case measure => simp only [intOf]; omega
              · have d4 : decide ((k : Int) < z.length) = false := decide_eq_false (by omega)
                clear hBk cx cy
                go_wp2
                go_roundw
                case rel => exact ⟨below_then HBx.out (Nat.le_refl _) HBk.out, i + 1, hin, by go_num⟩
                case measure => simp only [intOf]; omega
          · have d3 : decide ((i : Int) < a.length) = false := decide_eq_false (by omega)
            have hbd : Below W.heap.size W wr.drew := (below_then HB3.out (Nat.le_refl _) HBx.out).drew
            have HBD := Lib.hid hbd
            have HKP := Lib.hid (fun (w1 : World) (h1 : Below W.heap.size W w1) => blk4 (HBX.out w1 h1))
            clear hBx hbd
            go_wp2
            refine wp_region_quiet (C := fun w' => Below W.heap.size W w') (by kernel_rfl) (by kernel_rfl) (HBD.out) ?_
            refine QW.lit ?_
            refine qw_want rfl ?_ (fun w' hw' => ?_) ?_
            rotate_left
            · obtain ⟨y0, y1, y2, y3⟩ := HKP.out w' hw'
              unfold Oper.quietAt
              go_simp
              exact rfl
            simp only [Act.put, List.setIfInBounds_toArray, List.set_cons_succ, List.set_cons_zero]
            refine qw_want rfl (.bool ms) (fun w' hw' => ?_) ?_
            · unfold Oper.quietAt
              go_simp
              refine (HM1.out w' hw').mono ?_
              rintro e w2 ⟨rfl, hb⟩
              have hz := below_then hw' (Nat.le_refl _) hb
              exact ⟨rfl, by simpa using hz⟩
            simp only [Act.put, List.setIfInBounds_toArray, List.set_cons_succ, List.set_cons_zero]
            refine qw_want rfl ?_ (fun w' hw' => ?_) ?_
            rotate_left
            · obtain ⟨y0, y1, y2, y3⟩ := HKP.out w' hw'
              unfold Oper.quietAt
              go_simp
              exact rfl
            simp only [Act.put, List.setIfInBounds_toArray, List.set_cons_succ, List.set_cons_zero]
            refine qw_want rfl (.bool ms) (fun w' hw' => ?_) ?_
            · unfold Oper.quietAt
              go_simp
              refine (HM2.out w' hw').mono ?_
              rintro e w2 ⟨rfl, hb⟩
              have hz := below_then hw' (Nat.le_refl _) hb
              exact ⟨rfl, by simpa using hz⟩
            simp only [Act.put, List.setIfInBounds_toArray, List.set_cons_succ, List.set_cons_zero]
            refine qw_want rfl (.bool true) (fun w' hw' => ?_) ?_
            · unfold Oper.quietAt
              go_simp
            simp only [Act.put, List.setIfInBounds_toArray, List.set_cons_succ, List.set_cons_zero]
            refine qw_want rfl (.bool true) (fun w' hw' => ?_) ?_
            · unfold Oper.quietAt
              go_simp
            simp only [Act.put, List.setIfInBounds_toArray, List.set_cons_succ, List.set_cons_zero]
            refine qw_want rfl ?_ (fun w' hw' => ?_) ?_
            rotate_left
            · unfold Oper.quietAt
              go_simp
              exact rfl
            simp only [Act.put, List.setIfInBounds_toArray, List.set_cons_succ, List.set_cons_zero]
            refine qw_want rfl ?_ (fun w' hw' => ?_) ?_
            rotate_left
            · unfold Oper.quietAt
              go_simp
              exact rfl
            simp only [Act.put, List.setIfInBounds_toArray, List.set_cons_succ, List.set_cons_zero]
            refine qw_want rfl (.bool eb) (fun w' hw' => ?_) ?_
            · unfold Oper.quietAt
              go_simp
              refine (HS1.out w' hw').mono ?_
              rintro e w2 ⟨rfl, hb⟩
              have hz := below_then hw' (Nat.le_refl _) hb
              exact ⟨rfl, by simpa using hz⟩
            simp only [Act.put, List.setIfInBounds_toArray, List.set_cons_succ, List.set_cons_zero]
            refine qw_want rfl ?_ (fun w' hw' => ?_) ?_
            rotate_left
            · unfold Oper.quietAt
              go_simp
              exact rfl
            simp only [Act.put, List.setIfInBounds_toArray, List.set_cons_succ, List.set_cons_zero]
            refine qw_want rfl ?_ (fun w' hw' => ?_) ?_
            rotate_left
            · unfold Oper.quietAt
              go_simp
              exact rfl
            simp only [Act.put, List.setIfInBounds_toArray, List.set_cons_succ, List.set_cons_zero]
            refine qw_want rfl (.bool eb) (fun w' hw' => ?_) ?_
            · unfold Oper.quietAt
              go_simp
              refine (HS2.out w' hw').mono ?_
              rintro e w2 ⟨rfl, hb⟩
              have hz := below_then hw' (Nat.le_refl _) hb
              exact ⟨rfl, by simpa using hz⟩
            simp only [Act.put, List.setIfInBounds_toArray, List.set_cons_succ, List.set_cons_zero]
            refine qw_want rfl (.bool true) (fun w' hw' => ?_) ?_
            · unfold Oper.quietAt
              go_simp
            simp only [Act.put, List.setIfInBounds_toArray, List.set_cons_succ, List.set_cons_zero]
            refine qw_want rfl (.bool true) (fun w' hw' => ?_) ?_
            · unfold Oper.quietAt
              go_simp
            simp only [Act.put, List.setIfInBounds_toArray, List.set_cons_succ, List.set_cons_zero]
            refine qw_want rfl (.bool true) (fun w' hw' => ?_) ?_
            · unfold Oper.quietAt
              go_simp
            simp only [Act.put, List.setIfInBounds_toArray, List.set_cons_succ, List.set_cons_zero]
            refine qw_want rfl (.bool true) (fun w' hw' => ?_) ?_
            · unfold Oper.quietAt
              go_simp
              refine (HWK.out w' hw').mono ?_
              rintro e w2 ⟨rfl, hb⟩
              have hz := below_then hw' (Nat.le_refl _) hb
              exact ⟨rfl, by simpa using hz⟩
            simp only [Act.put, List.setIfInBounds_toArray, List.set_cons_succ, List.set_cons_zero]
            refine qw_want rfl (.bool true) (fun w' hw' => ?_) ?_
            · unfold Oper.quietAt
              go_simp
            simp only [Act.put, List.setIfInBounds_toArray, List.set_cons_succ, List.set_cons_zero]
            refine qw_want rfl (.bool true) (fun w' hw' => ?_) ?_
            · unfold Oper.quietAt
              go_simp
            simp only [Act.put, List.setIfInBounds_toArray, List.set_cons_succ, List.set_cons_zero]
            refine qw_end (fun w5 hb5 => ?_)
            go_wp2
            go_ret
            exact ⟨rfl, below_then HW.out (Nat.le_refl _) hb5⟩
theorem proofTells_in (x : C4 × Stp) (y z : (Option Addr × Nat) × List Stp) (w : World) (ht : Tab w) (hx : Is4G w x.1 x.2) (hy : GS w y.1.1 y.2) (hz : GS w z.1.1 z.2) :
    Calls Tryz.prog 7 #[.agg #[.int .i8 x.1.k, .int .i64 x.1.a, .int .i64 x.1.b, .slice x.1.A x.1.n x.1.c], .slice y.1.1 y.2.length y.1.2, .slice z.1.1 z.2.length z.1.2] w fun e w' => e = .returned (.bool true) ∧ Below w.heap.size w w' := proofTells_walk x.2 y.2 z.2 w ht x.1 hx y.1.1 z.1.1 y.1.2 z.1.2 hy hz
end Go.Proofs.YtiklliiamljogaaGreatDoor

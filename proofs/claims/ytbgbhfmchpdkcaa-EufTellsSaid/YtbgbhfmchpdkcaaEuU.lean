/- turn. -/
import Derived.Test.YtbgbhfmchpdkcaaEuT
import Derived.StillTailTactics
import Derived.Deep.RegionHeld3
namespace Go.Proofs.Ytbgbhfmchpdkcaa
open Go.RowKit
section
variable {w w' : World} {H : Nat} {X : Nat → Prop} {cb q bf : Nat} {A : Option Addr} {c : Nat} {T : List Nd} {J : List Jn} {m : Nat} {more : Bool}
def TurnR (T : List Nd) (a b : Int) (J' : List Jn) (more' : Bool) : Prop := more' = false → (cls J' a = cls J' 0 → cls J' b = cls J' T.length) ∧ (cls J' a = cls J' T.length → cls J' b = cls J' 0)

theorem Cl.cells (h : Cl w H X cb q bf A c T J m more) : w.cell? ⟨cb, 0, none⟩ = some (.pointer (some ⟨q, 0, none⟩)) ∧ w.cell? ⟨cb, 1, none⟩ = some (.pointer (some ⟨bf, 0, none⟩)) ∧ w.cell? ⟨cb, 2, none⟩ = some (.int .i64 T.length) ∧ w.cell? ⟨cb, 3, none⟩ = some (.bool more) ∧ cb < w.heap.size := by
  have c0 := h.blk.cell 0
  have c1 := h.blk.cell 1
  have c2 := h.blk.cell 2
  have c3 := h.blk.cell 3
  simp only [List.getElem?_toArray, List.getElem?_cons_zero, List.getElem?_cons_succ] at c0 c1 c2 c3
  exact ⟨c0, c1, c2, c3, h.blk.lt⟩
theorem ext_join_cls {a b : Int} (ha : 0 ≤ a ∧ a < (T.length : Int) + 1) (hb : 0 ≤ b ∧ b < (T.length : Int) + 1) (hmo : (more || joinsM (T.length + 1) J a b) = false) : cls J a = cls J b := by
  rw [Bool.or_eq_false_iff] at hmo
  have := of_decide_eq_false hmo.2
  exact Classical.byContradiction fun hn => this ⟨ha, hb, hn⟩

set_option maxRecDepth 100000 in
set_option maxHeartbeats 2000000 in
theorem turn_ok {S : Int → Prop} (h : Cl w H X cb q bf A c T J m more) (hm : m ≤ 900000) (a b : Int) (ha : 0 ≤ a ∧ a < (T.length : Int) + 1) (hb : 0 ≤ b ∧ b < (T.length : Int) + 1)
    (hg1 : Cg T S a 0 → Cg T S b T.length) (hg2 : Cg T S a T.length → Cg T S b 0) :
    Calls Try.prog 68 #[.pointer (some ⟨cb, 0, none⟩), .int .i64 a, .int .i64 b] w (CStep H X cb q bf A c T S J m more (TurnR T a b) w) := by
  have hlen := h.hT
  obtain ⟨_, c1, c2, _, hl⟩ := h.cells
  have HH := Lib.hid h
  have HA := Lib.hid ha
  have HB := Lib.hid hb
  have G1 := Lib.hid hg1
  have G2 := Lib.hid hg2
  have HR0 := Lib.hid (show (0 : Int) ≤ 0 ∧ (0 : Int) < (T.length : Int) + 1 by omega)
  have HRN := Lib.hid (show 0 ≤ (T.length : Int) ∧ (T.length : Int) < (T.length : Int) + 1 by omega)
  clear h ha hb hg1 hg2
  go_enter Try.func68, Try.ntmps68
  go_wp2_with fail
  refine (cone_ok HH.out (by omega) a 0).mono ?_
  rintro e w1 ⟨rfl, h1, k1⟩
  have O1 := Lib.hid (oneM_iff (J := J) HA.out HR0.out)
  have H1 := Lib.hid h1
  have K1 := Lib.hid (k1.less fun _ h => Or.inl h)
  obtain ⟨o1, ho1⟩ : ∃ o1, oneM (T.length + 1) J a 0 = o1 := ⟨_, rfl⟩
  rw [ho1] at O1 ⊢
  clear h1 k1 ho1 c1 c2
  cases o1 with
  | false =>
    have Z1 : Hid (more = false → cls J a = cls J 0 → cls J b = cls J T.length) := Lib.hid fun _ e => (by have := O1.out.2 e; cases this)
    have E1 := Lib.hid (Ext.refl T S J more)
    obtain ⟨_, c1, c2, _, hl1⟩ := H1.out.cells
    have KO := Lib.hid (cone_ok (H1.out.below (w' := w1.drew) ⟨rfl, rfl, rfl, Nat.le_refl _, fun _ _ => rfl⟩) (by omega) a T.length)
    go_upto_region 2 with (fail)
    go_region_held3 (fun w' => w'.cell? ⟨cb, 1, none⟩ = some (.pointer (some ⟨bf, 0, none⟩)) ∧ w'.cell? ⟨cb, 2, none⟩ = some (.int .i64 T.length)) (go_keep) ((go_at_call 53; refine KO.out.mono ?_; rintro e w2 ⟨rfl, h2, k2⟩; have H2 := Lib.hid h2; have K2 := Lib.hid (Kc.trans (H := H) (X := X) (w := w) (w' := w1.drew) (Kept.drew K1.out) (k2.less fun _ h => Or.inl h)); obtain ⟨_, e1, e2, _, hl2⟩ := h2.cells; clear h2 k2))
    have O2 := Lib.hid (oneM_iff (J := J) HA.out HRN.out)
    obtain ⟨o2, ho2⟩ : ∃ o2, oneM (T.length + 1) J a T.length = o2 := ⟨_, rfl⟩
    rw [ho2] at O2 ⊢
    clear ho2
    cases o2 with
    | false =>
      have HTR : Hid (TurnR T a b J more) := Lib.hid fun hmo => ⟨Z1.out hmo, fun e => (by have := O2.out.2 e; cases this)⟩
      go_wp2
      refine bodyPost_end (results_none rfl _ _ _) rfl ?_
      exact ⟨rfl, J, _, more, H2.out, by omega, E1.out, HTR.out, K2.out⟩
    | true =>
      have HC := Lib.hid (O2.out.1 rfl)
      clear c1 c2 e1 e2
      obtain ⟨_, f1, f2, _, hl3⟩ := H2.out.cells
      go_wp2_with fail
      refine (cjoin_ok H2.out (by omega) b 0).mono ?_
      rintro e w3 ⟨rfl, h3, k3⟩
      have H3 := Lib.hid h3
      have K3 := Lib.hid (K2.out.trans k3)
      have E3 := Lib.hid (E1.out.trans (Ext.join (T := T) (S := S) (J := J) (more := more) (a := b) (b := 0) fun hs => G2.out (hs.cls HC.out)))
      have HTR : Hid (TurnR T a b (joinM (T.length + 1) J b 0 0) (more || joinsM (T.length + 1) J b 0)) := Lib.hid fun hmo => by
        have e3 := (Ext.join (T := T) (S := S) (J := J) (more := more) (a := b) (b := 0) fun hs => G2.out (hs.cls HC.out)).same hmo
        refine ⟨?_, fun _ => cls_joined HB.out HR0.out⟩
        rw [e3.1]
        exact Z1.out e3.2
      clear h3 k3
      go_wp2
      refine bodyPost_end (results_none rfl _ _ _) rfl ?_
      exact ⟨rfl, _, _, _, H3.out, by omega, E3.out, HTR.out, K3.out⟩
  | true =>
    have HC1 := Lib.hid (O1.out.1 rfl)
    obtain ⟨_, c1, c2, _, hl1⟩ := H1.out.cells
    go_wp2_with fail
    refine (cjoin_ok H1.out (by omega) b T.length).mono ?_
    rintro e wj ⟨rfl, h3, k3⟩
    clear c1 c2 hl1
    have K1' := Lib.hid (K1.out.trans k3)
    have E1 := Lib.hid (Ext.join (T := T) (S := S) (J := J) (more := more) (a := b) (b := T.length) fun hs => G1.out (hs.cls HC1.out))
    have Z1 : Hid ((more || joinsM (T.length + 1) J b T.length) = false → cls (joinM (T.length + 1) J b T.length 0) a = cls (joinM (T.length + 1) J b T.length 0) 0 → cls (joinM (T.length + 1) J b T.length 0) b = cls (joinM (T.length + 1) J b T.length 0) T.length) := Lib.hid fun _ _ => cls_joined HB.out HRN.out
    have H1' := Lib.hid h3
    clear h3 k3 H1 K1
    have H1 := H1'
    have K1 := K1'
    clear H1' K1'
    obtain ⟨w1, rfl⟩ : ∃ w1 : World, w1 = wj := ⟨_, rfl⟩
    generalize joinM (T.length + 1) J b T.length 0 = Ja at *
    generalize (more || joinsM (T.length + 1) J b T.length) = ma at *
    obtain ⟨_, c1, c2, _, hl1⟩ := H1.out.cells
    have KO := Lib.hid (cone_ok (H1.out.below (w' := w1.drew) ⟨rfl, rfl, rfl, Nat.le_refl _, fun _ _ => rfl⟩) (by omega) a T.length)
    go_upto_region 2 with (fail)
    go_region_held3 (fun w' => w'.cell? ⟨cb, 1, none⟩ = some (.pointer (some ⟨bf, 0, none⟩)) ∧ w'.cell? ⟨cb, 2, none⟩ = some (.int .i64 T.length)) (go_keep) ((go_at_call 53; refine KO.out.mono ?_; rintro e w2 ⟨rfl, h2, k2⟩; have H2 := Lib.hid h2; have K2 := Lib.hid (Kc.trans (H := H) (X := X) (w := w) (w' := w1.drew) (Kept.drew K1.out) (k2.less fun _ h => Or.inl h)); obtain ⟨_, e1, e2, _, hl2⟩ := h2.cells; clear h2 k2))
    have O2 := Lib.hid (oneM_iff (J := Ja) HA.out HRN.out)
    obtain ⟨o2, ho2⟩ : ∃ o2, oneM (T.length + 1) Ja a T.length = o2 := ⟨_, rfl⟩
    rw [ho2] at O2 ⊢
    clear ho2
    cases o2 with
    | false =>
      have HTR : Hid (TurnR T a b Ja ma) := Lib.hid fun hmo => ⟨Z1.out hmo, fun e => (by have := O2.out.2 e; cases this)⟩
      go_wp2
      refine bodyPost_end (results_none rfl _ _ _) rfl ?_
      exact ⟨rfl, Ja, _, ma, H2.out, by omega, E1.out, HTR.out, K2.out⟩
    | true =>
      have HC := Lib.hid (O2.out.1 rfl)
      clear c1 c2 e1 e2
      obtain ⟨_, f1, f2, _, hl3⟩ := H2.out.cells
      go_wp2_with fail
      refine (cjoin_ok H2.out (by omega) b 0).mono ?_
      rintro e w3 ⟨rfl, h3, k3⟩
      have H3 := Lib.hid h3
      have K3 := Lib.hid (K2.out.trans k3)
      have E3 := Lib.hid (E1.out.trans (Ext.join (T := T) (S := S) (J := Ja) (more := ma) (a := b) (b := 0) fun hs => G2.out (hs.cls HC.out)))
      have HTR : Hid (TurnR T a b (joinM (T.length + 1) Ja b 0 0) (ma || joinsM (T.length + 1) Ja b 0)) := Lib.hid fun hmo => by
        have e3 := (Ext.join (T := T) (S := S) (J := Ja) (more := ma) (a := b) (b := 0) fun hs => G2.out (hs.cls HC.out)).same hmo
        refine ⟨?_, fun _ => cls_joined HB.out HR0.out⟩
        rw [e3.1]
        exact Z1.out e3.2
      clear h3 k3
      go_wp2
      refine bodyPost_end (results_none rfl _ _ _) rfl ?_
      exact ⟨rfl, _, _, _, H3.out, by omega, E3.out, HTR.out, K3.out⟩
end
end Go.Proofs.Ytbgbhfmchpdkcaa

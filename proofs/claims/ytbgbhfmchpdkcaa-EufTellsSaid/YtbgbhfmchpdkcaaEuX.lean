/- closed: literals, closed. -/
import Derived.Test.YtbgbhfmchpdkcaaEuW
namespace Go.Proofs.Ytbgbhfmchpdkcaa
open Go.RowKit
section
variable {w w' : World} {H : Nat} {X : Nat → Prop} {cb q bf : Nat} {A : Option Addr} {c : Nat} {T : List Nd} {J : List Jn} {m : Nat} {more : Bool}
theorem Cl.set_more (h : Cl w H X cb q bf A c T J m more) (b : Bool) : Cl (w.setCell ⟨cb, 3, none⟩ (.bool b)) H X cb q bf A c T J m b ∧ Kc H X w (w.setCell ⟨cb, 3, none⟩ (.bool b)) := by
  have hk : Kept (fun b => b = cb) w (w.setCell ⟨cb, 3, none⟩ (.bool b)) := Kept.set1 w cb 3 _
  refine ⟨{ h with blk := ?_, tab := ?_, fo := ?_, hX := ?_, hH := ?_ }, hk.mono fun b _ e => ?_⟩
  · have := h.blk.set_ 3 (.bool b)
    simpa using this
  · refine h.tab.kept hk (fun e => ?_) (fun x e e2 => ?_)
    · have := h.hq
      have := h.hcb.1
      omega
    · have := h.hA x e
      have := h.hcb.1
      omega
  · exact h.fo.keep hk fun b _ e => .inr (.inr e)
  · intro b hb
    exact Nat.lt_of_lt_of_le (h.hX b hb) hk.size
  · exact Nat.le_trans h.hH hk.size
  · subst e
    rintro (g | g)
    · have := h.hcb.1
      omega
    · exact h.hcb.2 g
theorem ToldR.keep {x : Int} {J J' : List Jn} {b b' : Bool} (h : ToldR T x J b) (hk : ∀ u v, cls J u = cls J v → cls J' u = cls J' v) : ToldR T x J' b' :=
  ⟨fun e => hk _ _ (h.1 e), fun e => hk _ _ (h.2.1 e), fun e hs n hn => hk _ _ (h.2.2 e hs n hn)⟩
theorem Has.keep {S : Int → Prop} {J J' : List Jn} (h : Has T S (cls J)) (hk : ∀ u v, cls J u = cls J v → cls J' u = cls J' v) : Has T S (cls J') :=
  ⟨fun x h1 h2 => hk _ _ (h.neg x h1 h2), fun x h1 h2 => hk _ _ (h.pos x h1 h2), fun x n h1 h2 h3 h4 => hk _ _ (h.side x n h1 h2 h3 h4)⟩
theorem Cl.short (h : Cl w H X cb q bf A c T J m more) : J.length ≤ T.length + 1 := by
  have := rep_count J h.fo.fine
  omega

def ClosedIs (q : Nat) (A : Option Addr) (c : Nat) (T : List Nd) (S : Int → Prop) (w : World) (e : Ending) (w' : World) : Prop := ∃ cb bf J m, e = .returned (.pointer (some ⟨cb, 0, none⟩)) ∧ Cl w' w.heap.size (fun _ => False) cb q bf A c T J m false ∧ m ≤ 900000 ∧ Done T S J ∧ Below w.heap.size w w'
set_option maxRecDepth 100000 in
set_option maxHeartbeats 4000000 in
theorem closed_ok {S : Int → Prop} {B : Option Addr} {L : List Int} (cap : Nat) (h : TabP w q A c T) (hA : ∀ a, A = some a → a.block < w.heap.size) (hT : TabOk T) (hT1 : T.length ≤ 100) (hL1 : L.length ≤ 300) (hr : Row w B L) (hL : ∀ x ∈ L, LitMay T x) (hS : ∀ x, S x ↔ x ∈ L) :
    Calls Try.prog 21 #[.pointer (some ⟨q, 0, none⟩), .slice B L.length cap] w (ClosedIs q A c T S w) := by
  have cq := h.blk.cell 0
  have hq := h.blk.lt
  simp only [List.getElem?_toArray, List.getElem?_cons_zero] at cq
  have HH := Lib.hid h
  have HA := Lib.hid hA
  have HT := Lib.hid hT
  have HR := Lib.hid hr
  have HL := Lib.hid hL
  have HS := Lib.hid hS
  have KN := Lib.hid (fo_new ((T.length : Int) + 1) (by omega) (by omega) w)
  clear h hA hT hr hL hS
  go_enter Try.func21, Try.ntmps21
  go_wp2_with fail
  refine KN.out.mono ?_
  rintro e w1 ⟨bf, rfl, hfo, hb1⟩
  have hs1 := hb1.size
  have hb2 : Below w1.heap.size w1 (w1.alloc (.cells #[.pointer (some ⟨q, 0, none⟩), .pointer (some ⟨bf, 0, none⟩), .int .i64 T.length, .bool false] 44)) := (Below.refl _ w1).alloc (Nat.le_refl _) _
  have hcl : Cl (w1.alloc (.cells #[.pointer (some ⟨q, 0, none⟩), .pointer (some ⟨bf, 0, none⟩), .int .i64 T.length, .bool false] 44)) w.heap.size (fun _ => False) w1.heap.size q bf A c T [] 0 false :=
    { blk := Blk.new w1 _ _, tab := (HH.out.below hb1).below hb2, fo := (hfo.guard fun b hq => by rcases hq with hq | hq | hq; exact .inl hq; exact hq.elim; exact .inr (Nat.le_of_eq hq.symm)).below hb2, hq := hq, hA := HA.out, hcb := ⟨hs1, id⟩, hX := fun b hb => hb.elim, hH := by simp; omega, hT := by omega }
  have HC0 := Lib.hid hcl
  have HK0 : Hid (Kc w.heap.size (fun _ => False) w _) := Lib.hid (Kept.of_below (hb1.trans (hb2.mono hs1)))
  clear hfo hb1 hb2 hcl cq
  go_wp2
  go_loopg [23] L.length (fun g v wr => ∃ (i : Nat) (J : List Jn) (m : Nat) (more : Bool), i + g = L.length ∧ v = .int .i64 i ∧ Cl wr w.heap.size (fun _ => False) w1.heap.size q bf A c T J m more ∧ m ≤ 10 * i ∧ Snd T S J ∧ (∀ (j : Nat) (hj : j < L.length), j < i → ToldR T L[j] J more) ∧ Kc w.heap.size (fun _ => False) w wr)
  case atStart => exact ⟨0, [], 0, false, by omega, rfl, HC0.out, by omega, Snd.nil, fun j _ hj => absurd hj (Nat.not_lt_zero _), HK0.out⟩
  case round =>
    obtain ⟨wo, rfl⟩ : ∃ wo : World, wo = wr := ⟨_, rfl⟩
    obtain ⟨i, J, m, more, hig, rfl, hcl, hm, hsn, htold, hkc⟩ := hrel
    have HC := Lib.hid hcl
    have HN := Lib.hid hsn
    have HTD := Lib.hid htold
    have HK := Lib.hid hkc
    clear hcl hsn htold hkc
    cases gk with
    | succ gk =>
      have hlt : i < L.length := by omega
      have d1 : decide ((i : Int) < L.length) = true := by simp; omega
      have t1 : (0 : Int) ≤ (i : Int) := by omega
      have t2 : (i : Int) < (L.length : Int) := by omega
      obtain ⟨b, off, hBB, hbb, hcell⟩ := (HR.out.below (HK.out.below (Nat.le_refl _))).at_.resolve_left (by omega)
      subst hBB
      have y0 := hcell i hlt
      have KT := Lib.hid (told_ok (S := S) HC.out HT.out (by omega) (HL.out _ (List.getElem_mem hlt)) ((HS.out _).2 (List.getElem_mem hlt)))
      have HX := Lib.hid (show ∀ J', (∀ (j : Nat) (hj : j < L.length), j < i → ToldR T L[j] J' true) → ToldR T (L[i]'hlt) J' true → ∀ (j : Nat) (hj : j < L.length), j < i + 1 → ToldR T L[j] J' true from fun J' h1 h2 j hj hji => by
        rcases Nat.lt_succ_iff_lt_or_eq.1 hji with hji | rfl
        · exact h1 j hj hji
        · exact h2)
      clear hcell
      generalize L[i] = x at *
      go_wp2_with fail
      refine KT.out.mono ?_
      rintro e w3 ⟨rfl, J3, m3, mo3, h3, hm3, e3, r3, k3⟩
      have H3 := Lib.hid h3
      have E3 := Lib.hid e3
      have R3 := Lib.hid r3
      have K3 := Lib.hid (HK.out.trans k3)
      clear h3 e3 r3 k3
      go_wp2
      go_roundg gk
      case measure => omega
      case rel => exact ⟨i + 1, J3, m3, mo3, by omega, by go_num, H3.out, by omega, E3.out.snd HN.out, fun j hj hji => (HX.out J3 (fun j hj hji => (HTD.out j hj hji).keep E3.out.keep) (R3.out.keep fun _ _ h => h) j hj hji).keep fun _ _ h => h, K3.out⟩
    | zero =>
      obtain rfl : i = L.length := by omega
      have d1 : decide ((L.length : Int) < L.length) = false := by simp
      have HHas : Hid (Has T S (cls J)) := Lib.hid ⟨fun x hx => (by obtain ⟨j, hj, rfl⟩ := List.mem_iff_getElem.1 ((HS.out x).1 hx); exact (HTD.out j hj hj).1), fun x hx => (by obtain ⟨j, hj, rfl⟩ := List.mem_iff_getElem.1 ((HS.out x).1 hx); exact (HTD.out j hj hj).2.1), fun x n hx e hs hn => (by obtain ⟨j, hj, rfl⟩ := List.mem_iff_getElem.1 ((HS.out x).1 hx); exact (HTD.out j hj hj).2.2 e hs n hn)⟩
      have hset := HC.out.set_more true
      have HC1 := Lib.hid hset.1
      have HK1 := Lib.hid (HK.out.trans hset.2)
      have f3 := HC.out.blk.frozen 3
      obtain ⟨_, _, _, c3, hl3⟩ := HC.out.cells
      clear hset
      go_wp2
      go_loopg [] (T.length + 3) (fun g wr => ∃ (J : List Jn) (m : Nat) (more : Bool), Cl wr w.heap.size (fun _ => False) w1.heap.size q bf A c T J m more ∧ g ≤ T.length + 3 ∧ m ≤ 3000 + 4000 * (T.length + 3 - g) ∧ Snd T S J ∧ Has T S (cls J) ∧ (more = true → T.length + 3 ≤ J.length + g) ∧ (more = false → Clo T (cls J)) ∧ Kc w.heap.size (fun _ => False) w wr)
      case atStart => exact ⟨J, m, true, HC1.out, Nat.le_refl _, by omega, HN.out, HHas.out, fun _ => by omega, fun e => (by cases e), HK1.out⟩
      case round =>
        obtain ⟨J2, m2, mo2, hcl, hg, hm2, hsn, hhas, hfu, hclo, hkc⟩ := hrel
        have HC2 := Lib.hid hcl
        have HN2 := Lib.hid hsn
        have HH2 := Lib.hid hhas
        have HU2 := Lib.hid hfu
        have HO2 := Lib.hid hclo
        have HK2 := Lib.hid hkc
        have hsh := hcl.short
        obtain ⟨_, _, _, e3, hl4⟩ := hcl.cells
        have g3 := hcl.blk.frozen 3
        clear hcl hsn hhas hfu hclo hkc c3 f3
        cases mo2 with
        | false =>
          go_wp2
          go_ret
          exact ⟨_, bf, J2, m2, rfl, HC2.out, by omega, ⟨HN2.out, HH2.out, HO2.out trivial⟩, HK2.out.below (Nat.le_refl _)⟩
        | true =>
          have hfu := HU2.out rfl
          cases gk with
          | zero => omega
          | succ gk =>
            clear hfu hsh
            have hset := HC2.out.set_more false
            have HC3 := Lib.hid hset.1
            have HK3 := Lib.hid (HK2.out.trans hset.2)
            clear hset
            go_wp2_with fail
            refine (round_ok (S := S) HC3.out HT.out (by omega) (by omega) HN2.out).mono ?_
            rintro e w5 ⟨rfl, J5, m5, mo5, h5, hm5, e5, r5, k5⟩
            have H5 := Lib.hid h5
            have E5 := Lib.hid e5
            have R5 := Lib.hid r5
            have K5 := Lib.hid (HK3.out.trans k5)
            clear h5 e5 r5 k5
            go_wp2
            go_roundg gk
            case measure => omega
            case rel => exact ⟨J5, m5, mo5, H5.out, by omega, by omega, E5.out.snd HN2.out, HH2.out.keep E5.out.keep, fun e => (by have := HU2.out trivial; have := E5.out.strict rfl e; omega), fun e => R5.out e, K5.out⟩
end
end Go.Proofs.Ytbgbhfmchpdkcaa

/- bad. -/
import Derived.Test.YtkapbdjobfbhhaaGreatEuW
namespace Go.Proofs.YtkapbdjobfbhhaaGreat
open Go.RowKit Go.Lib
section
variable {w w' : World} {H : Nat} {X : Nat → Prop} {cb q bf : Nat} {A : Option Addr} {c : Nat} {T : List Nd} {J : List Jn} {m : Nat} {more : Bool}
theorem Cl.set_more (h : Cl w H X cb q bf A c T J m more) (b : Bool) : Cl (w.setCell ⟨cb, 3, none⟩ (.bool b)) H X cb q bf A c T J m b ∧ Kc H X w (w.setCell ⟨cb, 3, none⟩ (.bool b)) := by
  have hk : Kept (fun b => b = cb) w (w.setCell ⟨cb, 3, none⟩ (.bool b)) := Kept.set1 w cb 3 _
  refine ⟨{ h with blk := ?_, tab := ?_, fo := ?_, hX := ?_, hH := ?_ }, hk.mono fun b _ e => ?_⟩
  · have := h.blk.set_ 3 (.bool b)
    simpa using this
  · refine h.tab.kept hk (fun e => ?_) (fun x e e2 => ?_)
    · have := h.hq
      have := h.hcb.1
      omega
    · have := h.hA x e
      have := h.hcb.1
      omega
  · exact h.fo.keep hk fun b _ e => .inr (.inr e)
  · intro b hb
    exact Nat.lt_of_lt_of_le (h.hX b hb) hk.size
  · exact Nat.le_trans h.hH hk.size
  · subst e
    rintro (g | g)
    · have := h.hcb.1
      omega
    · exact h.hcb.2 g
theorem ToldR.keep {x : Int} {J J' : List Jn} {b b' : Bool} (h : ToldR T x J b) (hk : ∀ u v, cls J u = cls J v → cls J' u = cls J' v) : ToldR T x J' b' :=
  ⟨fun e => hk _ _ (h.1 e), fun e => hk _ _ (h.2.1 e), fun e hs n hn => hk _ _ (h.2.2 e hs n hn)⟩
theorem Has.keep {S : Int → Prop} {J J' : List Jn} (h : Has T S (cls J)) (hk : ∀ u v, cls J u = cls J v → cls J' u = cls J' v) : Has T S (cls J') :=
  ⟨fun x h1 h2 => hk _ _ (h.neg x h1 h2), fun x h1 h2 => hk _ _ (h.pos x h1 h2), fun x n h1 h2 h3 h4 => hk _ _ (h.side x n h1 h2 h3 h4)⟩
theorem Cl.short (h : Cl w H X cb q bf A c T J m more) : J.length ≤ T.length + 1 := by
  have := rep_count J h.fo.fine
  omega
def ClosedIs (q : Nat) (A : Option Addr) (c : Nat) (T : List Nd) (S : Int → Prop) (w : World) (e : Ending) (w' : World) : Prop := ∃ cb bf J m, e = .returned (.pointer (some ⟨cb, 0, none⟩)) ∧ Cl w' w.heap.size (fun _ => False) cb q bf A c T J m false ∧ m ≤ 900000 ∧ Done T S J ∧ Below w.heap.size w w'
set_option maxRecDepth 100000 in
set_option maxHeartbeats 4000000 in
theorem closed_ok {S : Int → Prop} {B : Option Addr} {L : List Int} (cap : Nat) (h : TabP w q A c T) (hA : ∀ a, A = some a → a.block < w.heap.size) (hT : TabOk T) (hT1 : T.length ≤ 100) (hL1 : L.length ≤ 300) (hr : Row w B L) (hL : ∀ x ∈ L, LitMay T x) (hS : ∀ x, S x ↔ x ∈ L) :
    Calls Tryz.prog 26 #[.pointer (some ⟨q, 0, none⟩), .slice B L.length cap] w (ClosedIs q A c T S w) := by
  have cq := h.blk.cell 0
  have hq := h.blk.lt
  simp only [List.getElem?_toArray, List.getElem?_cons_zero] at cq
  have HH := Lib.hid h
  have HA := Lib.hid hA
  have HT := Lib.hid hT
  have HR := Lib.hid hr
  have HL := Lib.hid hL
  have HS := Lib.hid hS
  have KN := Lib.hid (fo_new ((T.length : Int) + 1) (by omega) (by omega) w)
  clear h hA hT hr hL hS
  go_enter Tryz.func26, Tryz.ntmps26
  go_wp2_with fail
  refine KN.out.mono ?_
  rintro e w1 ⟨bf, rfl, hfo, hb1⟩
  have hs1 := hb1.size
  have hb2 : Below w1.heap.size w1 (w1.alloc (.cells #[.pointer (some ⟨q, 0, none⟩), .pointer (some ⟨bf, 0, none⟩), .int .i64 T.length, .bool false] 78)) := (Below.refl _ w1).alloc (Nat.le_refl _) _
  have hcl : Cl (w1.alloc (.cells #[.pointer (some ⟨q, 0, none⟩), .pointer (some ⟨bf, 0, none⟩), .int .i64 T.length, .bool false] 78)) w.heap.size (fun _ => False) w1.heap.size q bf A c T [] 0 false :=
    { blk := Blk.new w1 _ _, tab := (HH.out.below hb1).below hb2, fo := (hfo.guard fun b hq => by rcases hq with hq | hq | hq; exact .inl hq; exact hq.elim; exact .inr (Nat.le_of_eq hq.symm)).below hb2, hq := hq, hA := HA.out, hcb := ⟨hs1, id⟩, hX := fun b hb => hb.elim, hH := by simp; omega, hT := by omega }
  have HC0 := Lib.hid hcl
  have HK0 : Hid (Kc w.heap.size (fun _ => False) w _) := Lib.hid (Kept.of_below (hb1.trans (hb2.mono hs1)))
  clear hfo hb1 hb2 hcl cq
  go_wp2
  go_loopg [23] L.length (fun g v wr => ∃ (i : Nat) (J : List Jn) (m : Nat) (more : Bool), i + g = L.length ∧ v = .int .i64 i ∧ Cl wr w.heap.size (fun _ => False) w1.heap.size q bf A c T J m more ∧ m ≤ 10 * i ∧ Snd T S J ∧ (∀ (j : Nat) (hj : j < L.length), j < i → ToldR T L[j] J more) ∧ Kc w.heap.size (fun _ => False) w wr)
  case atStart => exact ⟨0, [], 0, false, by omega, rfl, HC0.out, by omega, Snd.nil, fun j _ hj => absurd hj (Nat.not_lt_zero _), HK0.out⟩
  case round =>
    obtain ⟨wo, rfl⟩ : ∃ wo : World, wo = wr := ⟨_, rfl⟩
    obtain ⟨i, J, m, more, hig, rfl, hcl, hm, hsn, htold, hkc⟩ := hrel
    have HC := Lib.hid hcl
    have HN := Lib.hid hsn
    have HTD := Lib.hid htold
    have HK := Lib.hid hkc
    clear hcl hsn htold hkc
    cases gk with
    | succ gk =>
      have hlt : i < L.length := by omega
      have d1 : decide ((i : Int) < L.length) = true := by simp; omega
      have t1 : (0 : Int) ≤ (i : Int) := by omega
      have t2 : (i : Int) < (L.length : Int) := by omega
      obtain ⟨b, off, hBB, hbb, hcell⟩ := (HR.out.below (HK.out.below (Nat.le_refl _))).at_.resolve_left (by omega)
      subst hBB
      have y0 := hcell i hlt
      have KT := Lib.hid (told_ok (S := S) HC.out HT.out (by omega) (HL.out _ (List.getElem_mem hlt)) ((HS.out _).2 (List.getElem_mem hlt)))
      have HX := Lib.hid (show ∀ J', (∀ (j : Nat) (hj : j < L.length), j < i → ToldR T L[j] J' true) → ToldR T (L[i]'hlt) J' true → ∀ (j : Nat) (hj : j < L.length), j < i + 1 → ToldR T L[j] J' true from fun J' h1 h2 j hj hji => by
        rcases Nat.lt_succ_iff_lt_or_eq.1 hji with hji | rfl
        · exact h1 j hj hji
        · exact h2)
      clear hcell
      generalize L[i] = x at *
      go_wp2_with fail
      refine KT.out.mono ?_
      rintro e w3 ⟨rfl, J3, m3, mo3, h3, hm3, e3, r3, k3⟩
      have H3 := Lib.hid h3
      have E3 := Lib.hid e3
      have R3 := Lib.hid r3
      have K3 := Lib.hid (HK.out.trans k3)
      clear h3 e3 r3 k3
      go_wp2
      go_roundg gk
      case measure => omega
      case rel => exact ⟨i + 1, J3, m3, mo3, by omega, by go_num, H3.out, by omega, E3.out.snd HN.out, fun j hj hji => (HX.out J3 (fun j hj hji => (HTD.out j hj hji).keep E3.out.keep) (R3.out.keep fun _ _ h => h) j hj hji).keep fun _ _ h => h, K3.out⟩
    | zero =>
      obtain rfl : i = L.length := by omega
      have d1 : decide ((L.length : Int) < L.length) = false := by simp
      have HHas : Hid (Has T S (cls J)) := Lib.hid ⟨fun x hx => (by obtain ⟨j, hj, rfl⟩ := List.mem_iff_getElem.1 ((HS.out x).1 hx); exact (HTD.out j hj hj).1), fun x hx => (by obtain ⟨j, hj, rfl⟩ := List.mem_iff_getElem.1 ((HS.out x).1 hx); exact (HTD.out j hj hj).2.1), fun x n hx e hs hn => (by obtain ⟨j, hj, rfl⟩ := List.mem_iff_getElem.1 ((HS.out x).1 hx); exact (HTD.out j hj hj).2.2 e hs n hn)⟩
      have hset := HC.out.set_more true
      have HC1 := Lib.hid hset.1
      have HK1 := Lib.hid (HK.out.trans hset.2)
      have f3 := HC.out.blk.frozen 3
      obtain ⟨_, _, _, c3, hl3⟩ := HC.out.cells
      clear hset
      go_wp2
      go_loopg [] (T.length + 3) (fun g wr => ∃ (J : List Jn) (m : Nat) (more : Bool), Cl wr w.heap.size (fun _ => False) w1.heap.size q bf A c T J m more ∧ g ≤ T.length + 3 ∧ m ≤ 3000 + 4000 * (T.length + 3 - g) ∧ Snd T S J ∧ Has T S (cls J) ∧ (more = true → T.length + 3 ≤ J.length + g) ∧ (more = false → Clo T (cls J)) ∧ Kc w.heap.size (fun _ => False) w wr)
      case atStart => exact ⟨J, m, true, HC1.out, Nat.le_refl _, by omega, HN.out, HHas.out, fun _ => by omega, fun e => (by cases e), HK1.out⟩
      case round =>
        obtain ⟨J2, m2, mo2, hcl, hg, hm2, hsn, hhas, hfu, hclo, hkc⟩ := hrel
        have HC2 := Lib.hid hcl
        have HN2 := Lib.hid hsn
        have HH2 := Lib.hid hhas
        have HU2 := Lib.hid hfu
        have HO2 := Lib.hid hclo
        have HK2 := Lib.hid hkc
        have hsh := hcl.short
        obtain ⟨_, _, _, e3, hl4⟩ := hcl.cells
        have g3 := hcl.blk.frozen 3
        clear hcl hsn hhas hfu hclo hkc c3 f3
        cases mo2 with
        | false =>
          go_wp2
          go_ret
          exact ⟨_, bf, J2, m2, rfl, HC2.out, by omega, ⟨HN2.out, HH2.out, HO2.out trivial⟩, HK2.out.below (Nat.le_refl _)⟩
        | true =>
          have hfu := HU2.out rfl
          cases gk with
          | zero => omega
          | succ gk =>
            clear hfu hsh
            have hset := HC2.out.set_more false
            have HC3 := Lib.hid hset.1
            have HK3 := Lib.hid (HK2.out.trans hset.2)
            clear hset
            go_wp2_with fail
            refine (round_ok (S := S) HC3.out HT.out (by omega) (by omega) HN2.out).mono ?_
            rintro e w5 ⟨rfl, J5, m5, mo5, h5, hm5, e5, r5, k5⟩
            have H5 := Lib.hid h5
            have E5 := Lib.hid e5
            have R5 := Lib.hid r5
            have K5 := Lib.hid (HK3.out.trans k5)
            clear h5 e5 r5 k5
            go_wp2
            go_roundg gk
            case measure => omega
            case rel => exact ⟨J5, m5, mo5, H5.out, by omega, by omega, E5.out.snd HN2.out, HH2.out.keep E5.out.keep, fun e => (by have := HU2.out trivial; have := E5.out.strict rfl e; omega), fun e => R5.out e, K5.out⟩
end
def IdxIs (L : List Int) (p : Int → Bool) (I : Nat → World → Prop) (e : Ending) (w' : World) : Prop := ∃ r : Int, e = .returned (.int .i64 r) ∧ (0 ≤ r ↔ L.any p = true) ∧ ∃ k, k ≤ L.length ∧ I k w'
set_option maxHeartbeats 1000000 in
theorem index_inv {w : World} {B : Option Addr} {L : List Int} (cap : Nat) (g : Nat) (lb : Array Value) (p : Int → Bool) (eg : ∀ args w, (callFunc g args).run Tryz.prog w = .ok (.enter g args) w) (I : Nat → World → Prop) (hI : ∀ k W, I k W → Row W B L)
    (hp : ∀ k W x, k < L.length → x ∈ L → I k W → Calls Tryz.prog g (#[.int .i64 x] ++ lb) W fun e w' => e = .returned (.bool (p x)) ∧ I (k + 1) w') (h0 : I 0 w) :
    Calls Tryz.prog 40 #[.slice B L.length cap, .func (.func g) #[] lb] w (IdxIs L p I) := by
  have hlen := (hI 0 w h0).len
  have HI := Lib.hid hI
  have HP := Lib.hid hp
  have H0 := Lib.hid h0
  clear hI hp h0
  go_enter Tryz.func40, Tryz.ntmps40
  go_wp2
  go_loopg [8] L.length (fun g v wr => ∃ i : Nat, i + g = L.length ∧ v = .int .i64 i ∧ I i wr ∧ (L.any p = true ↔ (L.drop i).any p = true))
  case atStart => exact ⟨0, by omega, rfl, H0.out, Iff.rfl⟩
  case round =>
    obtain ⟨i, hig, rfl, hi, hinv⟩ := hrel
    have HW := Lib.hid hi
    have HV := Lib.hid hinv
    clear hi hinv
    cases gk with
    | zero =>
      obtain rfl : i = L.length := by omega
      have d1 : decide ((L.length : Int) < L.length) = false := by simp
      have HN : Hid ((0 : Int) ≤ -1 ↔ L.any p = true) := Lib.hid ⟨fun h => by omega, fun h => by have := HV.out.1 h; rw [List.drop_length] at this; cases this⟩
      go_wp2
      go_ret
      exact ⟨_, rfl, HN.out, L.length, Nat.le_refl _, HW.out⟩
    | succ gk =>
      have hlt : i < L.length := by omega
      have d1 : decide ((i : Int) < L.length) = true := by simp; omega
      have t1 : (0 : Int) ≤ (i : Int) := by omega
      have t2 : (i : Int) < (L.length : Int) := by omega
      obtain ⟨b, off, hA, hbb, hcell⟩ := (HI.out i wr HW.out).at_.resolve_left (by omega)
      have y0 := hcell i hlt
      have KP := Lib.hid (HP.out i wr L[i] hlt (List.getElem_mem hlt) HW.out)
      have HD := Lib.hid (show (L.drop i).any p = (p L[i] || (L.drop (i + 1)).any p) by rw [List.drop_eq_getElem_cons hlt, List.any_cons])
      subst hA
      clear hcell
      generalize L[i] = x at *
      obtain ⟨r, hr⟩ : ∃ r, p x = r := ⟨_, rfl⟩
      rw [hr] at KP HD
      clear hr
      go_wp2_with fail
      refine KP.out.mono ?_
      rintro e w2 ⟨rfl, h2⟩
      have H2 := Lib.hid h2
      clear h2 y0
      cases r with
      | true =>
        have HN : Hid ((0 : Int) ≤ (i : Int) ↔ L.any p = true) := Lib.hid ⟨fun _ => HV.out.2 (by rw [HD.out]; rfl), fun _ => by omega⟩
        go_wp2
        go_ret
        exact ⟨_, rfl, HN.out, i + 1, by omega, H2.out⟩
      | false =>
        go_wp2
        go_roundg gk
        case measure => omega
        case rel => exact ⟨i + 1, by omega, by go_num, H2.out, by rw [HV.out, HD.out]; simp⟩
theorem contains_inv {w : World} {B : Option Addr} {L : List Int} (cap : Nat) (g : Nat) (lb : Array Value) (p : Int → Bool) (eg : ∀ args w, (callFunc g args).run Tryz.prog w = .ok (.enter g args) w) (I : Nat → World → Prop) (hI : ∀ k W, I k W → Row W B L)
    (hp : ∀ k W x, k < L.length → x ∈ L → I k W → Calls Tryz.prog g (#[.int .i64 x] ++ lb) W fun e w' => e = .returned (.bool (p x)) ∧ I (k + 1) w') (h0 : I 0 w) :
    Calls Tryz.prog 22 #[.slice B L.length cap, .func (.func g) #[] lb] w fun e w' => e = .returned (.bool (L.any p)) ∧ ∃ k, k ≤ L.length ∧ I k w' := by
  have KI := Lib.hid (index_inv cap g lb p eg I hI hp h0)
  obtain ⟨bb, hbb⟩ : ∃ bb, L.any p = bb := ⟨_, rfl⟩
  have HBB := Lib.hid hbb
  rw [hbb]
  clear hI hp h0 hbb eg
  go_enter Tryz.func22, Tryz.ntmps22
  go_wp2_with fail
  refine KI.out.mono ?_
  rintro e w2 ⟨r, rfl, hr, hk⟩
  have HK := Lib.hid hk
  have d0 : decide (0 ≤ r) = bb := by
    rw [← HBB.out, Bool.eq_iff_iff, decide_eq_true_iff]
    exact hr
  clear hk hr
  go_wp2
  go_ret
  exact ⟨by rw [← d0]; rfl, HK.out⟩
section
variable {w w' : World} {H : Nat} {X : Nat → Prop} {cb q bf : Nat} {A : Option Addr} {c : Nat} {T : List Nd} {J : List Jn} {m : Nat} {more : Bool}
def AgainstJ (T : List Nd) (J : List Jn) (x : Int) : Prop := x % 2 = 1 ∧ Sided T (x / 2) ∧ ∃ n, T[(x / 2).toNat]? = some n ∧ cls J n.a0 = cls J n.a1
open Classical in
noncomputable def agB (T : List Nd) (J : List Jn) (x : Int) : Bool := decide (AgainstJ T J x)
open Classical in
theorem agB_iff {x : Int} : agB T J x = true ↔ AgainstJ T J x := by
  unfold agB
  exact decide_eq_true_iff
set_option maxRecDepth 100000 in
set_option maxHeartbeats 2000000 in
theorem badf_ok (h : Cl w H X cb q bf A c T J m more) (hT : TabOk T) (hm : m ≤ 990000) {bx : Nat} (hb : Blk w bx 73 #[.pointer (some ⟨cb, 0, none⟩)]) (hX : X bx) {x : Int} (hx : LitMay T x) :
    Calls Tryz.prog 54 #[.int .i64 x, .pointer (some ⟨bx, 0, none⟩)] w fun e w' => e = .returned (.bool (agB T J x)) ∧ Cl w' H X cb q bf A c T J (m + 1) more ∧ Kc H X w w' := by
  obtain ⟨n, hn, hs, hop, hxl, hx0⟩ := hx.node
  have hlen := h.hT
  have hx9 : 0 ≤ x := hx.1
  have c0 := hb.cell 0
  simp only [List.getElem?_toArray, List.getElem?_cons_zero] at c0
  have hl := hb.lt
  have HH := Lib.hid h
  have HB := Lib.hid hb
  have HX := Lib.hid hX
  have HT := Lib.hid hT
  have HN := Lib.hid hn
  have KI := Lib.hid (fun W => is_ok23 x hx9 (by omega) W)
  have KN := Lib.hid (fun W => node_ok x W)
  clear h hb hX hT hn hs hop hxl hx
  go_enter Tryz.func54, Tryz.ntmps54
  go_upto_region 2 with (fail)
  go_region_held3 (fun w' => w'.cell? ⟨bx, 0, none⟩ = some (.pointer (some ⟨cb, 0, none⟩))) (go_keep) (first
    | ((go_at_call 56; refine (KN.out _).mono ?_; rintro e w1 ⟨rfl, rfl⟩))
    | ((go_at_call 55; refine (sides_ok (HH.out.below (w' := w.drew) ⟨rfl, rfl, rfl, Nat.le_refl _, fun _ _ => rfl⟩) (x / 2)).mono ?_; rintro e w2 ⟨sa, sb, ok, rfl, hok, hsd, hb2⟩; have HB2 := Lib.hid hb2; have HOK := Lib.hid hok; have HSD := Lib.hid hsd; have d0 := (hb2.cell (p := ⟨bx, 0, none⟩) hl).trans c0; clear hok hsd hb2)))
  have hcl2 : Cl w2 H X cb q bf A c T J m more := (HH.out.below (w' := w.drew) ⟨rfl, rfl, rfl, Nat.le_refl _, fun _ _ => rfl⟩).below HB2.out
  have HC2 := Lib.hid hcl2
  have HBX2 := Lib.hid (show Blk w2 bx 73 #[.pointer (some ⟨cb, 0, none⟩)] from HB.out.below (B := w.heap.size) ⟨HB2.out.os, HB2.out.tape, HB2.out.output, HB2.out.size, HB2.out.block⟩ hl)
  have HK2 : Hid (Kc H X w w2) := Lib.hid (Kc.of_below ⟨HB2.out.os, HB2.out.tape, HB2.out.output, HB2.out.size, HB2.out.block⟩)
  obtain ⟨_, c1, _, _, hlc⟩ := hcl2.cells
  have hlb := HBX2.out.lt
  clear hcl2
  obtain ⟨y, hy⟩ : ∃ y, x % 2 = y := ⟨_, rfl⟩
  rw [hy] at KI
  have HY := Lib.hid hy
  have hy2 : y = 0 ∨ y = 1 := by omega
  clear hy
  cases ok with
  | false =>
    have HF : Hid (agB T J x = false) := Lib.hid (Bool.eq_false_iff.2 fun h => by have := HOK.out.2 (agB_iff.1 h).2.1; cases this)
    clear hy2
    go_wp2
    go_ret
    exact ⟨by rw [HF.out]; rfl, HC2.out.mono (Nat.le_succ _), HK2.out⟩
  | true =>
    obtain ⟨n', hn', rfl, rfl⟩ := HSD.out rfl
    have hnn : n' = n := by
      have := HN.out
      rw [hn'] at this
      injection this
    subst hnn
    have HSI : Hid (Sided T (x / 2)) := Lib.hid (HOK.out.1 rfl)
    clear hn'
    rcases hy2 with rfl | rfl
    · have HF : Hid (agB T J x = false) := Lib.hid (Bool.eq_false_iff.2 fun h => by have := (agB_iff.1 h).1; rw [HY.out] at this; cases this)
      go_wp2_with fail
      refine (KI.out _).mono ?_
      rintro e w3 ⟨rfl, rfl⟩
      go_wp2
      go_ret
      exact ⟨by rw [HF.out]; rfl, HC2.out.mono (Nat.le_succ _), HK2.out⟩
    · have hr := side_args HT.out HSI.out HN.out
      have HO := Lib.hid (oneM_iff (J := J) hr.1 hr.2)
      obtain ⟨ob, hob⟩ : ∃ ob, oneM (T.length + 1) J n'.a0 n'.a1 = ob := ⟨_, rfl⟩
      have HT2 : Hid (agB T J x = ob) := Lib.hid (by
        rw [Bool.eq_iff_iff, agB_iff, ← hob, HO.out]
        refine ⟨fun ⟨_, _, m2, h1, h2⟩ => ?_, fun h => ⟨HY.out, HSI.out, n', HN.out, h⟩⟩
        have e := HN.out
        rw [e] at h1
        injection h1 with h1
        rw [h1]
        exact h2)
      have KO := Lib.hid (cone_ok HC2.out (by omega) n'.a0 n'.a1)
      rw [hob] at KO
      clear hr hob
      go_wp2_with fail
      refine (KI.out _).mono ?_
      rintro e w3 ⟨rfl, rfl⟩
      go_wp2_with fail
      refine KO.out.mono ?_
      rintro e w4 ⟨rfl, h4, k4⟩
      have H4 := Lib.hid h4
      have K4 := Lib.hid (HK2.out.trans (k4.less fun _ h => Or.inl h))
      clear h4 k4
      go_wp2
      go_ret
      exact ⟨by rw [HT2.out]; rfl, H4.out, K4.out⟩
end
theorem still_of_quiet {P : Program} {o : Oper} {a : Act} {w : World} {K : Act → Prop} (h : o.quiet P a (fun w' => w' = w) K) : o.still P a w K := by
  obtain ⟨v, h1, h2⟩ := h
  have h3 := h1 w rfl
  unfold Oper.quietAt at h3
  unfold Oper.still
  generalize (execOp a.eval o).run P w = r at *
  cases r with
  | ok n w' =>
    cases n <;> simp only [Oper.quietUpon] at h3 <;> simp only [Oper.stillUpon]
    case value u => obtain ⟨h4, rfl⟩ := h3; exact ⟨h4, h2⟩
    case skip => obtain ⟨h4, rfl⟩ := h3; exact ⟨h4, h2⟩
    case enter f args => exact ⟨h3.1, v, h3.2, h2⟩
  | halt x w' => simp only [Oper.quietUpon] at h3
theorem wpStill_of_quiet {P : Program} {ops : Array Oper} {w : World} {Q : Act → Prop} : ∀ (l : List Oper) (a : Act), wpQuiet P ops (fun w' => w' = w) Q l a → wpStill P ops w Q l a
  | [], a, h => h
  | o :: l, a, h => by
    unfold wpQuiet at h
    unfold wpStill
    split
    · rename_i hw
      rw [if_pos hw] at h
      refine still_of_quiet ?_
      obtain ⟨v, h1, h2⟩ := h
      exact ⟨v, h1, wpStill_of_quiet l _ h2⟩
    · rename_i hw
      rw [if_neg hw] at h
      exact wpStill_of_quiet l _ h
section
variable {w w' : World} {H : Nat} {X : Nat → Prop} {cb q bf : Nat} {A : Option Addr} {c : Nat} {T : List Nd} {J : List Jn} {m : Nat} {more : Bool}
def BadIs (H : Nat) (X : Nat → Prop) (T : List Nd) (J : List Jn) (L : List Int) (w : World) (e : Ending) (w' : World) : Prop :=
  ∃ (r : Bool), e = .returned (.bool r) ∧ (r = true ↔ cls J 0 = cls J T.length ∨ ∃ x ∈ L, AgainstJ T J x) ∧ Kc H X w w'
set_option maxRecDepth 100000 in
set_option maxHeartbeats 2000000 in
theorem bad_ok {B : Option Addr} {L : List Int} (cap : Nat) (h : Cl w H X cb q bf A c T J m more) (hT : TabOk T) (hm : m ≤ 900000) (hL : L.length ≤ 300) (hr : ∀ W, Below H w W → Row W B L) (hl : ∀ x ∈ L, LitMay T x) :
    Calls Tryz.prog 28 #[.pointer (some ⟨cb, 0, none⟩), .slice B L.length cap] w (BadIs H X T J L w) := by
  have hlen := h.hT
  have hb1 : Below w.heap.size w (w.alloc (.cells #[.pointer (some ⟨cb, 0, none⟩)] 73)) := (Below.refl _ w).alloc (Nat.le_refl _) _
  have HC1 := Lib.hid (h.guard (Y := fun b => X b ∨ b = w.heap.size) (fun b hb => hb.imp id fun e => by omega) (fun b hb => by rcases hb with hb | rfl; have := h.hX b hb; simp; omega; simp) hb1)
  have HBX := Lib.hid (Blk.new w 73 #[.pointer (some ⟨cb, 0, none⟩)])
  have HH := Lib.hid h.hH
  have HK1 : Hid (Kc H X w (w.alloc (.cells #[.pointer (some ⟨cb, 0, none⟩)] 73))) := Lib.hid (Kc.of_below hb1)
  have HT := Lib.hid hT
  have HR := Lib.hid hr
  have HL := Lib.hid hl
  have hl2 := hT.len
  have HO := Lib.hid (oneM_iff (J := J) (n := (T.length : Int) + 1) (x := 0) (y := T.length) ⟨by omega, by omega⟩ ⟨by omega, by omega⟩)
  obtain ⟨ob, hob⟩ : ∃ ob, oneM (T.length + 1) J 0 T.length = ob := ⟨_, rfl⟩
  rw [hob] at HO
  have KO := Lib.hid (cone_ok (HC1.out.below (w' := (w.alloc (.cells #[.pointer (some ⟨cb, 0, none⟩)] 73)).drew) ⟨rfl, rfl, rfl, Nat.le_refl _, fun _ _ => rfl⟩) (by omega) 0 T.length)
  rw [hob] at KO
  obtain ⟨_, c1, c2, _, hlc⟩ := HC1.out.cells
  clear h hb1 hT hr hl hob
  go_enter Tryz.func28, Tryz.ntmps28
  go_upto_region 1 with (fail)
  cases ob with
  | true =>
    have HOT := Lib.hid (HO.out.1 rfl)
    refine wp_region_still_call 8 (by kernel_rfl) (by kernel_rfl) ?_
    simp only [List.take_succ_cons, List.take_zero, List.drop_succ_cons, List.drop_zero]
    change wpStill Tryz.prog _ (w.alloc (.cells #[.pointer (some ⟨cb, 0, none⟩)] 73)).drew (fun a' => wpOp _ _ _ _ _ a' (w.alloc (.cells #[.pointer (some ⟨cb, 0, none⟩)] 73)).drew) _ _
    iterate 8 still_step
    refine wpStill_nil ?_
    refine wpOp_of rfl rfl ?_
    go_simp
    refine KO.out.mono ?_
    rintro e w2 ⟨rfl, h2, k2⟩
    have K2 : Hid (Kc H X w w2) := Lib.hid (Kc.trans (H := H) (X := X) (w := w) (w' := (w.alloc (.cells #[.pointer (some ⟨cb, 0, none⟩)] 73)).drew) (Kept.drew HK1.out) (k2.less fun _ h => Or.inl (Or.inl h)))
    clear h2 k2
    refine wpStill_of_quiet _ _ ?_
    repeat (go_big_quiet_step (fail))
    refine wpQuiet_nil ?_
    go_wp2
    go_ret
    exact ⟨true, rfl, ⟨fun _ => .inl HOT.out, fun _ => rfl⟩, K2.out⟩
  | false =>
    have HOF : Hid (¬ cls J 0 = cls J T.length) := Lib.hid fun e => by have := HO.out.2 e; cases this
    have cx := HBX.out.cell 0
    simp only [List.getElem?_toArray, List.getElem?_cons_zero] at cx
    have hbs : w.heap.size < (w.alloc (.cells #[.pointer (some ⟨cb, 0, none⟩)] 73)).heap.size := by simp
    have HBS := Lib.hid hbs
    clear hbs
    go_region_held3 (fun w' => w'.cell? ⟨w.heap.size, 0, none⟩ = some (.pointer (some ⟨cb, 0, none⟩)) ∧ w'.cell? ⟨cb, 1, none⟩ = some (.pointer (some ⟨bf, 0, none⟩)) ∧ w'.cell? ⟨cb, 2, none⟩ = some (.int .i64 T.length)) (go_keep) (first
      | ((go_at_call 53; refine KO.out.mono ?_; rintro e w2 ⟨rfl, h2, k2⟩; have H2 := Lib.hid h2; have K2 : Hid (Kc H X w w2) := Lib.hid (Kc.trans (H := H) (X := X) (w := w) (w' := (w.alloc (.cells #[.pointer (some ⟨cb, 0, none⟩)] 73)).drew) (Kept.drew HK1.out) (k2.less fun _ h => Or.inl (Or.inl h))); have hbx2 := (Blk.drew HBX.out).kept k2 (fun hn => hn (.inr (.inl (.inr rfl)))); have HBX2 := Lib.hid hbx2; have cx2 := hbx2.cell 0; simp only [List.getElem?_toArray, List.getElem?_cons_zero] at cx2; obtain ⟨_, e1, e2, _, hl3⟩ := h2.cells; clear h2 k2 hbx2))
      | ((go_at_call 22; refine (contains_inv cap 54 #[.pointer (some ⟨w.heap.size, 0, none⟩)] (agB T J) (enters_of Tryz.func54 (by kernel_rfl) rfl) (fun k W => Cl W H (fun b => X b ∨ b = w.heap.size) cb q bf A c T J (m + 1 + k) more ∧ Blk W w.heap.size 73 #[.pointer (some ⟨cb, 0, none⟩)] ∧ Kc H X w W) (fun k W hI => HR.out W (Kc.below hI.2.2 HH.out)) (fun k W x hk hx hI => (badf_ok hI.1 HT.out (by omega) hI.2.1 (.inr rfl) (HL.out x hx)).mono fun e w' ⟨g1, g2, g3⟩ => ⟨g1, g2, hI.2.1.kept g3 (fun hn => hn (.inr (.inr rfl))), Kc.trans hI.2.2 (g3.less fun _ h => Or.inl h)⟩) ⟨H2.out, HBX2.out, K2.out⟩).mono ?_; rintro e w3 ⟨rfl, k, hk, h3, h4, h5⟩; have H3 := Lib.hid h3; have H5 := Lib.hid h5; have cx3 := h4.cell 0; simp only [List.getElem?_toArray, List.getElem?_cons_zero] at cx3; obtain ⟨_, g1, g2, _, _⟩ := h3.cells; clear h3 h4 h5)))
    go_wp2
    go_ret
    refine ⟨_, rfl, ?_, H5.out⟩
    rw [List.any_eq_true]
    exact ⟨fun ⟨x, h1, h2⟩ => .inr ⟨x, h1, agB_iff.1 h2⟩, fun h => by
      rcases h with h | ⟨x, h1, h2⟩
      · exact absurd h HOF.out
      · exact ⟨x, h1, agB_iff.2 h2⟩⟩
end
end Go.Proofs.YtkapbdjobfbhhaaGreat

/- ContainsFunc by a predicate that turns the world; whether a literal goes against the classes. -/
import Derived.Test.YtbgbhfmchpdkcaaEuX
import Derived.Test.YtbgbhfmchpdkcaaStillCall
namespace Go.Proofs.Ytbgbhfmchpdkcaa
open Go.RowKit

def IdxIs (L : List Int) (p : Int → Bool) (I : Nat → World → Prop) (e : Ending) (w' : World) : Prop := ∃ r : Int, e = .returned (.int .i64 r) ∧ (0 ≤ r ↔ L.any p = true) ∧ ∃ k, k ≤ L.length ∧ I k w'
set_option maxHeartbeats 1000000 in
theorem index_inv {w : World} {B : Option Addr} {L : List Int} (cap : Nat) (g : Nat) (lb : Array Value) (p : Int → Bool) (eg : ∀ args w, (callFunc g args).run Try.prog w = .ok (.enter g args) w) (I : Nat → World → Prop) (hI : ∀ k W, I k W → Row W B L)
    (hp : ∀ k W x, k < L.length → x ∈ L → I k W → Calls Try.prog g (#[.int .i64 x] ++ lb) W fun e w' => e = .returned (.bool (p x)) ∧ I (k + 1) w') (h0 : I 0 w) :
    Calls Try.prog 60 #[.slice B L.length cap, .func (.func g) #[] lb] w (IdxIs L p I) := by
  have hlen := (hI 0 w h0).len
  have HI := Lib.hid hI
  have HP := Lib.hid hp
  have H0 := Lib.hid h0
  clear hI hp h0
  go_enter Try.func60, Try.ntmps60
  go_wp2
  go_loopg [8] L.length (fun g v wr => ∃ i : Nat, i + g = L.length ∧ v = .int .i64 i ∧ I i wr ∧ (L.any p = true ↔ (L.drop i).any p = true))
  case atStart => exact ⟨0, by omega, rfl, H0.out, Iff.rfl⟩
  case round =>
    obtain ⟨i, hig, rfl, hi, hinv⟩ := hrel
    have HW := Lib.hid hi
    have HV := Lib.hid hinv
    clear hi hinv
    cases gk with
    | zero =>
      obtain rfl : i = L.length := by omega
      have d1 : decide ((L.length : Int) < L.length) = false := by simp
      have HN : Hid ((0 : Int) ≤ -1 ↔ L.any p = true) := Lib.hid ⟨fun h => by omega, fun h => by have := HV.out.1 h; rw [List.drop_length] at this; cases this⟩
      go_wp2
      go_ret
      exact ⟨_, rfl, HN.out, L.length, Nat.le_refl _, HW.out⟩
    | succ gk =>
      have hlt : i < L.length := by omega
      have d1 : decide ((i : Int) < L.length) = true := by simp; omega
      have t1 : (0 : Int) ≤ (i : Int) := by omega
      have t2 : (i : Int) < (L.length : Int) := by omega
      obtain ⟨b, off, hA, hbb, hcell⟩ := (HI.out i wr HW.out).at_.resolve_left (by omega)
      have y0 := hcell i hlt
      have KP := Lib.hid (HP.out i wr L[i] hlt (List.getElem_mem hlt) HW.out)
      have HD := Lib.hid (show (L.drop i).any p = (p L[i] || (L.drop (i + 1)).any p) by rw [List.drop_eq_getElem_cons hlt, List.any_cons])
      subst hA
      clear hcell
      generalize L[i] = x at *
      obtain ⟨r, hr⟩ : ∃ r, p x = r := ⟨_, rfl⟩
      rw [hr] at KP HD
      clear hr
      go_wp2_with fail
      refine KP.out.mono ?_
      rintro e w2 ⟨rfl, h2⟩
      have H2 := Lib.hid h2
      clear h2 y0
      cases r with
      | true =>
        have HN : Hid ((0 : Int) ≤ (i : Int) ↔ L.any p = true) := Lib.hid ⟨fun _ => HV.out.2 (by rw [HD.out]; rfl), fun _ => by omega⟩
        go_wp2
        go_ret
        exact ⟨_, rfl, HN.out, i + 1, by omega, H2.out⟩
      | false =>
        go_wp2
        go_roundg gk
        case measure => omega
        case rel => exact ⟨i + 1, by omega, by go_num, H2.out, by rw [HV.out, HD.out]; simp⟩
theorem contains_inv {w : World} {B : Option Addr} {L : List Int} (cap : Nat) (g : Nat) (lb : Array Value) (p : Int → Bool) (eg : ∀ args w, (callFunc g args).run Try.prog w = .ok (.enter g args) w) (I : Nat → World → Prop) (hI : ∀ k W, I k W → Row W B L)
    (hp : ∀ k W x, k < L.length → x ∈ L → I k W → Calls Try.prog g (#[.int .i64 x] ++ lb) W fun e w' => e = .returned (.bool (p x)) ∧ I (k + 1) w') (h0 : I 0 w) :
    Calls Try.prog 35 #[.slice B L.length cap, .func (.func g) #[] lb] w fun e w' => e = .returned (.bool (L.any p)) ∧ ∃ k, k ≤ L.length ∧ I k w' := by
  have KI := Lib.hid (index_inv cap g lb p eg I hI hp h0)
  obtain ⟨bb, hbb⟩ : ∃ bb, L.any p = bb := ⟨_, rfl⟩
  have HBB := Lib.hid hbb
  rw [hbb]
  clear hI hp h0 hbb eg
  go_enter Try.func35, Try.ntmps35
  go_wp2_with fail
  refine KI.out.mono ?_
  rintro e w2 ⟨r, rfl, hr, hk⟩
  have HK := Lib.hid hk
  have d0 : decide (0 ≤ r) = bb := by
    rw [← HBB.out, Bool.eq_iff_iff, decide_eq_true_iff]
    exact hr
  clear hk hr
  go_wp2
  go_ret
  exact ⟨by rw [← d0]; rfl, HK.out⟩

section
variable {w w' : World} {H : Nat} {X : Nat → Prop} {cb q bf : Nat} {A : Option Addr} {c : Nat} {T : List Nd} {J : List Jn} {m : Nat} {more : Bool}
def AgainstJ (T : List Nd) (J : List Jn) (x : Int) : Prop := x % 2 = 1 ∧ Sided T (x / 2) ∧ ∃ n, T[(x / 2).toNat]? = some n ∧ cls J n.a0 = cls J n.a1
open Classical in
noncomputable def agB (T : List Nd) (J : List Jn) (x : Int) : Bool := decide (AgainstJ T J x)
open Classical in
theorem agB_iff {x : Int} : agB T J x = true ↔ AgainstJ T J x := by
  unfold agB
  exact decide_eq_true_iff
set_option maxRecDepth 100000 in
set_option maxHeartbeats 2000000 in
theorem badf_ok (h : Cl w H X cb q bf A c T J m more) (hT : TabOk T) (hm : m ≤ 990000) {bx : Nat} (hb : Blk w bx 39 #[.pointer (some ⟨cb, 0, none⟩)]) (hX : X bx) {x : Int} (hx : LitMay T x) :
    Calls Try.prog 54 #[.int .i64 x, .pointer (some ⟨bx, 0, none⟩)] w fun e w' => e = .returned (.bool (agB T J x)) ∧ Cl w' H X cb q bf A c T J (m + 1) more ∧ Kc H X w w' := by
  obtain ⟨n, hn, hs, hop, hxl, hx0⟩ := hx.node
  have hlen := h.hT
  have hx9 : 0 ≤ x := hx.1
  have c0 := hb.cell 0
  simp only [List.getElem?_toArray, List.getElem?_cons_zero] at c0
  have hl := hb.lt
  have HH := Lib.hid h
  have HB := Lib.hid hb
  have HX := Lib.hid hX
  have HT := Lib.hid hT
  have HN := Lib.hid hn
  have KI := Lib.hid (fun W => is_ok23 x hx9 (by omega) W)
  have KN := Lib.hid (fun W => node_ok x W)
  clear h hb hX hT hn hs hop hxl hx
  go_enter Try.func54, Try.ntmps54
  go_upto_region 2 with (fail)
  go_region_held3 (fun w' => w'.cell? ⟨bx, 0, none⟩ = some (.pointer (some ⟨cb, 0, none⟩))) (go_keep) (first
    | ((go_at_call 56; refine (KN.out _).mono ?_; rintro e w1 ⟨rfl, rfl⟩))
    | ((go_at_call 55; refine (sides_ok (HH.out.below (w' := w.drew) ⟨rfl, rfl, rfl, Nat.le_refl _, fun _ _ => rfl⟩) (x / 2)).mono ?_; rintro e w2 ⟨sa, sb, ok, rfl, hok, hsd, hb2⟩; have HB2 := Lib.hid hb2; have HOK := Lib.hid hok; have HSD := Lib.hid hsd; have d0 := (hb2.cell (p := ⟨bx, 0, none⟩) hl).trans c0; clear hok hsd hb2)))
  have hcl2 : Cl w2 H X cb q bf A c T J m more := (HH.out.below (w' := w.drew) ⟨rfl, rfl, rfl, Nat.le_refl _, fun _ _ => rfl⟩).below HB2.out
  have HC2 := Lib.hid hcl2
  have HBX2 := Lib.hid (show Blk w2 bx 39 #[.pointer (some ⟨cb, 0, none⟩)] from HB.out.below (B := w.heap.size) ⟨HB2.out.os, HB2.out.tape, HB2.out.output, HB2.out.size, HB2.out.block⟩ hl)
  have HK2 : Hid (Kc H X w w2) := Lib.hid (Kc.of_below ⟨HB2.out.os, HB2.out.tape, HB2.out.output, HB2.out.size, HB2.out.block⟩)
  obtain ⟨_, c1, _, _, hlc⟩ := hcl2.cells
  have hlb := HBX2.out.lt
  clear hcl2
  obtain ⟨y, hy⟩ : ∃ y, x % 2 = y := ⟨_, rfl⟩
  rw [hy] at KI
  have HY := Lib.hid hy
  have hy2 : y = 0 ∨ y = 1 := by omega
  clear hy
  cases ok with
  | false =>
    have HF : Hid (agB T J x = false) := Lib.hid (Bool.eq_false_iff.2 fun h => by have := HOK.out.2 (agB_iff.1 h).2.1; cases this)
    clear hy2
    go_wp2
    go_ret
    exact ⟨by rw [HF.out]; rfl, HC2.out.mono (Nat.le_succ _), HK2.out⟩
  | true =>
    obtain ⟨n', hn', rfl, rfl⟩ := HSD.out rfl
    have hnn : n' = n := by
      have := HN.out
      rw [hn'] at this
      injection this
    subst hnn
    have HSI : Hid (Sided T (x / 2)) := Lib.hid (HOK.out.1 rfl)
    clear hn'
    rcases hy2 with rfl | rfl
    · have HF : Hid (agB T J x = false) := Lib.hid (Bool.eq_false_iff.2 fun h => by have := (agB_iff.1 h).1; rw [HY.out] at this; cases this)
      go_wp2_with fail
      refine (KI.out _).mono ?_
      rintro e w3 ⟨rfl, rfl⟩
      go_wp2
      go_ret
      exact ⟨by rw [HF.out]; rfl, HC2.out.mono (Nat.le_succ _), HK2.out⟩
    · have hr := side_args HT.out HSI.out HN.out
      have HO := Lib.hid (oneM_iff (J := J) hr.1 hr.2)
      obtain ⟨ob, hob⟩ : ∃ ob, oneM (T.length + 1) J n'.a0 n'.a1 = ob := ⟨_, rfl⟩
      have HT2 : Hid (agB T J x = ob) := Lib.hid (by
        rw [Bool.eq_iff_iff, agB_iff, ← hob, HO.out]
        refine ⟨fun ⟨_, _, m2, h1, h2⟩ => ?_, fun h => ⟨HY.out, HSI.out, n', HN.out, h⟩⟩
        have e := HN.out
        rw [e] at h1
        injection h1 with h1
        rw [h1]
        exact h2)
      have KO := Lib.hid (cone_ok HC2.out (by omega) n'.a0 n'.a1)
      rw [hob] at KO
      clear hr hob
      go_wp2_with fail
      refine (KI.out _).mono ?_
      rintro e w3 ⟨rfl, rfl⟩
      go_wp2_with fail
      refine KO.out.mono ?_
      rintro e w4 ⟨rfl, h4, k4⟩
      have H4 := Lib.hid h4
      have K4 := Lib.hid (HK2.out.trans (k4.less fun _ h => Or.inl h))
      clear h4 k4
      go_wp2
      go_ret
      exact ⟨by rw [HT2.out]; rfl, H4.out, K4.out⟩
end
end Go.Proofs.Ytbgbhfmchpdkcaa

/- What is told to euf. -/
import Derived.Test.YtbgbhfmchpdkcaaEuL
import Derived.Deep.AppendLies
namespace Go.Proofs.Ytbgbhfmchpdkcaa
open Go.RowKit

open Classical in
noncomputable def tellB (T : List Nd) (x : Int) : Bool := decide (Tell T x)
open Classical in
theorem tellB_iff {T : List Nd} {x : Int} : tellB T x = true ↔ Tell T x := by
  unfold tellB
  exact decide_eq_true_iff
noncomputable def eufL (T : List Nd) (L : List Int) : List Int := L.filter (tellB T)
theorem mem_eufL {T : List Nd} {L : List Int} {x : Int} : x ∈ eufL T L ↔ told T L x := by
  unfold eufL told
  rw [List.mem_filter, tellB_iff]

set_option maxRecDepth 100000 in
theorem euff_ok {w : World} {q bm M : Nat} {A : Option Addr} {c : Nat} {T : List Nd} (h : TabP w q A c T) (hm : Blk w bm 61 #[.map (some M)]) (hM : ArgMap T w M) {x : Int} (hx : LitMay T x) :
    Calls Try.prog 46 #[.int .i64 x, .pointer (some ⟨q, 0, none⟩), .pointer (some ⟨bm, 0, none⟩)] w fun e w' => e = .returned (.bool (tellB T x)) ∧ Below w.heap.size w w' := by
  have hlen := h.tab.len
  have c0 := h.blk.cell 0
  have c1 := hm.cell 0
  simp only [List.getElem?_toArray, List.getElem?_cons_zero] at c0 c1
  have hq := h.blk.lt
  have hb := hm.lt
  have KK := Lib.hid (kind_ok h.tab h.cap (x / 2))
  have HMM := Lib.hid hM
  have HBM := Lib.hid hm
  obtain ⟨n, hn, hs, hop, hxl, hx0⟩ := hx.node
  have HN := Lib.hid (show ∀ m, T[(x / 2).toNat]? = some m → m.op ≠ 1 from fun m hm => by rw [hn] at hm; injection hm with hm; exact hm ▸ hop)
  clear h hm hM hn hs hop
  have hx9 : 0 ≤ x := hx.1
  have HL := Lib.hid hx
  clear hx
  obtain ⟨kv, hkv⟩ : ∃ kv, kindM T (x / 2) = kv := ⟨_, rfl⟩
  have HK := Lib.hid hkv
  clear hkv
  have HY : Hid (kv = 4 ∨ kv = 5 ∨ kv = 8 → tellB T x = true) := Lib.hid fun hk => tellB_iff.2 (.inl (by rw [HK.out]; exact hk))
  go_enter Try.func46, Try.ntmps46
  go_wp2_with fail
  refine KK.out.mono ?_
  rintro e w1 ⟨rfl, hb1⟩
  rw [HK.out]
  have HB1 := Lib.hid hb1
  have c2 := (hb1.cell (p := ⟨bm, 0, none⟩) hb).trans c1
  clear hb1 c0 c1
  by_cases k4 : kv = 4
  · have b0 : (kv == 4) = true := by simp [k4]
    have HT := Lib.hid (HY.out (.inl k4))
    clear k4
    go_wp2
    go_ret
    exact ⟨by rw [HT.out]; rfl, HB1.out⟩
  have b0 : (kv == 4) = false := by simp [k4]
  by_cases k5 : kv = 5
  · have b1 : (kv == 5) = true := by simp [k5]
    have HT := Lib.hid (HY.out (.inr (.inl k5)))
    clear k4 k5
    go_wp2
    go_ret
    exact ⟨by rw [HT.out]; rfl, HB1.out⟩
  have b1 : (kv == 5) = false := by simp [k5]
  by_cases k8 : kv = 8
  · have b2 : (kv == 8) = true := by simp [k8]
    have HT := Lib.hid (HY.out (.inr (.inr k8)))
    clear k4 k5 k8
    go_wp2
    go_ret
    exact ⟨by rw [HT.out]; rfl, HB1.out⟩
  have b2 : (kv == 8) = false := by simp [k8]
  have hbm1 : bm < w1.heap.size := Nat.lt_of_lt_of_le hb HB1.out.size
  have HT2 : Hid (tellB T x = true ↔ ArgOf T (x / 2)) := Lib.hid (by rw [tellB_iff]; unfold Tell; rw [HK.out]; exact ⟨fun h => h.resolve_left (by omega), .inr⟩)
  obtain ⟨f, m, h1, h2, h3⟩ := HMM.out.below HB1.out
  have hl2 := h1.look int_key Try.underlying61 (zero_int w1) (int_key_of (x := x / 2) (by omega) (by omega)) false
  obtain ⟨v, hv, hlook⟩ : ∃ v : Int, (tellB T x = true ↔ 1 ≤ v) ∧ (Instr.lookup 61 (.map (some M)) (.int .i64 (x / 2)) false).run Try.prog w1 = .ok (.int .i64 v) w1 := by
    rcases h3 (x / 2) with ⟨g1, q, g2, g3, g4⟩ | ⟨g1, g2⟩
    · refine ⟨q, ⟨fun _ => g3, fun _ => HT2.out.2 (processed_all.1 g1).1⟩, hl2.trans ?_⟩
      rw [g2]
      rfl
    · refine ⟨0, ⟨fun ht => absurd (processed_all.2 ⟨HT2.out.1 ht, ⟨hx0, by omega⟩, HN.out⟩) g1, fun h => by omega⟩, hl2.trans ?_⟩
      rw [g2]
      rfl
  have HV := Lib.hid hv
  clear h1 h2 h3 hl2 hv k4 k5 k8
  by_cases h1 : 1 ≤ v
  · have d1 : decide (0 < v) = true := decide_eq_true (by omega)
    have HT := Lib.hid (HV.out.2 h1)
    clear h1
    go_wp2
    go_ret
    exact ⟨by rw [HT.out]; rfl, HB1.out⟩
  · have d1 : decide (0 < v) = false := decide_eq_false (by omega)
    have HT : Hid (tellB T x = false) := Lib.hid (Bool.eq_false_iff.2 fun h => h1 (HV.out.1 h))
    clear h1
    go_wp2
    go_ret
    exact ⟨by rw [HT.out]; rfl, HB1.out⟩

theorem int_info : (Try.prog.info? 3).map (fun i => (i.zero, i.size, i.bytes)) = some (some (.int .i64 0), 1, 8) := by kernel_rfl
theorem own_base_le {w : World} {B n : Nat} {va : Value} {xs : List Value} {e : TypeId} (h : w.ownsRow B e 1 va n xs) : ∀ k, va.ownBlock = some k → B ≤ k := fun k hk => (h.lt k hk).1
/-- A row of ints of the call's own. -/
def OwnL (w : World) (B : Nat) (v : Value) (zs : List Int) : Prop := w.ownsRow B 3 1 v zs.length (zs.map (Value.int .i64))
theorem filter_snoc (p : Int → Bool) {L : List Int} {i : Nat} (h : i < L.length) : (L.take (i + 1)).filter p = (L.take i).filter p ++ (if p L[i] = true then [L[i]] else []) := by
  rw [List.take_add_one, List.getElem?_eq_getElem h, List.filter_append]
  simp only [Option.toList, List.filter_cons, List.filter_nil]

set_option maxHeartbeats 2000000 in
theorem only_ok {w : World} {B : Option Addr} {L : List Int} (cap : Nat) (hr : Row w B L) (g : Nat) (lb : Array Value) (p : Int → Bool) (eg : ∀ args w, (callFunc g args).run Try.prog w = .ok (.enter g args) w)
    (hp : ∀ W, Below w.heap.size w W → ∀ x ∈ L, Calls Try.prog g (#[.int .i64 x] ++ lb) W fun e w' => e = .returned (.bool (p x)) ∧ Below W.heap.size W w') :
    Calls Try.prog 45 #[.slice B L.length cap, .func (.func g) #[] lb] w fun e w' => ∃ v, e = .returned v ∧ OwnL w' w.heap.size v (L.filter p) ∧ Below w.heap.size w w' := by
  obtain ⟨i0, hi, hz0, hz1, hz2⟩ := info_parts int_info
  have hlen := hr.len
  have H := Lib.hid hr
  have HP := Lib.hid hp
  clear hr hp
  go_enter Try.func45, Try.ntmps45
  go_wp2
  go_loopg [9, 4] L.length (fun g v vo wr => ∃ i : Nat, i + g = L.length ∧ v = .int .i64 i ∧ OwnL wr w.heap.size vo ((L.take i).filter p) ∧ Below w.heap.size w wr)
  case atStart => exact ⟨0, by omega, rfl, World.ownsRow_nil _ _ _ _, Below.refl _ _⟩
  case round =>
    obtain ⟨i, hig, rfl, hown, hb⟩ := hrel
    have HO := Lib.hid hown
    have HB := Lib.hid hb
    clear hown hb
    cases gk with
    | zero =>
      obtain rfl : i = L.length := by omega
      have d1 : decide ((L.length : Int) < L.length) = false := by simp
      have HE := Lib.hid (show L.take L.length = L from List.take_length)
      go_wp2
      go_ret
      exact ⟨_, rfl, by have := HO.out; rwa [HE.out] at this, HB.out⟩
    | succ gk =>
      have hlt : i < L.length := by omega
      have d1 : decide ((i : Int) < L.length) = true := by simp; omega
      have t1 : (0 : Int) ≤ (i : Int) := by omega
      have t2 : (i : Int) < (L.length : Int) := by omega
      obtain ⟨b, off, hA, hbb, hcell⟩ := (H.out.below HB.out).at_.resolve_left (by omega)
      subst hA
      have y0 := hcell i hlt
      have KP := Lib.hid (HP.out wr HB.out L[i] (List.getElem_mem hlt))
      have HS := Lib.hid (filter_snoc p hlt)
      clear hcell
      generalize L[i] = x at *
      obtain ⟨fs, hfs⟩ : ∃ fs, (L.take i).filter p = fs := ⟨_, rfl⟩
      rw [hfs] at HO HS
      have hfl : fs.length ≤ 100000 := by
        rw [← hfs]
        have := List.length_filter_le p (L.take i)
        rw [List.length_take] at this
        omega
      clear hfs
      obtain ⟨r, hr⟩ : ∃ r, p x = r := ⟨_, rfl⟩
      rw [hr] at KP HS
      clear hr
      go_wp2_with fail
      refine KP.out.mono ?_
      rintro e w2 ⟨rfl, hb2⟩
      have HB2 := Lib.hid (HB.out.trans (hb2.mono HB.out.size))
      have HO2 : Hid (OwnL w2 w.heap.size _ fs) := Lib.hid (own_kept HO.out (Kept.of_below (S := fun _ => False) hb2) (fun _ _ h => h))
      clear hb2 y0
      cases r with
      | false =>
        go_wp2
        go_roundg gk
        case measure => omega
        case rel => exact ⟨i + 1, by omega, by go_num, by rw [HS.out]; simpa using HO2.out, HB2.out⟩
      | true =>
        have X1 := Lib.hid (show (fs.length + 1) * 8 ≤ 140737488355328 by omega)
        clear hfl
        go_wp2_with (at_builtin; refine list_push _ rfl (.tmp 16) (.tmp 18) 25 rfl w.heap.size 3 i0 (.int .i64 0) 1 8 Try.underlying25 hi hz0 hz1 hz2 rfl (by decide) _ fs.length (fs.map (Value.int .i64)) rfl (own_kept HO2.out ((Kept.refl (fun _ => False) w2).alloc _) (fun _ _ h => h)) w2.heap.size #[.int .i64 x] rfl (Blk.new w2 _ _) rfl (by intro u hu; rw [List.mem_singleton.1 hu]; rfl) X1.out (by decide) HB2.out.size ?_; intro ga ca w3 ho3 hg3 _ _; have HO3 := Lib.hid ho3; have HB3 := Lib.hid (Below.grown (HB2.out.alloc HB2.out.size _) hg3 (Nat.le_trans HB2.out.size (by simp)) (own_base_le HO2.out)); clear ho3 hg3)
        go_roundg gk
        case measure => omega
        case rel =>
          refine ⟨i + 1, by omega, by go_num, ?_, HB3.out⟩
          rw [HS.out]
          simp only [if_true]
          unfold OwnL
          rw [List.length_append, List.map_append]
          exact HO3.out

set_option maxRecDepth 100000 in
theorem euf_ok {w : World} {A B : Option Addr} {c : Nat} {T : List Nd} {L : List Int} (cap : Nat) (h : Tab w A T) (hc : T.length ≤ c) (hr : Row w B L) (hm : MayLits T L) :
    Calls Try.prog 20 #[.agg #[.slice A T.length c], .slice B L.length cap] w fun e w' => ∃ v, e = .returned v ∧ OwnL w' w.heap.size v (eufL T L) ∧ Below w.heap.size w w' := by
  have HP := Lib.hid (TabP.box h hc)
  have HB := Lib.hid (show Below w.heap.size w (w.alloc (.cells #[.slice A T.length c] 24)) from (Below.refl _ w).alloc (Nat.le_refl _) _)
  have HR := Lib.hid hr
  have HM := Lib.hid hm
  have KM := Lib.hid (may_ok cap (h.below HB.out) hc (hr.below HB.out))
  have c0 := HP.out.blk.cell 0
  simp only [List.getElem?_toArray, List.getElem?_cons_zero] at c0
  clear h hc hr hm
  go_enter Try.func20, Try.ntmps20
  go_wp2_with fail
  refine KM.out.mono ?_
  rintro e w1 ⟨r, rfl, hr, hb1⟩
  obtain rfl : r = true := hr.2 HM.out
  have HB1 := Lib.hid (HB.out.trans (hb1.mono HB.out.size))
  have HP1 := Lib.hid (HP.out.below hb1)
  clear hr hb1 c0
  go_wp2_with fail
  refine (args_ok HP1.out HM.out.1).mono ?_
  rintro e w2 ⟨M, rfl, hM, hb2⟩
  have HB2 := Lib.hid (HB1.out.trans (hb2.mono HB1.out.size))
  have HP2 := Lib.hid (HP1.out.below hb2)
  have HM2 := Lib.hid hM
  clear hM hb2
  go_wp2_with fail
  have hb3 : Below w2.heap.size w2 (w2.alloc (.cells #[.map (some M)] 61)) := (Below.refl _ w2).alloc (Nat.le_refl _) _
  have HB3 := Lib.hid (HB2.out.trans (hb3.mono HB2.out.size))
  have HBX := Lib.hid (Blk.new w2 61 #[.map (some M)])
  have HP3 := Lib.hid (HP2.out.below hb3)
  have HM3 := Lib.hid (HM2.out.below hb3)
  clear hb3
  refine (only_ok cap (HR.out.below HB3.out) 46 #[.pointer (some ⟨w.heap.size, 0, none⟩), .pointer (some ⟨w2.heap.size, 0, none⟩)] (tellB T) (enters_of Try.func46 (by kernel_rfl) rfl) (fun W hW x hx => euff_ok (HP3.out.below hW) (HBX.out.below hW HBX.out.lt) (HM3.out.below hW) (HM.out.2 x hx))).mono ?_
  rintro e w4 ⟨v, rfl, hv, hb4⟩
  have HV := Lib.hid hv
  have HB4 := Lib.hid (HB3.out.trans (hb4.mono HB3.out.size))
  have HS3 := Lib.hid HB3.out.size
  clear hv hb4
  obtain ⟨a, cp, rfl⟩ := own_slice HV.out
  go_wp2
  go_ret
  exact ⟨_, rfl, own_base HV.out (fun g hg => Nat.le_trans HS3.out (HV.out.lt g hg).1), HB4.out⟩
end Go.Proofs.Ytbgbhfmchpdkcaa

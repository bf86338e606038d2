/- Neg, Lemma, One. -/
import Derived.Test.YtbgbhfmchpdkcaaEvA
namespace Go.Proofs.Ytbgbhfmchpdkcaa
open Go.RowKit

def negG (x : Int) : Int := bits .xor .i64 x 1
theorem negG_pos {x : Int} (h0 : 0 ≤ x) (h1 : x < 9223372036854775808) : negG x = if x % 2 = 0 then x + 1 else x - 1 := i64_xor_one x h0 h1
theorem neg_ok (x : Int) (w : World) : Calls Try.prog 34 #[.int .i64 x] w fun e w' => e = .returned (.int .i64 (negG x)) ∧ w = w' := by
  go_enter Try.func34, Try.ntmps34
  go_wp2
  go_ret
  exact ⟨rfl, rfl⟩
theorem low_ok (x : Int) (w : World) : Calls Try.prog 36 #[.int .i64 x] w fun e w' => e = .returned (.bool (decide (x < 0))) ∧ w = w' := by
  generalize hq : decide (x < 0) = r
  go_enter Try.func36, Try.ntmps36
  go_wp2
  go_ret
  exact ⟨rfl, rfl⟩
def lowB (x : Int) : Bool := decide (x < 0)
theorem low_cont {w : World} {B : Option Addr} {zs : List Int} (cap : Nat) (hr : Row w B zs) :
    Calls Try.prog 35 #[.slice B zs.length cap, .func (.func 36) #[] #[]] w fun e w' => e = .returned (.bool (zs.any lowB)) ∧ ∃ k, w' = w.drewN k := by
  rcases hr.at_ with h0 | ⟨b, off, hA, hb, hc⟩
  · obtain rfl := List.length_eq_zero_iff.1 h0
    refine (Try.slices_ContainsFunc_empty (α := Int) B cap _ w).mono ?_
    rintro e w' ⟨rfl, rfl⟩
    exact ⟨rfl, 0, rfl⟩
  · subst hA
    have hp : PredAt Try.prog 36 #[] (Value.int .i64) lowB w := fun W x _ => by
      refine (low_ok x W).mono ?_
      rintro e w' ⟨rfl, rfl⟩
      exact ⟨rfl, 0, rfl⟩
    refine (Try.slices_ContainsFunc (Value.int .i64) lowB 36 #[] (enters_of Try.func36 (by kernel_rfl) rfl) b off zs.length cap zs w hp (Nat.le_refl _) (by have := hr.len; omega) (fun j hj => by rw [hc j hj, getElem!_pos zs j hj])).mono ?_
    rintro e w' ⟨rfl, k, rfl⟩
    exact ⟨by rw [List.take_length], k, rfl⟩
theorem any_low {c : List Int} : c.any lowB = false ↔ ∀ x ∈ c, 0 ≤ x := by
  rw [List.any_eq_false]
  unfold lowB
  exact ⟨fun h x hx => by have := h x hx; simp at this; exact this, fun h x hx => by have := h x hx; simp; exact this⟩
/-- What Lemma tells. -/
def LemL (T : List Nd) (c : List Int) : Prop := (∀ x ∈ c, 0 ≤ x) ∧ BadL T (c.map negG)

set_option maxRecDepth 100000 in
set_option maxHeartbeats 2000000 in
theorem lemma_ok {w : World} {A B : Option Addr} {c : Nat} {T : List Nd} {L : List Int} (cap : Nat) (h : Tab w A T) (hc : T.length ≤ c) (hT1 : T.length ≤ 100) (hL1 : L.length ≤ 300) (hr : Row w B L) :
    Calls Try.prog 14 #[.agg #[.slice A T.length c], .slice B L.length cap] w (TestIs (LemL T L) w) := by
  obtain ⟨i0, hi, hz0, hz1, hz2⟩ := info_parts int_info
  have HB := Lib.hid (show Below w.heap.size w (w.alloc (.cells #[.slice A T.length c] 24)) from (Below.refl _ w).alloc (Nat.le_refl _) _)
  have HBX := Lib.hid (Blk.new w 24 #[.slice A T.length c])
  have HT := Lib.hid h
  have HR := Lib.hid hr
  have HCap := Lib.hid hc
  clear h hr hc
  go_enter Try.func14, Try.ntmps14
  go_wp2
  go_loopg [13, 5] L.length (fun g v vo wr => ∃ i : Nat, i + g = L.length ∧ v = .int .i64 i ∧ OwnL wr w.heap.size vo ((L.take i).map negG) ∧ Below w.heap.size w wr ∧ Blk wr w.heap.size 24 #[.slice A T.length c])
  case atStart => exact ⟨0, by omega, rfl, World.ownsRow_nil _ _ _ _, HB.out, HBX.out⟩
  case round =>
    obtain ⟨i, hig, rfl, hown, hb, hbl⟩ := hrel
    have HO := Lib.hid hown
    have HBW := Lib.hid hb
    have HX := Lib.hid hbl
    clear hb hbl
    cases gk with
    | zero =>
      obtain rfl : i = L.length := by omega
      have d1 : decide ((L.length : Int) < L.length) = false := by simp
      have hO2 := HO.out
      rw [List.take_length] at hO2
      have hln : (L.map negG).length = L.length := by simp
      have hn3 : (L.map negG).length ≤ 300 := by omega
      obtain ⟨A2, cap2, hv, hrow, _, _⟩ := hO2.row (by omega)
      subst hv
      have HRow := Lib.hid hrow
      have HN3 := Lib.hid hn3
      clear hown hO2 HO hrow hln hn3
      obtain ⟨r, hr⟩ : ∃ r, L.any lowB = r := ⟨_, rfl⟩
      have HRL := Lib.hid hr
      have KC := Lib.hid (low_cont cap (HR.out.below HBW.out))
      rw [hr] at KC
      have cx := HX.out.cell 0
      have hls := HX.out.lt
      simp only [List.getElem?_toArray, List.getElem?_cons_zero] at cx
      clear hr
      obtain ⟨M, hM⟩ : ∃ M, L.map negG = M := ⟨_, rfl⟩
      have HMM := Lib.hid hM
      rw [hM] at HRow HN3 ⊢
      clear hM
      go_wp2_with fail
      refine KC.out.mono ?_
      rintro e w2 ⟨rfl, kd, rfl⟩
      cases r with
      | true =>
        go_wp2
        go_ret
        exact TestIs.no (fun hl => by have := any_low.2 hl.1; rw [HRL.out] at this; cases this) (below_drewN HBW.out _)
      | false =>
        have HB2 := Lib.hid (below_drewN HBW.out kd)
        have KL := Lib.hid (close_ok cap2 (HT.out.below HB2.out) HCap.out hT1 HN3.out (HRow.out.below (below_drewN (Below.refl _ _) kd)))
        go_wp2_with fail
        refine KL.out.mono ?_
        rintro e w3 ⟨v3, cs, bd, er, rfl, ho3, hb3, hbd, _⟩
        have HB3 := Lib.hid (HB2.out.trans (hb3.mono HB2.out.size))
        have HBD := Lib.hid hbd
        obtain ⟨a3, cp3, rfl⟩ := own_slice ho3
        clear hb3 hbd ho3
        go_wp2
        go_ret
        refine ⟨bd, rfl, ?_, HB3.out⟩
        rw [HBD.out]
        unfold LemL
        rw [HMM.out]
        exact ⟨fun h => ⟨any_low.1 HRL.out, h⟩, fun h => h.2⟩
    | succ gk =>
      have hlt : i < L.length := by omega
      have d1 : decide ((i : Int) < L.length) = true := by simp; omega
      have t1 : (0 : Int) ≤ (i : Int) := by omega
      have t2 : (i : Int) < (L.length : Int) := by omega
      obtain ⟨b, off, hA, hbb, hcell⟩ := (HR.out.below HBW.out).at_.resolve_left (by omega)
      subst hA
      have y0 := hcell i hlt
      have HS := Lib.hid (show (L.take (i + 1)).map negG = (L.take i).map negG ++ [negG L[i]] by rw [List.take_add_one, List.getElem?_eq_getElem hlt, List.map_append]; rfl)
      clear hcell hown
      generalize L[i] = x at *
      obtain ⟨fs, hfs⟩ : ∃ fs, (L.take i).map negG = fs := ⟨_, rfl⟩
      rw [hfs] at HO HS
      have X1 : Hid ((fs.length + 1) * 8 ≤ 140737488355328) := Lib.hid (by
        rw [← hfs, List.length_map, List.length_take]
        omega)
      clear hfs
      go_wp2_with fail
      refine (neg_ok x wr).mono ?_
      rintro e w2 ⟨rfl, rfl⟩
      go_wp2_with (at_builtin; refine list_push _ rfl (.tmp 17) (.tmp 20) 25 rfl w.heap.size 3 i0 (.int .i64 0) 1 8 Try.underlying25 hi hz0 hz1 hz2 rfl (by decide) _ fs.length (fs.map (Value.int .i64)) rfl (own_kept HO.out ((Kept.refl (fun _ => False) wr).alloc _) (fun _ _ h => h)) wr.heap.size #[.int .i64 (negG x)] rfl (Blk.new wr _ _) rfl (by intro u hu; rw [List.mem_singleton.1 hu]; rfl) X1.out (by decide) HBW.out.size ?_; intro ga ca w3 ho3 hg3 _ _; have HO3 := Lib.hid ho3; have HB3 := Lib.hid (Below.grown (HBW.out.alloc HBW.out.size _) hg3 (Nat.le_trans HBW.out.size (by simp)) (own_base_le HO.out)); have HX3 := Lib.hid ((HX.out.alloc (.cells #[.int .i64 (negG x)] 3)).grown hg3 (fun e => own_blk_ne HO.out HX.out (by decide) e.symm)); clear ho3 hg3)
      go_roundg gk
      case measure => omega
      case rel =>
        refine ⟨i + 1, by omega, by go_num, ?_, HB3.out, HX3.out⟩
        rw [HS.out]
        unfold OwnL
        rw [List.length_append, List.map_append]
        exact HO3.out
end Go.Proofs.Ytbgbhfmchpdkcaa

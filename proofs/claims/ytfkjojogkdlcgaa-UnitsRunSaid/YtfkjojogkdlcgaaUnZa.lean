/- Values: the walk. -/
import Derived.Test.YtfkjojogkdlcgaaUnZ
namespace Go.Proofs.Ytfkjojogkdlcgaa
open Go.RowKit Go.Lib

structure Vals (w wr : World) (va : Value) (A puts : List Int) : Prop where
  vv : VV wr w.heap.size w.heap.size va A
  rep : Rep A puts
  ok : LitsOk puts
  most : A.length ≤ 600000
  bel : Below w.heap.size w wr
theorem Vals.put {w wr w2 : World} {va va' : Value} {A A' puts puts' : List Int} {q : Nat} (h : Vals w wr va A puts) (hs : SetPost wr w2 w.heap.size w.heap.size va A puts' va' A' q) (hok : LitsOk puts') (hq : q ≤ 524288) : Vals w w2 va' A' puts' := by
  refine ⟨hs.vv, hs.rep, hok, ?_, h.bel.trans (hs.kept.below h.bel.size fun k hk => ?_)⟩
  · rcases hs.most with e | e
    · have := h.most; omega
    · omega
  · rcases hk with e | e
    · rw [e]; exact Nat.le_refl _
    · exact (h.vv.own.lt k e).1
theorem VV.form {w : World} {B g : Nat} {va : Value} {A : List Int} (h : VV w B g va A) (hl : A.length ≤ 1000000) : ∃ AA cap, va = .slice AA A.length cap ∧ Row .i8 w AA A ∧ A.length ≤ cap ∧ (AA = none → cap = 0) := by
  rcases h.own.2 with ⟨rfl, h0⟩ | ⟨ga, cap, cur, rfl, hb, hh, hc, hM, hs, ht⟩
  · exact ⟨none, 0, by rw [h0], ⟨hl, .inl h0⟩, by omega, fun _ => rfl⟩
  · refine ⟨_, cap, rfl, ⟨hl, .inr ⟨ga, 0, rfl, (Array.getElem?_eq_some_iff.1 hh).1, fun i hi => ?_⟩⟩, hc, fun h => by cases h⟩
    rw [Nat.zero_add]
    exact h.cell hi
theorem row_take8 {w : World} {AA : Option Addr} {A : List Int} (h : Row .i8 w AA A) (m : Nat) : Row .i8 w AA (A.take m) := by
  refine ⟨by rw [List.length_take]; have := h.len; omega, ?_⟩
  rcases h.at_ with h0 | ⟨b, off, e, hb, hc⟩
  · exact .inl (by rw [List.length_take]; omega)
  · refine .inr ⟨b, off, e, hb, fun i hi => ?_⟩
    rw [List.length_take] at hi
    rw [hc i (by omega), List.getElem_take]

set_option maxRecDepth 100000 in
set_option maxHeartbeats 4000000 in
theorem values_ok {w : World} {ZA : Option Addr} {zs : List Int} (cap : Nat) (h : Row .i64 w ZA zs) :
    Calls Try.prog 24 #[.slice ZA zs.length cap] w fun e w' => ∃ AA T, e = .returned (.slice AA (nodesLen (putsM zs [])) (nodesLen (putsM zs []))) ∧ T.length = nodesLen (putsM zs []) ∧ Row .i8 w' AA T ∧ Rep T (putsM zs []) ∧ Below w.heap.size w w' := by
  have hlen := h.len
  have H := Lib.hid h
  clear h
  go_enter Try.func24, Try.ntmps24
  go_wp2
  go_loopw [10, 4] (fun vi vm wr => ∃ (i : Nat) (va : Value) (A puts : List Int) (mt : Int), i ≤ zs.length ∧ vi = .int .i64 i ∧ vm = .int .i64 mt ∧ mt + 1 = nodesLen puts ∧ Vals w wr va A puts ∧ putsM (zs.drop i) puts = putsM zs []) (fun vi _ _ => (zs.length - intOf vi).toNat)
  case atStart => exact ⟨0, .slice none 0 0, [], [], -1, Nat.zero_le _, rfl, rfl, rfl, ⟨⟨Blk.new w _ _, World.ownsRow_nil _ _ _ _, Nat.le_refl _⟩, (fun n => by simp [valL]), LitsOk.nil, by simp, (Below.refl _ w).alloc (Nat.le_refl _) _⟩, rfl⟩
  case round =>
    obtain ⟨i, va, A, puts, mt, hi, rfl, rfl, hmt, hV, hinv⟩ := hrel
    have hns := nodes_small hV.ok
    have HV := Lib.hid hV
    have Hmt := Lib.hid hmt
    by_cases hlt : i < zs.length
    · have d1 : decide ((i : Int) < zs.length) = true := by simp; omega
      obtain ⟨b, off, hA, hb, hcell⟩ := H.out.at_.resolve_left (by omega)
      subst hA
      have Hc := Lib.hid (fun W (h : Below w.heap.size w W) => (h.cell (p := ⟨b, off + i, none⟩) hb).trans (hcell i hlt))
      have y0 := Hc.out _ hV.bel
      have hdr : putsM (zs[i] :: zs.drop (i + 1)) puts = putsM zs [] := by rw [← List.drop_eq_getElem_cons hlt]; exact hinv
      have Hdr := Lib.hid hdr
      have t1 : (0 : Int) ≤ (i : Int) := by omega
      have t2 : (i : Int) < (zs.length : Int) := by omega
      have t3 : -1 ≤ mt := by omega
      have t4 : mt ≤ 600000 := by omega
      clear hcell hdr hinv hV hmt
      generalize zs[i] = x at *
      have Kw := wide_ok x wr
      by_cases hw : wideM x = true
      · rw [hw] at Kw
        have Hg := Lib.hid (show putsM (x :: zs.drop (i + 1)) puts = putsM (zs.drop (i + 1)) puts by conv => lhs; unfold putsM; rw [if_pos hw])
        clear hw
        go_wp2_with (go_at_call 27; (with_reducible refine Kw.mono ?_); rintro e w2 ⟨rfl, rfl⟩)
        go_roundw
        case rel => exact ⟨i + 1, va, A, puts, mt, by omega, by go_num, rfl, Hmt.out, HV.out, by rw [← Hg.out, Hdr.out]⟩
        case measure => simp only [intOf]; omega
      have hwf : wideM x = false := by simpa using hw
      have hxr := (wide_iff x).1 hwf
      rw [hwf] at Kw
      have Hw := Lib.hid hw
      obtain ⟨q, hq⟩ : ∃ q : Nat, x / 2 = q := ⟨(x / 2).toNat, by omega⟩
      have Ks := set_ok HV.out.vv HV.out.rep hq hxr.1 hxr.2 HV.out.most
      have Hq := Lib.hid (show q ≤ 524288 by omega)
      clear hw hwf
      by_cases hv : valL puts x = 0
      · have Hg := Lib.hid (show putsM (x :: zs.drop (i + 1)) puts = putsM (zs.drop (i + 1)) (puts ++ [x]) by conv => lhs; unfold putsM; rw [if_neg Hw.out, if_pos hv])
        rw [show decide (valL puts x = 0) = true from decide_eq_true hv, show afterSet puts x = puts ++ [x] by unfold afterSet; rw [if_pos hv]] at Ks
        have Hok := Lib.hid (HV.out.ok.push hxr hv)
        have Hnl := Lib.hid (nodesLen_push puts hq)
        clear hv hxr
        go_upto_region 6 with (first
          | (go_at_call 27; (with_reducible refine Kw.mono ?_); rintro e w2 ⟨rfl, rfl⟩)
          | (go_at_call 29; (with_reducible refine Ks.mono ?_); rintro e w2 ⟨rfl, va', A', hs, _⟩; have HS := Lib.hid (HV.out.put hs Hok.out Hq.out); clear hs))
        have y1 := Hc.out _ HS.out.bel
        have hmx : ∃ mt2 : Int, max mt (q : Int) = mt2 ∧ mt2 + 1 = nodesLen (puts ++ [x]) := by
          refine ⟨_, rfl, ?_⟩
          rw [Hnl.out]
          have := Hmt.out
          show max mt (q : Int) + 1 = ((max (nodesLen puts) (q + 1) : Nat) : Int)
          omega
        obtain ⟨mt2, hm1, hm2⟩ := hmx
        have Hm2 := Lib.hid hm2
        clear hm2
        go_wp2
        go_roundw
        case rel => exact ⟨i + 1, va', A', puts ++ [x], _, by omega, by go_num, rfl, Hm2.out, HS.out, by rw [← Hg.out, Hdr.out]⟩
        case measure => simp only [intOf]; omega
      · have Hg := Lib.hid (show putsM (x :: zs.drop (i + 1)) puts = putsM (zs.drop (i + 1)) puts by conv => lhs; unfold putsM; rw [if_neg Hw.out, if_neg hv])
        rw [show decide (valL puts x = 0) = false from decide_eq_false hv, show afterSet puts x = puts by unfold afterSet; rw [if_neg hv]] at Ks
        clear hv hxr
        go_wp2_with (first
          | (go_at_call 27; (with_reducible refine Kw.mono ?_); rintro e w2 ⟨rfl, rfl⟩)
          | (go_at_call 29; (with_reducible refine Ks.mono ?_); rintro e w2 ⟨rfl, va', A', hs, _⟩; have HS := Lib.hid (HV.out.put hs HV.out.ok Hq.out); clear hs))
        go_roundw
        case rel => exact ⟨i + 1, va', A', puts, mt, by omega, by go_num, rfl, Hmt.out, HS.out, by rw [← Hg.out, Hdr.out]⟩
        case measure => simp only [intOf]; omega
    · obtain rfl : i = zs.length := by omega
      have d1 : decide ((zs.length : Int) < zs.length) = false := by simp
      rw [List.drop_length] at hinv
      have hp : puts = putsM zs [] := hinv
      have hnl := nodes_le hV.rep hV.ok
      obtain ⟨AA, ac, rfl, hrA, hac, han⟩ := hV.vv.form (by have := hV.most; omega)
      have Kt := tight_ok (w := wr) ac (nodesLen puts) mt hmt hnl hac (by have := hV.most; omega) han
      have y0 : wr.cell? ⟨w.heap.size, 0, none⟩ = some (.slice AA A.length ac) := hV.vv.blk.cell 0
      have Hfin := Lib.hid (show (A.take (nodesLen puts)).length = nodesLen puts ∧ Row .i8 wr AA (A.take (nodesLen puts)) ∧ Rep (A.take (nodesLen puts)) puts ∧ Below w.heap.size w wr from ⟨by rw [List.length_take]; omega, row_take8 hrA _, rep_take hV.rep hV.ok, hV.bel⟩)
      have Hp := Lib.hid hp
      clear hinv hp hnl hrA hac han hV hmt
      go_wp2_with (go_at_call 39; (with_reducible refine Kt.mono ?_); rintro e w2 ⟨rfl, rfl⟩)
      go_ret
      rw [← Hp.out]
      exact ⟨AA, _, rfl, Hfin.out.1, Hfin.out.2.1, Hfin.out.2.2.1, Hfin.out.2.2.2⟩
end Go.Proofs.Ytfkjojogkdlcgaa

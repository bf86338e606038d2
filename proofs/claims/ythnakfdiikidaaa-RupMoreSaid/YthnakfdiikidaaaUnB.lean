/- values: set. -/
import Derived.Test.YthnakfdiikidaaaUnA
import Derived.Deep.RegionHeldLaw
namespace Go.Proofs.Ythnakfdiikidaaa
open Go.RowKit Go.Lib

/-- Values by node, as they lie in memory. -/
structure VV (w : World) (B g : Nat) (va : Value) (A : List Int) : Prop where
  blk : Blk w g 61 #[va]
  own : w.ownsRow B 40 1 va A.length (A.map (Value.int .i8))
  low : B ≤ g
theorem int8_info : (Try.prog.info? 40).map (fun i => (i.zero, i.size, i.bytes)) = some (some (.int .i8 0), 1, 1) := by kernel_rfl

def afterSet (lits : List Int) (lit : Int) : List Int := if valL lits lit = 0 then lits ++ [lit] else lits
structure SetPost (w w' : World) (B g : Nat) (va : Value) (A lits : List Int) (va' : Value) (A' : List Int) (q : Nat) : Prop where
  vv : VV w' B g va' A'
  rep : Rep A' lits
  most : A'.length = A.length ∨ A'.length ≤ q + 16
  kept : Kept (fun b => b = g ∨ va.ownBlock = some b) w w'
  old : ∀ b, va'.ownBlock = some b → va.ownBlock = some b ∨ w.heap.size ≤ b
theorem VV.own_ne {w : World} {B g : Nat} {va : Value} {A : List Int} (h : VV w B g va A) : va.ownBlock ≠ some g := own_blk_ne h.own h.blk (by decide)
theorem VV.hB {w : World} {B g : Nat} {va : Value} {A : List Int} (h : VV w B g va A) : B ≤ w.heap.size := Nat.le_trans h.low (Nat.le_of_lt h.blk.lt)
theorem VV.cell {w : World} {B g ga cap : Nat} {A : List Int} (h : VV w B g (.slice (some ⟨ga, 0, none⟩) A.length cap) A) {i : Nat} (hi : i < A.length) : w.cell? ⟨ga, i, none⟩ = some (.int .i8 A[i]) := by
  rw [h.own.cellAt i (by omega), List.getElem?_map, List.getElem?_eq_getElem hi]
  rfl
theorem set_zero {lits : List Int} {lit : Int} {q : Nat} (hq : lit / 2 = q) : valL lits (2 * q) = 0 ↔ valL lits lit = 0 := by
  rw [valL_zero, valL_zero]
  by_cases hp : lit % 2 = 0
  · have : 2 * (q : Int) = lit := by omega
    rw [this]
  · have e : 2 * (q : Int) = negM lit := by unfold negM; rw [if_neg hp]; omega
    rw [e, negM_negM]
    exact ⟨fun ⟨a, b⟩ => ⟨b, a⟩, fun ⟨a, b⟩ => ⟨b, a⟩⟩
theorem own_setFar {w : World} {base n g i : Nat} {e : TypeId} {size : Nat} {v : Value} {xs : List Value} (h : w.ownsRow base e size v n xs) (hne : v.ownBlock ≠ some g) (u : Value) : (w.setCell ⟨g, i, none⟩ u).ownsRow base e size v n xs :=
  own_kept h (Kept.set1 w g i u) fun b hb hb2 => hne (by rw [hb]; exact congrArg some hb2)
theorem SetPost.push {w wr W1 wa : World} {B g : Nat} {va : Value} {A lits : List Int} {ad : Option Addr} {cap : Nat} {A' : List Int} {q ga ca : Nat} (h : SetPost w wr B g va A lits (.slice ad A'.length cap) A' q) (hc : A'.length ≤ q) (hb : Below wr.heap.size wr W1) (hg : W1.grownBy wa (Value.slice ad A'.length cap).ownBlock)
    (ho : wa.ownsRow B 40 1 (.slice (some ⟨ga, 0, none⟩) (A'.length + 16) ca) (A'.length + 16) (A'.map (Value.int .i8) ++ List.replicate 16 (Value.int .i8 0))) (hat : (Value.slice ad A'.length cap).ownBlock = some ga ∨ ga = wr.heap.size + 1) :
    SetPost w (wa.setCell ⟨g, 0, none⟩ (.slice (some ⟨ga, 0, none⟩) (A'.length + 16) ca)) B g va A lits (.slice (some ⟨ga, 0, none⟩) (A'.length + 16) ca) (A' ++ List.replicate 16 0) q := by
  have hlt := h.vv.blk.lt
  have hne := h.vv.own_ne
  have hwW : wr.heap.size ≤ W1.heap.size := hb.size
  have hk1 : Kept (fun b => b = g ∨ va.ownBlock = some b) w wa := (h.kept.then_below hb).grown hg fun k hk => by
    rcases h.old k hk with h1 | h1
    · exact .inl (.inr h1)
    · exact .inr h1
  have hgne : g ≠ ga := by
    rintro rfl
    rcases hat with h1 | h1
    · exact hne h1
    · omega
  refine ⟨⟨?_, ?_, h.vv.low⟩, rep_grow h.rep 16, .inr (by rw [List.length_append, List.length_replicate]; omega), hk1.setCell (.inl (.inl rfl)) _, fun b hb' => ?_⟩
  · exact ((h.vv.blk.below hb hlt).grown hg (by rintro e; exact hne e.symm)).set_ 0 _
  · have e1 : (A' ++ List.replicate 16 0).map (Value.int .i8) = A'.map (Value.int .i8) ++ List.replicate 16 (Value.int .i8 0) := by rw [List.map_append, List.map_replicate]
    have e2 : (A' ++ List.replicate 16 (0 : Int)).length = A'.length + 16 := by rw [List.length_append, List.length_replicate]
    rw [e1, e2]
    exact own_setFar ho (by rintro e; injection e with e; exact hgne e.symm) _
  · have e : ga = b := by injection hb'
    rw [← e]
    rcases hat with h1 | h1
    · exact h.old ga h1
    · have := h.kept.size
      exact .inr (by omega)
theorem SetPost.put {w wr : World} {B g : Nat} {va : Value} {A lits : List Int} {A' : List Int} {q ga cap : Nat} {lit : Int} (h : SetPost w wr B g va A lits (.slice (some ⟨ga, 0, none⟩) A'.length cap) A' q) (hq : lit / 2 = q) (hl : q < A'.length) (hv : valL lits lit = 0) (u : Int) (hu : u = 1 + lit % 2) :
    SetPost w (wr.setCell ⟨ga, q, none⟩ (.int .i8 u)) B g va A (lits ++ [lit]) (.slice (some ⟨ga, 0, none⟩) A'.length cap) (A'.set q u) q ∧ q < (A'.set q u).length := by
  subst hu
  have hgne : g ≠ ga := fun e => h.vv.own_ne (by rw [e]; rfl)
  have hs := (h.vv.own.stored q (.int .i8 (1 + lit % 2))).1
  refine ⟨⟨⟨h.vv.blk.far hgne _, ?_, h.vv.low⟩, rep_set h.rep hv hq hl, by rw [List.length_set]; exact h.most, h.kept.setCell ?_ _, h.old⟩, by rw [List.length_set]; exact hl⟩
  · rw [List.length_set, List.map_set]
    exact hs
  · rcases h.old ga rfl with h1 | h1
    · exact .inl (.inr h1)
    · exact .inr h1

set_option maxHeartbeats 2000000 in
theorem set_ok {w : World} {B g : Nat} {va : Value} {A lits : List Int} {lit : Int} {q : Nat} (h : VV w B g va A) (hr : Rep A lits) (hq : lit / 2 = q) (h0 : 0 ≤ lit) (hl : lit ≤ 1048576) (hA : A.length ≤ 600000) :
    Calls Try.prog 45 #[.pointer (some ⟨g, 0, none⟩), .int .i64 lit] w fun e w' => e = .returned (.bool (decide (valL lits lit = 0))) ∧ ∃ va' A', SetPost w w' B g va A (afterSet lits lit) va' A' q ∧ q < A'.length := by
  obtain ⟨i0, hi, hz0, hz1, hz2⟩ := info_parts int8_info
  have H := Lib.hid h
  have Hr := Lib.hid hr
  clear h hr
  have hq2 : q ≤ 524288 := by omega
  have Hsz := Lib.hid (set_zero (lits := lits) hq)
  have Hps := Lib.hid hq
  go_enter Try.func45, Try.ntmps45
  go_wp2
  go_loopg [9] (q + 1) (fun n _ wr => ∃ (va' : Value) (A' : List Int), SetPost w wr B g va A lits va' A' q ∧ q + 1 ≤ n + A'.length)
  case atStart => exact ⟨va, A, ⟨H.out, Hr.out, .inl rfl, Kept.refl _ _, fun b hb => .inl hb⟩, by omega⟩
  case round =>
    obtain ⟨va', A', hP, hlen⟩ := hrel
    have y0 : wr.cell? ⟨g, 0, none⟩ = some va' := hP.vv.blk.cell 0
    by_cases hc : A'.length ≤ q
    · cases gk with
      | zero => omega
      | succ n =>
        have hV := hP.vv
        have hVb := hV.blk
        have HP := Lib.hid hP
        obtain ⟨ad, cap, rfl⟩ := own_slice hV.own
        have d1 : decide ((A'.length : Int) ≤ (q : Int)) = true := by simp; omega
        have hA2 : A'.length ≤ 600000 := by omega
        clear hP
        go_upto_region 4 with (fail)
        have hown := hV.own.alloc (.cells (List.replicate 16 (Value.int .i8 0)).toArray 64)
        have hVb2 := hVb.alloc (.cells (List.replicate 16 (Value.int .i8 0)).toArray 64)
        have hmore := Blk.new wr 64 (List.replicate 16 (Value.int .i8 0)).toArray
        have hW : (wr.alloc (.cells (List.replicate 16 (Value.int .i8 0)).toArray 64)).heap.size = wr.heap.size + 1 := by simp
        have hbel : Below wr.heap.size wr (wr.alloc (.cells (List.replicate 16 (Value.int .i8 0)).toArray 64)) := (Below.refl _ wr).alloc (Nat.le_refl _) _
        generalize hW1 : World.alloc wr _ = W1
        have e16 : W1 = wr.alloc (.cells (List.replicate 16 (Value.int .i8 0)).toArray 64) := hW1.symm
        clear hW1
        rw [← e16] at hown hVb2 hmore hW hbel
        clear e16
        have y1 : W1.cell? ⟨g, 0, none⟩ = some (.slice ad A'.length cap) := hVb2.cell 0
        have f1 : W1.frozen? ⟨g, 0, none⟩ = false := hVb2.frozen 0
        have Hown := Lib.hid hown
        have HW := Lib.hid hW
        have Hmore := Lib.hid hmore
        have Hlt := Lib.hid hV.hB
        have HVb2 := Lib.hid hVb2
        have Hbel := Lib.hid hbel
        have Hc := Lib.hid hc
        have Hlen := Lib.hid hlen
        clear hown hVb2 hmore hW hV hVb hbel y0
        have X1 := Lib.hid (show A'.length + 16 ≤ maxLen by unfold maxLen; omega)
        have X2 := Lib.hid (show (A'.length + 16) * 1 ≤ 140737488355328 by omega)
        have X3 := Lib.hid (show B ≤ W1.drew.heap.size by show B ≤ W1.heap.size; rw [HW.out]; have := Hlt.out; omega)
        go_region_law
          ((refine step_append_lies W1.drew (by rfl) (.tmp 21) (.tmp 22) 26 (by rfl) B 40 i0 (.int .i8 0) 1 1 Try.underlying26 hi hz0 hz1 hz2 rfl (by decide) (.slice ad A'.length cap) A'.length (A'.map (Value.int .i8)) (by rfl) Hown.out ⟨wr.heap.size, 0, none⟩ 16 16 (List.replicate 16 (Value.int .i8 0)) (by rfl) (by rfl) (World.news_of_block Hmore.out) (by decide) (by decide) X1.out X2.out X3.out (wr.heap.size + 1) HW.out ?_; intro ga ca wa hown1 hgrow hat hlt; have y2 : wa.cell? ⟨g, 0, none⟩ = some (.slice ad A'.length cap) := (HVb2.out.grown (grown_undrew hgrow) (own_blk_ne Hown.out HVb2.out (by decide)).symm).cell 0; have f2 : wa.frozen? ⟨g, 0, none⟩ = false := (HVb2.out.grown (grown_undrew hgrow) (own_blk_ne Hown.out HVb2.out (by decide)).symm).frozen 0; have Hown1 := Lib.hid hown1; have Hgrow := Lib.hid (grown_undrew hgrow); have Hat := Lib.hid hat; have Hltg := Lib.hid hlt; clear hown1 hgrow hat hlt))
        go_wp2
        go_roundg n
        case measure => omega
        case rel => exact ⟨_, _, HP.out.push Hc.out Hbel.out Hgrow.out Hown1.out Hat.out, by rw [List.length_append, List.length_replicate]; have := Hlen.out; omega⟩
    · have d1 : decide ((A'.length : Int) ≤ (q : Int)) = false := by simp; omega
      obtain ⟨ga, cap, rfl, _, _, hcap⟩ := own_form hP.vv.own (by omega)
      have y1 := hP.vv.cell (show q < A'.length by omega)
      have hrq := hP.rep q
      rw [List.getElem?_eq_getElem (by omega : q < A'.length)] at hrq
      have hrq : A'[q]'(by omega) = valL lits (2 * q) := hrq
      rw [hrq] at y1
      have hfr := own_frozen hP.vv.own q
      have HP := Lib.hid hP
      have t1 : (0 : Int) ≤ (q : Int) := by omega
      have t2 : (q : Int) < (A'.length : Int) := by omega
      have Hc := Lib.hid (show q < A'.length by omega)
      have hand : bits .and .i64 lit 1 = lit % 2 := i64_and_one lit h0 (by omega)
      clear hP hrq hlen
      by_cases hv : valL lits lit = 0
      · rw [(Hsz.out).2 hv] at y1
        have e1 : decide (valL lits lit = 0) = true := decide_eq_true hv
        have e2 : afterSet lits lit = lits ++ [lit] := by unfold afterSet; rw [if_pos hv]
        have E1 := Lib.hid e1
        have E2 := Lib.hid e2
        have Hv := Lib.hid hv
        clear e1 e2 hv
        have Hset := Lib.hid (show ∀ u : Int, u = 1 + lit % 2 → SetPost w (wr.setCell ⟨ga, q, none⟩ (.int .i8 u)) B g va A (lits ++ [lit]) (.slice (some ⟨ga, 0, none⟩) A'.length cap) (A'.set q u) q ∧ q < (A'.set q u).length from fun u hu => HP.out.put Hps.out Hc.out Hv.out u hu)
        rcases (show lit % 2 = 0 ∨ lit % 2 = 1 by omega) with hp | hp
        · rw [hp] at hand
          have Hp := Lib.hid hp
          clear hp
          go_wp2
          go_ret
          exact ⟨by rw [E1.out]; rfl, _, _, by rw [E2.out]; exact Hset.out 1 (by rw [Hp.out]; rfl)⟩
        · rw [hp] at hand
          have Hp := Lib.hid hp
          clear hp
          go_wp2
          go_ret
          exact ⟨by rw [E1.out]; rfl, _, _, by rw [E2.out]; exact Hset.out 2 (by rw [Hp.out]; rfl)⟩
      · have e1 : decide (valL lits lit = 0) = false := decide_eq_false hv
        have e2 : afterSet lits lit = lits := by unfold afterSet; rw [if_neg hv]
        have e3 : (valL lits (2 * q) != 0) = true := by simpa using fun h => hv ((Hsz.out).1 h)
        have E1 := Lib.hid e1
        have E2 := Lib.hid e2
        clear e1 e2 hv
        generalize valL lits (2 * q) = v at *
        go_wp2
        go_ret
        exact ⟨by rw [E1.out]; rfl, _, _, by rw [E2.out]; exact HP.out, Hc.out⟩
end Go.Proofs.Ythnakfdiikidaaa

/- wide, plain. -/
import Derived.Test.YtfkjojogkdlcgaaUnQ
namespace Go.Proofs.Ytfkjojogkdlcgaa
open Go.RowKit Go.Lib Go.Sort

theorem wide_ok (x : Int) (w : World) : Calls Try.prog 27 #[.int .i64 x] w fun e w' => e = .returned (.bool (wideM x)) ∧ w = w' := by
  unfold wideM
  by_cases h0 : x < 0
  · have d0 : decide (x < (0 : Int)) = true := decide_eq_true h0
    rw [d0, Bool.true_or]
    clear h0
    go_enter Try.func27, Try.ntmps27
    go_wp2
    go_ret
    exact ⟨rfl, rfl⟩
  · have d0 : decide (x < (0 : Int)) = false := decide_eq_false h0
    rw [d0, Bool.false_or]
    generalize hq : decide ((1048576 : Int) < x) = q
    clear h0
    go_enter Try.func27, Try.ntmps27
    go_wp2
    go_ret
    exact ⟨rfl, rfl⟩

theorem delete_p {f : Nat} {p : Int → Bool} (hf : ∀ W x, FnGives Try.prog f #[] #[.int .i64 x] (.bool (p x)) W) (eg : ∀ args w, (callFunc f args).run Try.prog w = .ok (.enter f args) w)
    {w : World} {base : Nat} {v : Value} {zs : List Int} (ho : w.ownsRow base 3 1 v zs.length (zs.map (Value.int .i64))) (hsz : zs.length ≤ 9223372036854775807) (hbs : base ≤ w.heap.size) :
    Calls Try.prog 40 #[v, .func (.func f) #[] #[]] w fun e w' => ∃ v', e = .returned v' ∧ w'.ownsRow base 3 1 v' (zs.filter fun x => !p x).length ((zs.filter fun x => !p x).map (Value.int .i64)) ∧ Below base w w' := by
  rcases own_cases ho rfl with ⟨rfl, h0⟩ | ⟨g, cap, rfl, hown, hb, _⟩
  · refine (delete_nil _ _).mono ?_
    rintro e w' ⟨rfl, rfl⟩
    rw [h0]
    exact ⟨_, rfl, World.ownsRow_nil _ _ _ _, Below.refl _ _⟩
  · obtain ⟨cur, hb2, hh, hc, hM, hs, ht⟩ := hown.block
    have h0 := Try.slices_DeleteFunc_int p f #[] eg g 0 cap zs.toArray w (fun W x _ => hf W x) (fun _ _ _ x _ => hf _ x) (holds_of_blockI hh ht) (by simpa using hsz) (by simpa using hc)
    simp only [List.size_toArray] at h0
    refine h0.mono ?_
    rintro e w' ⟨rfl, k, rfl⟩
    have hl : (zs.filter fun x => !p x).length ≤ zs.length := List.length_filter_le _ _
    have h1 := ownsRow_sortedI (n := k) (os := #[]) (ss := zs) (ts := (zs.filter fun x => !p x) ++ List.replicate (zs.length - (zs.filter fun x => !p x).length) 0) (by rw [List.length_append, List.length_replicate]; omega) hb2 hh hc hM hs
    have h2 := grownBy_sortedI (w := w) (g := g) (n := k) (os := #[]) ((zs.filter fun x => !p x) ++ List.replicate (zs.length - (zs.filter fun x => !p x).length) 0).toArray
    rw [grow_empty] at h1 h2
    exact ⟨_, rfl, OwnI.cut _ h1 hl, below_grow (Below.refl _ _) h2 hbs hb⟩

theorem wide_gives (W : World) (x : Int) : FnGives Try.prog 27 #[] #[.int .i64 x] (.bool (wideM x)) W :=
  (wide_ok x W).mono fun _ _ ⟨h1, h2⟩ => ⟨h1, 0, h2.symm⟩
theorem wide_enters : ∀ args w, (callFunc 27 args).run Try.prog w = .ok (.enter 27 args) w := enters_of Try.func27 (by kernel_rfl) rfl

/-- A slice of rows, wherever it lies. -/
structure Grid (w : World) (A : Option Addr) (rows : List (Option Addr × Nat × List Int)) : Prop where
  len : rows.length ≤ 1000000
  at_ : rows.length = 0 ∨ ∃ b off, A = some ⟨b, off, none⟩ ∧ b < w.heap.size ∧ ∀ k (h : k < rows.length), w.cell? ⟨b, off + k, none⟩ = some (.slice rows[k].1 rows[k].2.2.length rows[k].2.1) ∧ Row .i64 w rows[k].1 rows[k].2.2 ∧ (rows[k].1 = none → rows[k].2.1 = 0)
theorem Grid.below {w w' : World} {A : Option Addr} {rows : List (Option Addr × Nat × List Int)} (h : Grid w A rows) (hb : Below w.heap.size w w') : Grid w' A rows := by
  refine ⟨h.len, h.at_.imp id fun ⟨b, off, h1, h2, h3⟩ => ⟨b, off, h1, Nat.lt_of_lt_of_le h2 hb.size, fun i hi => ?_⟩⟩
  exact ⟨(hb.cell (p := ⟨b, off + i, none⟩) h2).trans (h3 i hi).1, (h3 i hi).2.1.below hb, (h3 i hi).2.2⟩
def encR (r : Option Addr × Nat × List Int) : Value := .slice r.1 r.2.2.length r.2.1
theorem encR_one (r : Option Addr × Nat × List Int) : (encR r).oneCell' = true := rfl
theorem row_set {k : IntKind} {w : World} {A : Option Addr} {zs : List Int} (h : Row k w A zs) {g i : Nat} (u : Value) (hne : ∀ a, A = some a → a.block ≠ g) : Row k (w.setCell ⟨g, i, none⟩ u) A zs := by
  refine ⟨h.len, h.at_.imp id fun ⟨b, off, h1, h2, h3⟩ => ⟨b, off, h1, by simpa [World.setCell] using h2, fun j hj => ?_⟩⟩
  rw [World.cell?_of_block (w := w) (Below.heap_setCell w ⟨g, i, none⟩ u b (hne _ h1))]
  exact h3 j hj
/-- Rows made so far, the others nil. -/
def rowCells (rows : List (Option Addr × Nat × List Int)) (k : Nat) : Array Value := (rows.map encR ++ List.replicate k (Value.slice none 0 0)).toArray
theorem rowCells_set (rows : List (Option Addr × Nat × List Int)) (k : Nat) (r : Option Addr × Nat × List Int) : (rowCells rows (k + 1)).setIfInBounds rows.length (encR r) = rowCells (rows ++ [r]) k := by
  unfold rowCells
  rw [List.setIfInBounds_toArray, List.set_append_right _ _ (by simp), List.length_map, Nat.sub_self, List.replicate_succ, List.set_cons_zero]
  simp
theorem rowCells_next (rows : List (Option Addr × Nat × List Int)) (k : Nat) : (rowCells rows (k + 1))[rows.length]? = some (Value.slice none 0 0) := by
  unfold rowCells
  rw [List.getElem?_toArray, List.getElem?_append_right (by simp)]
  simp
theorem rowCells_old (rows : List (Option Addr × Nat × List Int)) (k : Nat) {j : Nat} (h : j < rows.length) : (rowCells rows k)[j]? = some (encR rows[j]) := by
  unfold rowCells
  rw [List.getElem?_toArray, List.getElem?_append_left (by simpa using h)]
  simp [h]
def rowsOf (rows : List (Option Addr × Nat × List Int)) : List (List Int) := rows.map fun r => r.2.2
structure Made (w wr : World) (rows R : List (Option Addr × Nat × List Int)) (i : Nat) : Prop where
  len : R.length = i
  blk : Blk wr w.heap.size 23 (rowCells R (rows.length - i))
  is : rowsOf R = (rowsOf (rows.take i)).map plainM
  each : ∀ r ∈ R, Row .i64 wr r.1 r.2.2 ∧ (r.1 = none → r.2.1 = 0) ∧ ∀ a, r.1 = some a → w.heap.size < a.block
  bel : Below w.heap.size w wr
theorem Made.push {w wr w2 : World} {rows R : List (Option Addr × Nat × List Int)} {i : Nat} (h : Made w wr rows R i) (hi : i < rows.length) {B : Option Addr} {d : Nat} {zs : List Int} (hb : Below wr.heap.size wr w2) (hr : Row .i64 w2 B zs) (hn : B = none → d = 0) (ho : ∀ a, B = some a → wr.heap.size ≤ a.block)
    (ht : (rowsOf (rows.take (i + 1))).map plainM = (rowsOf (rows.take i)).map plainM ++ [zs]) : Made w (w2.setCell ⟨w.heap.size, i, none⟩ (.slice B zs.length d)) rows (R ++ [(B, d, zs)]) (i + 1) := by
  have hg := h.blk.lt
  refine ⟨by rw [List.length_append, h.len]; rfl, ?_, by rw [ht, ← h.is]; simp [rowsOf], fun r hr' => ?_, (h.bel.trans (hb.mono h.bel.size)).setCell (Nat.le_refl _) _⟩
  · have h1 := (h.blk.below hb hg).set_ i (encR (B, d, zs))
    have hk : rows.length - i = (rows.length - (i + 1)) + 1 := by omega
    have e1 : rowCells R (rows.length - i) = rowCells R ((rows.length - (i + 1)) + 1) := by rw [← hk]
    have e2 : (rowCells R ((rows.length - (i + 1)) + 1)).setIfInBounds i (encR (B, d, zs)) = rowCells (R ++ [(B, d, zs)]) (rows.length - (i + 1)) := by
      have := rowCells_set R (rows.length - (i + 1)) (B, d, zs)
      rw [h.len] at this
      exact this
    rw [e1, e2] at h1
    exact h1
  · rcases List.mem_append.1 hr' with hr' | hr'
    · obtain ⟨r1, r2, r3⟩ := h.each r hr'
      exact ⟨row_set (r1.below hb) _ fun a ha => by have := r3 a ha; omega, r2, r3⟩
    · rw [List.mem_singleton.1 hr']
      exact ⟨row_set hr _ fun a ha => by have := ho a ha; omega, hn, fun a ha => by have := ho a ha; omega⟩
theorem Made.grid {w wr : World} {rows R : List (Option Addr × Nat × List Int)} (h : Made w wr rows R rows.length) (hl : rows.length ≤ 1000000) : Grid wr (some ⟨w.heap.size, 0, none⟩) R := by
  refine ⟨by rw [h.len]; exact hl, .inr ⟨w.heap.size, 0, rfl, h.blk.lt, fun k hk => ?_⟩⟩
  obtain ⟨r1, r2, _⟩ := h.each R[k] (List.getElem_mem hk)
  refine ⟨?_, r1, r2⟩
  rw [Nat.zero_add, h.blk.cell k, rowCells_old R _ hk]
  rfl
theorem own_row2 {w : World} {base n : Nat} {v : Value} {zs : List Int} (h : w.ownsRow base 3 1 v n (zs.map (Value.int .i64))) (hn : n = zs.length) (hl : zs.length ≤ 1000000) :
    ∃ B d, v = .slice B zs.length d ∧ Row .i64 w B zs ∧ (B = none → d = 0) ∧ ∀ a, B = some a → base ≤ a.block := by
  obtain ⟨B, d, rfl, h1, h2⟩ := own_row h hn hl
  refine ⟨B, d, rfl, h1, h2, fun a ha => ?_⟩
  subst ha
  exact (h.lt a.block rfl).1
theorem slice_info : (Try.prog.info? 23).map (fun i => (i.zero, i.size, i.bytes)) = some (some (.slice none 0 0), 1, 24) := by kernel_rfl
theorem makeRows (n : Nat) (hn : n ≤ 1000000) (w : World) : (Instr.makeSlice 22 (.int .i64 n) (.int .i64 n)).run Try.prog w = .ok (.slice (some ⟨w.heap.size, 0, none⟩) n n) (w.alloc (.cells (rowCells [] n) 23)) := by
  obtain ⟨i0, hi, hz0, hz1, hz2⟩ := info_parts slice_info
  refine Eq.trans (run_make_rowN (P := Try.prog) 22 23 i0 (.slice none 0 0) Try.underlying22 hi hz0 .i64 .i64 n n (Nat.le_refl _) (by rw [hz2]; omega) (by omega) w) ?_
  rw [hz1]
  have e : madeCells (Value.slice none 0 0).cells (n * 1) = rowCells [] n := by
    show madeCells #[Value.slice none 0 0] (n * 1) = _
    rw [made_one, Nat.mul_one]
    rfl
  rw [e]

theorem made_small {zs : List Int} (h : zs.length ≤ 1000000) : (makeM zs).length ≤ 9223372036854775807 := by
  have := makeM_len zs
  omega
theorem plain_small {zs : List Int} (h : zs.length ≤ 1000000) : ((makeM zs).filter fun x => !wideM x).length ≤ 1000000 := by
  have := makeM_len zs
  have := List.length_filter_le (fun x => !wideM x) (makeM zs)
  omega

set_option maxHeartbeats 1000000 in
theorem plain_ok {w : World} {A : Option Addr} {rows : List (Option Addr × Nat × List Int)} (cap : Nat) (h : Grid w A rows) :
    Calls Try.prog 26 #[.slice A rows.length cap] w fun e w' => ∃ R B, e = .returned (.slice B R.length rows.length) ∧ R.length = rows.length ∧ Grid w' B R ∧ rowsOf R = (rowsOf rows).map plainM ∧ Below w.heap.size w w' := by
  have hlen := h.len
  have H := Lib.hid h
  clear h
  have hmk := makeRows rows.length hlen
  go_enter Try.func26, Try.ntmps26
  go_wp2
  go_loopw [11] (fun vi wr => ∃ (i : Nat) (R : List (Option Addr × Nat × List Int)), i ≤ rows.length ∧ vi = .int .i64 i ∧ Made w wr rows R i) (fun vi _ => (rows.length - intOf vi).toNat)
  case atStart =>
    refine ⟨0, [], Nat.zero_le _, rfl, rfl, Blk.new w _ _, rfl, (fun r hr => by cases hr), (Below.refl _ w).alloc (Nat.le_refl _) _⟩
  case round =>
    obtain ⟨i, R, hi, rfl, hM⟩ := hrel
    by_cases hlt : i < rows.length
    · have d1 : decide ((i : Int) < rows.length) = true := by simp; omega
      obtain ⟨b, off, hA, hb, hcell⟩ := (H.out.below hM.bel).at_.resolve_left (by omega)
      subst hA
      obtain ⟨c0, hrow, hnone⟩ := hcell i hlt
      have Htk := Lib.hid (show (rowsOf (rows.take (i + 1))).map plainM = (rowsOf (rows.take i)).map plainM ++ [plainM rows[i].2.2] by unfold rowsOf; rw [List.take_succ_eq_append_getElem hlt, List.map_append, List.map_append]; rfl)
      have Hrow := Lib.hid hrow
      have Hnone := Lib.hid hnone
      have HM := Lib.hid hM
      have hml := makeM_len rows[i].2.2
      have hrl := hrow.len
      clear hcell hrow hnone hM
      have hk : rows.length - i = (rows.length - (i + 1)) + 1 := by omega
      have Hk := Lib.hid hk
      clear hk
      generalize rows[i].1 = A1 at *
      generalize rows[i].2.1 = c1 at *
      generalize rows[i].2.2 = zs at *
      have t1 : (0 : Int) ≤ (i : Int) := by omega
      have t2 : (i : Int) < (rows.length : Int) := by omega
      have HZ := Lib.hid (show zs.length ≤ 1000000 by omega)
      clear hml hrl
      go_wp2_with (first
        | (go_at_call 41; (with_reducible refine (make_ok c1 Hrow.out Hnone.out).mono ?_); rintro e w1 ⟨v1, rfl, ho1, hb1⟩; have Ho1 := Lib.hid ho1; have Hb1 := Lib.hid hb1; clear ho1 hb1)
        | (go_at_call 40; (with_reducible refine (delete_p wide_gives wide_enters Ho1.out (made_small HZ.out) Hb1.out.size).mono ?_); rintro e w2 ⟨v2, rfl, ho2, hb2⟩; obtain ⟨B2, d2, rfl, hr2, hn2, hl2⟩ := own_row2 ho2 rfl (plain_small HZ.out); have HW := Lib.hid (Hb1.out.trans hb2); have y0 := (HM.out.blk.below HW.out HM.out.blk.lt).cell i; rw [Hk.out, ← HM.out.len, rowCells_next, HM.out.len] at y0; have f0 := (HM.out.blk.below HW.out HM.out.blk.lt).frozen i; have Hr2 := Lib.hid hr2; have Hn2 := Lib.hid hn2; have Hl2 := Lib.hid hl2; clear ho2 hb2 hr2 hn2 hl2))
      go_roundw
      case rel => exact ⟨i + 1, _, by omega, by go_num, HM.out.push hlt HW.out Hr2.out Hn2.out Hl2.out Htk.out⟩
      case measure => simp only [intOf]; omega
    · obtain rfl : i = rows.length := by omega
      have d1 : decide ((rows.length : Int) < rows.length) = false := by simp
      have hlR := Lib.hid hM.len
      have his := hM.is
      rw [List.take_length] at his
      have HG := Lib.hid (hM.grid hlen)
      have HB := Lib.hid hM.bel
      have HI := Lib.hid his
      clear hM his
      go_wp2
      go_ret
      exact ⟨R, some ⟨w.heap.size, 0, none⟩, by rw [hlR.out]; rfl, hlR.out, HG.out, HI.out, HB.out⟩
end Go.Proofs.Ytfkjojogkdlcgaa

/- Values. -/
import Derived.Test.YtfdfblokbojcfaaTrailB
namespace Go.Proofs.Ytfdfblokbojcfaa
open Go.RowKit

/-- The values by node. -/
def valsOf (n : Nat) (L : List Pt) : List Int := (List.range n).map fun nd : Nat => valOf L (2 * (nd : Int))
def valCells (n : Nat) (L : List Pt) : Array Value := ((valsOf n L).map (Value.int .i8)).toArray

theorem int8_info : (Try.prog.info? 32).map (fun i => (i.zero, i.size, i.bytes)) = some (some (.int .i8 0), 1, 1) := by kernel_rfl

theorem valOf_push {L : List Pt} {p : Pt} (h0 : 0 ≤ p.lit) (hn : find L (p.lit / 2) = none) (nd : Nat) :
    valOf (L ++ [p]) (2 * (nd : Int)) = if (p.lit / 2).toNat = nd then 1 + p.lit % 2 else valOf L (2 * (nd : Int)) := by
  have e : (2 * (nd : Int)) / 2 = nd := by omega
  unfold valOf
  rw [find_append, e]
  by_cases hp : (p.lit / 2).toNat = nd
  · have hp2 : p.lit / 2 = nd := by omega
    rw [if_pos hp, ← hp2, hn]
    simp only [if_true]
    unfold valAt
    by_cases hq : p.lit = 2 * (p.lit / 2)
    · rw [if_pos hq]; omega
    · rw [if_neg hq]; omega
  · have hp2 : ¬ p.lit / 2 = nd := by omega
    rw [if_neg hp, if_neg hp2]
    cases find L nd <;> rfl

theorem valCells_push (n : Nat) {L : List Pt} {p : Pt} (h0 : 0 ≤ p.lit) (hn : find L (p.lit / 2) = none) :
    (valCells n L).setIfInBounds (p.lit / 2).toNat (.int .i8 (1 + p.lit % 2)) = valCells n (L ++ [p]) := by
  apply Array.ext
  · simp [valCells, valsOf]
  · intro i hi hi'
    have hin : i < n := by simpa [valCells, valsOf] using hi'
    rw [Array.getElem_setIfInBounds (by simpa [valCells, valsOf] using hin)]
    simp only [valCells, valsOf, List.getElem_toArray, List.getElem_map, List.getElem_range, valOf_push h0 hn]
    split <;> rfl

theorem and_code (m : Nat) (hm : m ≤ 140000) : IntKind.i8.wrap (wrap64 (1 + bits .and .i64 (m : Int) 1)) = 1 + (m : Int) % 2 := by
  rw [i64_and_one m (by omega) (by omega)]
  rcases Nat.mod_two_eq_zero_or_one m with h | h
  · rw [show ((m : Int) % 2) = 0 by omega]; decide +kernel
  · rw [show ((m : Int) % 2) = 1 by omega]; decide +kernel

/-- What Values hands back. -/
def GaveVals (w : World) (n : Nat) (L : List Pt) (e : Ending) (w' : World) : Prop :=
  ∃ g, e = .returned (.slice (some ⟨g, 0, none⟩) n n) ∧ w.heap.size ≤ g ∧ Blk w' g 32 (valCells n L) ∧ Below w.heap.size w w'

theorem Tr.Ok.fresh {M : Tr} (h : M.Ok) {k : Nat} (hk : k < M.L.length) : find (M.L.take k) (M.L[k].lit / 2) = none := by
  unfold find
  rw [List.find?_eq_none]
  intro q hq
  obtain ⟨i, hi, rfl⟩ := List.mem_take_iff_getElem.1 hq
  have := List.pairwise_iff_getElem.1 h.nodup i k (by omega) hk (by omega)
  simpa [isAt] using this

set_option maxHeartbeats 800000 in
theorem values_ok {w : World} {B bt ba : Nat} {lv : Value} {M : Tr} (h : TR w B bt ba lv M) :
    Calls Try.prog 11 #[.pointer (some ⟨bt, 0, none⟩)] w (GaveVals w M.n M.L) := by
  obtain ⟨i0, hi, hz0, hz1, hz2⟩ := info_parts int8_info
  have c0 := h.blk.cell 0
  have c1 := h.blk.cell 1
  simp only [List.getElem?_toArray, List.getElem?_cons_zero, List.getElem?_cons_succ] at c0 c1
  have q0 := h.blk.lt
  have hlen := h.ok.len
  have hN := h.ok.n
  have hmk := fun W => run_make_rowN (P := Try.prog) 30 32 i0 (.int .i8 0) Try.underlying30 hi hz0 .i64 .i64 M.n M.n (Nat.le_refl _) (by rw [hz2]; omega) (by omega) W
  rw [hz1, Nat.mul_one] at hmk
  have hmk2 : ∀ W : World, (Instr.makeSlice 30 (.int .i64 (M.n : Int)) (.int .i64 (M.n : Int))).run Try.prog W = .ok (.slice (some ⟨W.heap.size, 0, none⟩) M.n M.n) (W.alloc (.cells (valCells M.n []) 32)) := by
    intro W
    rw [hmk]
    have : madeCells (Value.int .i8 0).cells M.n = valCells M.n [] := by
      rw [show (Value.int IntKind.i8 0).cells = #[Value.int .i8 0] from rfl, made_one]
      simp [valCells, valsOf, valOf, find, List.map_const']
    rw [this]
  clear hmk
  have hO := Lib.hid h.own
  have hH := Lib.hid h
  have hlv : lv = .slice none 0 0 ∧ M.L.length = 0 ∨ ∃ g cap, lv = .slice (some ⟨g, 0, none⟩) M.L.length cap ∧ g < w.heap.size ∧ M.L.length ≤ cap := by
    rcases h.own.2 with ⟨hv, h0⟩ | ⟨g, cap, cur, hv, hb, hg, hc, _⟩
    · exact .inl ⟨hv, h0⟩
    · exact .inr ⟨g, cap, hv, Blk.lt hg, hc⟩
  clear h
  rcases hlv with ⟨rfl, h0⟩ | ⟨g, cap, rfl, hg, hcap⟩
  · have hnil : M.L = [] := List.eq_nil_of_length_eq_zero h0
    rw [hnil]
    clear h0 hnil hO hH hlen
    generalize M.n = N at *
    generalize hC0 : valCells N [] = C at *
    have hC := Lib.hid hC0
    clear hC0
    go_enter Try.func11, Try.ntmps11
    go_wp2
    go_loopw [19] (fun i wr => i = .int .i64 0 ∧ Blk wr w.heap.size 32 C ∧ Below w.heap.size w wr) (fun _ _ => 0)
    case atStart => exact ⟨rfl, Blk.new _ _ _, (Below.refl _ _).alloc (Nat.le_refl _) _⟩
    case round =>
      obtain ⟨rfl, hb, hbel⟩ := hrel
      go_wp2
      go_ret
      exact ⟨_, rfl, Nat.le_refl _, hC.out ▸ hb, hbel⟩
  · go_enter Try.func11, Try.ntmps11
    go_wp2
    go_loopw [19] (fun i wr => ∃ k : Nat, k ≤ M.L.length ∧ i = .int .i64 k ∧ Blk wr w.heap.size 32 (valCells M.n (M.L.take k)) ∧ Below w.heap.size w wr) (fun i _ => M.L.length - (intOf i).toNat)
    case atStart => exact ⟨0, Nat.zero_le _, rfl, by rw [List.take_zero]; exact Blk.new _ _ _, (Below.refl _ _).alloc (Nat.le_refl _) _⟩
    case round =>
      obtain ⟨k, hk, rfl, hb, hbel⟩ := hrel
      by_cases hlt : k < M.L.length
      · have hlit := hH.out.ok.lit M.L[k] (List.getElem_mem _)
        have hfr := hH.out.ok.fresh hlt
        obtain ⟨m, hm⟩ := Int.eq_ofNat_of_zero_le hlit.1
        have e0 : wr.cell? ⟨g, k * 3, none⟩ = some (.int .i64 m) := by
          rw [hbel.cell (p := ⟨g, k * 3, none⟩) hg, show k * 3 = k * 3 + 0 by omega, own_cell putCells putCells_len hO.out hlt (by omega), ← hm]; rfl
        have e1 : wr.cell? ⟨g, k * 3 + 1, none⟩ = some (.int .i64 M.L[k].level) := by
          rw [hbel.cell (p := ⟨g, k * 3 + 1, none⟩) hg, own_cell putCells putCells_len hO.out hlt (by omega)]; rfl
        have e2 : wr.cell? ⟨g, k * 3 + 2, none⟩ = some (.int .i64 M.L[k].reason) := by
          rw [hbel.cell (p := ⟨g, k * 3 + 2, none⟩) hg, own_cell putCells putCells_len hO.out hlt (by omega)]; rfl
        have hsz := hbel.size
        have hgr : g < wr.heap.size := by omega
        have hhr := hb.lt
        have hmn : m / 2 < M.n := by omega
        have e3 : ∃ u, wr.cell? ⟨w.heap.size, m / 2, none⟩ = some u := ⟨_, (hb.cell _).trans (Array.getElem?_eq_getElem (by simp [valCells, valsOf]; omega))⟩
        obtain ⟨u3, e3⟩ := e3
        have f3 := hb.frozen (m / 2)
        have hcode := Lib.hid (and_code m (by omega))
        have hpush := Lib.hid (valCells_push M.n hlit.1 hfr)
        rw [hm] at hpush
        have htk : Hid (M.L.take (k + 1) = M.L.take k ++ [M.L[k]]) := Lib.hid (List.take_succ_eq_append_getElem hlt)
        clear hm hlit hfr
        generalize M.L[k] = p at *
        go_wp2
        refine ⟨⟨k + 1, by omega, by go_num, ?_, (hbel.setCell (p := ⟨w.heap.size, m / 2, none⟩) (Nat.le_refl _) _).alloc (by simpa [World.setCell] using hsz) _⟩, by simp [intOf]; omega⟩
        rw [htk.out, ← hpush.out, ← hcode.out, show ((m : Int) / 2).toNat = m / 2 by omega]
        exact (hb.set_ _ _).alloc _
      · obtain rfl : k = M.L.length := by omega
        rw [List.take_length] at hb
        go_wp2
        go_ret
        exact ⟨_, rfl, Nat.le_refl _, hb, hbel⟩
theorem values_nil (w : World) :
    Calls Try.prog 11 #[.pointer none] w fun e w' => e = .returned (.slice none 0 0) ∧ w = w' := by
  go_enter Try.func11, Try.ntmps11
  go_wp2
  go_ret
  exact ⟨rfl, rfl⟩
end Go.Proofs.Ytfdfblokbojcfaa

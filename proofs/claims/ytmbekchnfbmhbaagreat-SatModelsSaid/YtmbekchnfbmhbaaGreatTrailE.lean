/- Behind, All. -/
import Derived.Test.YtmbekchnfbmhbaaGreatTrailC
import Derived.Test.YtmbekchnfbmhbaaGreatModel
import Derived.TacticsIn
import Derived.BigFrameIn
import Derived.RegionIn
import Derived.LoopIn
import Derived.OwnWalkIn
import Derived.RangeFuncRecord
import Derived.RangeFuncLeaves
namespace Go.Proofs.YtmbekchnfbmhbaaGreat
open Go.RowKit

/-- The place that Behind begins at. -/
def clampAt (at_ : Int) (n : Nat) : Nat := (max 0 (min at_ n)).toNat

/-- What Behind hands back. -/
def GaveLits (w : World) (L : List Pt) (e : Ending) (w' : World) : Prop :=
  ∃ v, e = .returned v ∧ w'.ownsRow w.heap.size 3 1 v L.length (L.map fun p => .int .i64 p.lit) ∧ Below w.heap.size w w'

set_option maxHeartbeats 800000 in
theorem behind_low {w : World} {B bt ba : Nat} {lv : Value} {M : Tr} (h : TR w B bt ba lv M) (at_ : Int) (ha : at_ ≤ 0) (hk : 0 < M.L.length) :
    Calls Tryz.prog 91 #[.pointer (some ⟨bt, 0, none⟩), .int .i64 at_] w (GaveLits w (M.L.drop 0)) := by
  obtain ⟨i0, hi, hz0, hz1, hz2⟩ := info_parts tint_info
  have c0 := h.blk.cell 0
  simp only [List.getElem?_toArray, List.getElem?_cons_zero] at c0
  have hlen := h.ok.len
  have hN := h.ok.n
  obtain ⟨g, cap, rfl, hg, hcap⟩ := h.lv_form (by omega)
  have hO := Lib.hid h.own
  have d1 : ¬ (M.L.length : Int) < at_ := by omega
  have d2 : ¬ (0 : Int) < at_ := by omega
  have h1c : ∀ p : Pt, Hid (∀ u ∈ #[Value.int .i64 p.lit].toList, u.oneCell' = true) := fun p => Lib.hid (by simp [Value.oneCell'])
  clear h
  go_enter Tryz.func91, Tryz.ntmps91
  go_wp2
  go_region
  all_goals go_wp2
  go_loopw [23, 4] (fun i v wr => ∃ j : Nat, j ≤ M.L.length ∧ i = .int .i64 j ∧ wr.ownsRow w.heap.size 3 1 v j (((M.L.drop 0).take j).map fun p => .int .i64 p.lit) ∧ Below w.heap.size w wr) (fun i _ _ => M.L.length - (intOf i).toNat)
  case atStart => exact ⟨0, Nat.zero_le _, rfl, World.ownsRow_nil _ _ _ _, (Below.refl _ _).drew⟩
  case round =>
    obtain ⟨j, hj, rfl, hown, hbel⟩ := hrel
    by_cases hlt : j < M.L.length
    · have hkj : 0 + j < M.L.length := by omega
      have e0 : wr.cell? ⟨g, j * 3, none⟩ = some (.int .i64 M.L[0 + j].lit) := by
        rw [hbel.cell (p := ⟨g, j * 3, none⟩) hg, show j * 3 = (0 + j) * 3 + 0 by omega, own_cell putCells putCells_len hO.out hkj (by omega)]; rfl
      have e1 : wr.cell? ⟨g, j * 3 + 1, none⟩ = some (.int .i64 M.L[0 + j].level) := by
        rw [hbel.cell (p := ⟨g, j * 3 + 1, none⟩) hg, show j * 3 + 1 = (0 + j) * 3 + 1 by omega, own_cell putCells putCells_len hO.out hkj (by omega)]; rfl
      have e2 : wr.cell? ⟨g, j * 3 + 2, none⟩ = some (.int .i64 M.L[0 + j].reason) := by
        rw [hbel.cell (p := ⟨g, j * 3 + 2, none⟩) hg, show j * 3 + 2 = (0 + j) * 3 + 2 by omega, own_cell putCells putCells_len hO.out hkj (by omega)]; rfl
      have hts : Hid (((M.L.drop 0).take (j + 1)).map (fun p => Value.int .i64 p.lit) = ((M.L.drop 0).take j).map (fun p => Value.int .i64 p.lit) ++ [.int .i64 M.L[0 + j].lit]) := by
        apply Lib.hid
        rw [List.take_succ_eq_append_getElem (by rw [List.length_drop]; omega), List.map_append]; simp
      have hsz := hbel.size
      have hgr : g < wr.heap.size := by omega
      generalize M.L[0 + j] = p at *
      go_wp2_with (at_builtin; refine list_push _ rfl (.tmp 27) (.tmp 30) 23 rfl w.heap.size 3 i0 (.int .i64 0) 1 8 Tryz.underlying23 hi hz0 hz1 hz2 rfl (by decide) u4 j _ rfl ((hown.alloc _).alloc _) (wr.heap.size + 1) #[.int .i64 p.lit] rfl (Blk.new_at (by simp) _ _) rfl (h1c p).out (by omega) (by omega) (by omega) (fun g2 cap2 w1 hown1 hgrow hat hlt1 => ?_))
      have hb1 : Below w.heap.size w w1 := ((hbel.alloc hsz _).alloc (by simp; omega) _).grown hgrow (by simp; omega) (fun q hq => (hown.lt q hq).1)
      exact ⟨⟨j + 1, by omega, by go_num, by rw [hts.out]; exact hown1, hb1⟩, by simp [intOf]; omega⟩
    · obtain rfl : j = M.L.length := by omega
      go_wp2
      go_ret
      refine ⟨_, rfl, ?_, hbel⟩
      rw [List.take_of_length_le (by rw [List.length_drop]; omega)] at hown
      rw [List.length_drop]
      exact hown

set_option maxHeartbeats 800000 in
theorem behind_in {w : World} {B bt ba : Nat} {lv : Value} {M : Tr} (h : TR w B bt ba lv M) (k : Nat) (h0 : 0 < k) (hk : k < M.L.length) :
    Calls Tryz.prog 91 #[.pointer (some ⟨bt, 0, none⟩), .int .i64 k] w (GaveLits w (M.L.drop k)) := by
  obtain ⟨i0, hi, hz0, hz1, hz2⟩ := info_parts tint_info
  have c0 := h.blk.cell 0
  simp only [List.getElem?_toArray, List.getElem?_cons_zero] at c0
  have hlen := h.ok.len
  have hN := h.ok.n
  obtain ⟨g, cap, rfl, hg, hcap⟩ := h.lv_form (by omega)
  have hO := Lib.hid h.own
  have d1 : ¬ (M.L.length : Int) < (k : Int) := by omega
  have d2 : cap ≠ k := by omega
  have h1c : ∀ p : Pt, Hid (∀ u ∈ #[Value.int .i64 p.lit].toList, u.oneCell' = true) := fun p => Lib.hid (by simp [Value.oneCell'])
  clear h
  go_enter Tryz.func91, Tryz.ntmps91
  go_wp2
  go_region
  all_goals go_wp2
  go_loopw [23, 4] (fun i v wr => ∃ j : Nat, j ≤ (M.L.length - k) ∧ i = .int .i64 j ∧ wr.ownsRow w.heap.size 3 1 v j (((M.L.drop k).take j).map fun p => .int .i64 p.lit) ∧ Below w.heap.size w wr) (fun i _ _ => (M.L.length - k) - (intOf i).toNat)
  case atStart => exact ⟨0, Nat.zero_le _, rfl, World.ownsRow_nil _ _ _ _, (Below.refl _ _).drew⟩
  case round =>
    obtain ⟨j, hj, rfl, hown, hbel⟩ := hrel
    by_cases hlt : j < (M.L.length - k)
    · have hkj : k + j < M.L.length := by omega
      have e0 : wr.cell? ⟨g, k * 3 + j * 3, none⟩ = some (.int .i64 M.L[k + j].lit) := by
        rw [hbel.cell (p := ⟨g, k * 3 + j * 3, none⟩) hg, show k * 3 + j * 3 = (k + j) * 3 + 0 by omega, own_cell putCells putCells_len hO.out hkj (by omega)]; rfl
      have e1 : wr.cell? ⟨g, k * 3 + j * 3 + 1, none⟩ = some (.int .i64 M.L[k + j].level) := by
        rw [hbel.cell (p := ⟨g, k * 3 + j * 3 + 1, none⟩) hg, show k * 3 + j * 3 + 1 = (k + j) * 3 + 1 by omega, own_cell putCells putCells_len hO.out hkj (by omega)]; rfl
      have e2 : wr.cell? ⟨g, k * 3 + j * 3 + 2, none⟩ = some (.int .i64 M.L[k + j].reason) := by
        rw [hbel.cell (p := ⟨g, k * 3 + j * 3 + 2, none⟩) hg, show k * 3 + j * 3 + 2 = (k + j) * 3 + 2 by omega, own_cell putCells putCells_len hO.out hkj (by omega)]; rfl
      have hts : Hid (((M.L.drop k).take (j + 1)).map (fun p => Value.int .i64 p.lit) = ((M.L.drop k).take j).map (fun p => Value.int .i64 p.lit) ++ [.int .i64 M.L[k + j].lit]) := by
        apply Lib.hid
        rw [List.take_succ_eq_append_getElem (by rw [List.length_drop]; omega), List.map_append]; simp
      have hsz := hbel.size
      have hgr : g < wr.heap.size := by omega
      generalize M.L[k + j] = p at *
      go_wp2_with (at_builtin; refine list_push _ rfl (.tmp 27) (.tmp 30) 23 rfl w.heap.size 3 i0 (.int .i64 0) 1 8 Tryz.underlying23 hi hz0 hz1 hz2 rfl (by decide) u4 j _ rfl ((hown.alloc _).alloc _) (wr.heap.size + 1) #[.int .i64 p.lit] rfl (Blk.new_at (by simp) _ _) rfl (h1c p).out (by omega) (by omega) (by omega) (fun g2 cap2 w1 hown1 hgrow hat hlt1 => ?_))
      have hb1 : Below w.heap.size w w1 := ((hbel.alloc hsz _).alloc (by simp; omega) _).grown hgrow (by simp; omega) (fun q hq => (hown.lt q hq).1)
      exact ⟨⟨j + 1, by omega, by go_num, by rw [hts.out]; exact hown1, hb1⟩, by simp [intOf]; omega⟩
    · obtain rfl : j = (M.L.length - k) := by omega
      go_wp2
      go_ret
      refine ⟨_, rfl, ?_, hbel⟩
      rw [List.take_of_length_le (by rw [List.length_drop]; omega)] at hown
      rw [List.length_drop]
      exact hown

set_option maxHeartbeats 800000 in
theorem behind_over {w : World} {B bt ba : Nat} {lv : Value} {M : Tr} (h : TR w B bt ba lv M) (at_ : Int) (ha : (M.L.length : Int) < at_) :
    Calls Tryz.prog 91 #[.pointer (some ⟨bt, 0, none⟩), .int .i64 at_] w (GaveLits w []) := by
  have c0 := h.blk.cell 0
  simp only [List.getElem?_toArray, List.getElem?_cons_zero] at c0
  have hlen := h.ok.len
  have hN := h.ok.n
  generalize hn : M.L.length = n at *
  rcases h.own.2 with ⟨rfl, hz⟩ | ⟨g, cap, cur, rfl, _, hg, hcap, _⟩
  · rw [hn] at hz
    subst hz
    clear h hn
    go_enter Tryz.func91, Tryz.ntmps91
    go_wp2
    go_region
    all_goals go_wp2
    go_loopw [23, 4] (fun i v wr => i = .int .i64 0 ∧ v = .slice none 0 0 ∧ Below w.heap.size w wr) (fun _ _ _ => 0)
    case atStart => exact ⟨rfl, rfl, (Below.refl _ _).drew⟩
    case round =>
      obtain ⟨rfl, rfl, hbel⟩ := hrel
      go_wp2
      go_ret
      exact ⟨_, rfl, World.ownsRow_nil _ _ _ _, hbel⟩
  · rw [hn] at hcap c0
    clear h hn hg
    by_cases e3 : 0 < n
    · by_cases e1 : cap = n
      · go_enter Tryz.func91, Tryz.ntmps91
        go_wp2
        go_region
        all_goals go_wp2
        go_loopw [23, 4] (fun i v wr => i = .int .i64 0 ∧ v = .slice none 0 0 ∧ Below w.heap.size w wr) (fun _ _ _ => 0)
        case atStart => exact ⟨rfl, rfl, (Below.refl _ _).drew⟩
        case round =>
          obtain ⟨rfl, rfl, hbel⟩ := hrel
          go_wp2
          go_ret
          exact ⟨_, rfl, World.ownsRow_nil _ _ _ _, hbel⟩
      · go_enter Tryz.func91, Tryz.ntmps91
        go_wp2
        go_region
        all_goals go_wp2
        go_loopw [23, 4] (fun i v wr => i = .int .i64 0 ∧ v = .slice none 0 0 ∧ Below w.heap.size w wr) (fun _ _ _ => 0)
        case atStart => exact ⟨rfl, rfl, (Below.refl _ _).drew⟩
        case round =>
          obtain ⟨rfl, rfl, hbel⟩ := hrel
          go_wp2
          go_ret
          exact ⟨_, rfl, World.ownsRow_nil _ _ _ _, hbel⟩
    · obtain rfl : n = 0 := by omega
      by_cases e1 : cap = 0
      · go_enter Tryz.func91, Tryz.ntmps91
        go_wp2
        go_region
        all_goals go_wp2
        go_loopw [23, 4] (fun i v wr => i = .int .i64 0 ∧ v = .slice none 0 0 ∧ Below w.heap.size w wr) (fun _ _ _ => 0)
        case atStart => exact ⟨rfl, rfl, (Below.refl _ _).drew⟩
        case round =>
          obtain ⟨rfl, rfl, hbel⟩ := hrel
          go_wp2
          go_ret
          exact ⟨_, rfl, World.ownsRow_nil _ _ _ _, hbel⟩
      · go_enter Tryz.func91, Tryz.ntmps91
        go_wp2
        go_region
        all_goals go_wp2
        go_loopw [23, 4] (fun i v wr => i = .int .i64 0 ∧ v = .slice none 0 0 ∧ Below w.heap.size w wr) (fun _ _ _ => 0)
        case atStart => exact ⟨rfl, rfl, (Below.refl _ _).drew⟩
        case round =>
          obtain ⟨rfl, rfl, hbel⟩ := hrel
          go_wp2
          go_ret
          exact ⟨_, rfl, World.ownsRow_nil _ _ _ _, hbel⟩

set_option maxHeartbeats 800000 in
theorem behind_end {w : World} {B bt ba : Nat} {lv : Value} {M : Tr} (h : TR w B bt ba lv M)  :
    Calls Tryz.prog 91 #[.pointer (some ⟨bt, 0, none⟩), .int .i64 (M.L.length : Int)] w (GaveLits w []) := by
  have c0 := h.blk.cell 0
  simp only [List.getElem?_toArray, List.getElem?_cons_zero] at c0
  have hlen := h.ok.len
  have hN := h.ok.n
  generalize hn : M.L.length = n at *
  rcases h.own.2 with ⟨rfl, hz⟩ | ⟨g, cap, cur, rfl, _, hg, hcap, _⟩
  · rw [hn] at hz
    subst hz
    clear h hn
    go_enter Tryz.func91, Tryz.ntmps91
    go_wp2
    go_region
    all_goals go_wp2
    go_loopw [23, 4] (fun i v wr => i = .int .i64 0 ∧ v = .slice none 0 0 ∧ Below w.heap.size w wr) (fun _ _ _ => 0)
    case atStart => exact ⟨rfl, rfl, (Below.refl _ _).drew⟩
    case round =>
      obtain ⟨rfl, rfl, hbel⟩ := hrel
      go_wp2
      go_ret
      exact ⟨_, rfl, World.ownsRow_nil _ _ _ _, hbel⟩
  · rw [hn] at hcap c0
    clear h hn hg
    by_cases e3 : 0 < n
    · by_cases e1 : cap = n
      · go_enter Tryz.func91, Tryz.ntmps91
        go_wp2
        go_region
        all_goals go_wp2
        go_loopw [23, 4] (fun i v wr => i = .int .i64 0 ∧ v = .slice none 0 0 ∧ Below w.heap.size w wr) (fun _ _ _ => 0)
        case atStart => exact ⟨rfl, rfl, (Below.refl _ _).drew⟩
        case round =>
          obtain ⟨rfl, rfl, hbel⟩ := hrel
          go_wp2
          go_ret
          exact ⟨_, rfl, World.ownsRow_nil _ _ _ _, hbel⟩
      · go_enter Tryz.func91, Tryz.ntmps91
        go_wp2
        go_region
        all_goals go_wp2
        go_loopw [23, 4] (fun i v wr => i = .int .i64 0 ∧ v = .slice none 0 0 ∧ Below w.heap.size w wr) (fun _ _ _ => 0)
        case atStart => exact ⟨rfl, rfl, (Below.refl _ _).drew⟩
        case round =>
          obtain ⟨rfl, rfl, hbel⟩ := hrel
          go_wp2
          go_ret
          exact ⟨_, rfl, World.ownsRow_nil _ _ _ _, hbel⟩
    · obtain rfl : n = 0 := by omega
      by_cases e1 : cap = 0
      · go_enter Tryz.func91, Tryz.ntmps91
        go_wp2
        go_region
        all_goals go_wp2
        go_loopw [23, 4] (fun i v wr => i = .int .i64 0 ∧ v = .slice none 0 0 ∧ Below w.heap.size w wr) (fun _ _ _ => 0)
        case atStart => exact ⟨rfl, rfl, (Below.refl _ _).drew⟩
        case round =>
          obtain ⟨rfl, rfl, hbel⟩ := hrel
          go_wp2
          go_ret
          exact ⟨_, rfl, World.ownsRow_nil _ _ _ _, hbel⟩
      · go_enter Tryz.func91, Tryz.ntmps91
        go_wp2
        go_region
        all_goals go_wp2
        go_loopw [23, 4] (fun i v wr => i = .int .i64 0 ∧ v = .slice none 0 0 ∧ Below w.heap.size w wr) (fun _ _ _ => 0)
        case atStart => exact ⟨rfl, rfl, (Below.refl _ _).drew⟩
        case round =>
          obtain ⟨rfl, rfl, hbel⟩ := hrel
          go_wp2
          go_ret
          exact ⟨_, rfl, World.ownsRow_nil _ _ _ _, hbel⟩

theorem behind_bare {w : World} {bt : Nat} (A : Option Addr) (cap : Nat) (c0 : w.cell? ⟨bt, 0, none⟩ = some (.slice A 0 cap)) (hA : A = none → cap = 0) (at_ : Int) (ha : at_ < 0) :
    Calls Tryz.prog 91 #[.pointer (some ⟨bt, 0, none⟩), .int .i64 at_] w (GaveLits w []) := by
  have e5 : ((0 : Int) < at_) = False := eq_false (by omega)
  rcases A with _ | ⟨g, o, s⟩
  · obtain rfl := hA rfl
    clear hA
    go_enter Tryz.func91, Tryz.ntmps91
    go_wp2
    go_region
    all_goals go_wp2
    go_loopw [23, 4] (fun i v wr => i = .int .i64 0 ∧ v = .slice none 0 0 ∧ Below w.heap.size w wr) (fun _ _ _ => 0)
    case atStart => exact ⟨rfl, rfl, (Below.refl _ _).drew⟩
    case round =>
      obtain ⟨rfl, rfl, hbel⟩ := hrel
      go_wp2
      go_ret
      exact ⟨_, rfl, World.ownsRow_nil _ _ _ _, hbel⟩
  · clear hA
    rcases Nat.eq_zero_or_pos cap with rfl | hc
    · go_enter Tryz.func91, Tryz.ntmps91
      go_wp2
      go_region
      all_goals go_wp2
      go_loopw [23, 4] (fun i v wr => i = .int .i64 0 ∧ v = .slice none 0 0 ∧ Below w.heap.size w wr) (fun _ _ _ => 0)
      case atStart => exact ⟨rfl, rfl, (Below.refl _ _).drew⟩
      case round =>
        obtain ⟨rfl, rfl, hbel⟩ := hrel
        go_wp2
        go_ret
        exact ⟨_, rfl, World.ownsRow_nil _ _ _ _, hbel⟩
    · go_enter Tryz.func91, Tryz.ntmps91
      go_wp2
      go_region
      all_goals go_wp2
      go_loopw [23, 4] (fun i v wr => i = .int .i64 0 ∧ v = .slice none 0 0 ∧ Below w.heap.size w wr) (fun _ _ _ => 0)
      case atStart => exact ⟨rfl, rfl, (Below.refl _ _).drew⟩
      case round =>
        obtain ⟨rfl, rfl, hbel⟩ := hrel
        go_wp2
        go_ret
        exact ⟨_, rfl, World.ownsRow_nil _ _ _ _, hbel⟩

theorem behind_ok {w : World} {B bt ba : Nat} {lv : Value} {M : Tr} (h : TR w B bt ba lv M) (at_ : Int) :
    Calls Tryz.prog 91 #[.pointer (some ⟨bt, 0, none⟩), .int .i64 at_] w (GaveLits w (M.L.drop (clampAt at_ M.L.length))) := by
  by_cases h0 : M.L.length = 0
  · have hd : M.L.drop (clampAt at_ M.L.length) = [] := List.drop_eq_nil_of_le (by omega)
    rw [hd]
    rcases Int.lt_trichotomy at_ 0 with h1 | rfl | h1
    · have c0 := h.blk.cell 0
      simp only [List.getElem?_toArray, List.getElem?_cons_zero] at c0
      rcases h.own.2 with ⟨rfl, _⟩ | ⟨g, cap, cur, rfl, _, _, _⟩
      · exact behind_bare none 0 c0 (fun _ => rfl) at_ h1
      · exact behind_bare (some ⟨g, 0, none⟩) cap (h0 ▸ c0) (fun h => by cases h) at_ h1
    · have := behind_end h
      rw [h0] at this
      exact this
    · exact behind_over h at_ (by omega)
  · by_cases h1 : at_ ≤ 0
    · rw [show clampAt at_ M.L.length = 0 by unfold clampAt; omega]
      exact behind_low h at_ h1 (by omega)
    · obtain ⟨k, rfl⟩ := Int.eq_ofNat_of_zero_le (show 0 ≤ at_ by omega)
      by_cases h2 : k < M.L.length
      · rw [show clampAt k M.L.length = k by unfold clampAt; omega]
        exact behind_in h k (by omega) h2
      · have hd : M.L.drop (clampAt k M.L.length) = [] := List.drop_eq_nil_of_le (by unfold clampAt; omega)
        rw [hd]
        by_cases h3 : k = M.L.length
        · subst h3
          exact behind_end h
        · exact behind_over h k (by omega)
theorem behind_nil (at_ : Int) (w : World) :
    Calls Tryz.prog 91 #[.pointer none, .int .i64 at_] w (GaveLits w []) := by
  go_enter Tryz.func91, Tryz.ntmps91
  go_wp2
  go_ret
  exact ⟨_, rfl, World.ownsRow_nil _ _ _ _, Below.refl _ _⟩
theorem all_ok {w : World} {B bt ba : Nat} {lv : Value} {M : Tr} (h : TR w B bt ba lv M) :
    Calls Tryz.prog 76 #[.pointer (some ⟨bt, 0, none⟩)] w (GaveLits w M.L) := by
  have hb := behind_ok h 0
  rw [show clampAt 0 M.L.length = 0 by unfold clampAt; omega, List.drop_zero] at hb
  have H := Lib.hid hb
  clear hb
  go_enter Tryz.func76, Tryz.ntmps76
  go_wp2_with (go_at_call 91; refine H.out.mono ?_; rintro e w1 ⟨v, rfl, hv⟩)
  go_ret
  exact ⟨v, rfl, hv⟩
theorem all_nil (w : World) :
    Calls Tryz.prog 76 #[.pointer none] w (GaveLits w []) := by
  go_enter Tryz.func76, Tryz.ntmps76
  go_wp2_with (go_at_call 91; refine (behind_nil _ _).mono ?_; rintro e w1 ⟨v, rfl, hv⟩)
  go_ret
  exact ⟨v, rfl, hv⟩
end Go.Proofs.YtmbekchnfbmhbaaGreat

/- A range over a function, at the fence that asks nothing: the statement, met from the iterator's contract; a round, met from the body's walk. -/
namespace Go.Proofs.YtmbekchnfbmhbaaGreat
open Go.RowKit

/-- The record of a range over a function, as the statement lays it. -/
def loopRec (fn : FuncId) (tmps : Array Value) (ps : Array Tmp) (assign body : Code) (D : Nat) (st : LoopState) : Loop :=
  { state := st, pending := none, fn, tmps, params := ps, assign, body, defers := D }

/-- The loop's two blocks: the record at l, the block for the rounds' deferred calls at D. -/
structure LoopAt (W : World) (l D : Nat) (r : Loop) : Prop where
  rec_ : W.heap[l]? = some (.loop r)
  def_ : W.heap[D]? = some (.deferred (some []))
  ne_ : D ≠ l

theorem LoopAt.kept {S : Nat → Prop} {W W' : World} {l D : Nat} {r : Loop} (h : LoopAt W l D r) (hk : Kept S W W') (h1 : ¬ S l) (h2 : ¬ S D) : LoopAt W' l D r :=
  ⟨(hk.block l (Array.getElem?_eq_some_iff.1 h.rec_).1 h1).trans h.rec_, (hk.block D (Array.getElem?_eq_some_iff.1 h.def_).1 h2).trans h.def_, h.ne_⟩

/-- The statement. -/
theorem rangeFunc_wide {n : Nat} {P : Program} {g : Operand} {ps : Array Tmp} {assign body : Code} {Q : Exit → Act → World → Prop} {a : Act} {w : World} {gf : FuncId} {lb : Array Value}
    (hg : a.eval g = .func (.func gf) #[] lb) (hinv : ∀ (x : Value) (W : World), (invoke (.fn (.func gf) lb) #[x]).run P W = .ok (.enter gf (#[x] ++ lb)) W)
    (h : ∀ fn r, r = loopRec fn a.tmps ps assign body w.heap.size .ready → CallsIn Fence.wide (n - 1) P gf (#[.func (.yield (w.heap.size + 1)) #[] #[]] ++ lb) ((w.alloc (.deferred (some []))).alloc (.loop r))
      (rangePost Fence.wide n P (w.heap.size + 1) Q { a with defers := { target := .collected w.heap.size, args := #[] } :: a.defers })) :
    (Code.rangeFunc g ps assign body).wpIn Fence.wide n P Q a w := by
  refine wpIn_rangeFunc fun fn _ => ?_
  refine ⟨w.heap.size + 1, [{ target := .collected w.heap.size, args := #[] }], _, { target := .fn (.func gf) lb, args := #[.func (.yield (w.heap.size + 1)) #[] #[]] }, _, gf, _, _, run_enterLoop_outer _ _ _ _ _, ?_, fun _ _ => trivial, hinv _ _, fun h => (by cases h), h fn _ rfl⟩
  simp only [resolve, List.map_toArray, List.map_cons, List.map_nil, hg]
  rfl

/-- The two blocks, just laid. -/
theorem LoopAt.new (w : World) (r : Loop) : LoopAt ((w.alloc (.deferred (some []))).alloc (.loop r)) (w.heap.size + 1) w.heap.size r := by
  refine ⟨?_, ?_, by omega⟩
  · have := World.alloc_heap_new (w.alloc (.deferred (some []))) (.loop r)
    rwa [World.size_alloc] at this
  · exact (Below.heap_alloc _ _ _ (by simp)).trans (World.alloc_heap_new w _)
theorem Kept.putObj (W : World) (l : Nat) (o : Obj) : Kept (fun b => b = l) W (W.putObj l o) :=
  ⟨rfl, rfl, rfl, by simp, fun _ _ hn => World.putObj_heap_other hn⟩
theorem LoopAt.lt {W : World} {l D : Nat} {r : Loop} (h : LoopAt W l D r) : l < W.heap.size := (Array.getElem?_eq_some_iff.1 h.rec_).1
theorem LoopAt.put {W : World} {l D : Nat} {r : Loop} (h : LoopAt W l D r) (r' : Loop) : LoopAt (W.putObj l (.loop r')) l D r' :=
  ⟨World.putObj_heap_same h.lt, (World.putObj_heap_other h.ne_).trans h.def_, h.ne_⟩
/-- The record in a round. -/
def busyRec (r : Loop) : Loop := { r with state := .busy }
theorem LoopAt.begin_ {P : Program} {W : World} {l D : Nat} {r : Loop} (h : LoopAt W l D r) (hr : r.state = .ready) : (Instr.beginRound l).run P W = .ok () (W.putObj l (.loop (busyRec r))) :=
  run_beginRound h.rec_ hr
theorem LoopAt.end_ {P : Program} {W : World} {l D : Nat} {r : Loop} (h : LoopAt W l D (busyRec r)) (hr : r.state = .ready) (hp : r.pending = none) : (Instr.endRound l none).run P W = .ok (.bool true) (W.putObj l (.loop r)) := by
  rw [run_endRound none h.rec_]
  cases r
  simp only at hr hp
  subst hr hp
  rfl
/-- A round that leaves the loop by a jump. -/
def doneRec (r : Loop) (c : Code) : Loop := { r with state := .done, pending := some c }
theorem LoopAt.stop_ {P : Program} {W : World} {l D : Nat} {r : Loop} (c : Code) (h : LoopAt W l D (busyRec r)) : (Instr.endRound l (some c)).run P W = .ok (.bool false) (W.putObj l (.loop (doneRec r c))) := by
  rw [run_endRound (some c) h.rec_]
  rfl
/-- The record behind the loop. -/
def overRec (r : Loop) : Loop := { r with state := .exhausted }
theorem LoopAt.over_ {P : Program} {W : World} {l D : Nat} {r : Loop} (h : LoopAt W l D r) (hr : r.state = .ready) (hp : r.pending = none) : (Instr.endLoop l).run P W = .ok none (W.putObj l (.loop (overRec r))) :=
  (run_endLoop h.rec_ (by rw [hr]; decide)).trans (congrArg (fun p => Result.ok p (W.putObj l (.loop (overRec r)))) hp)
theorem LoopAt.over_done {P : Program} {W : World} {l D : Nat} {r : Loop} {c : Code} (h : LoopAt W l D (doneRec r c)) : (Instr.endLoop l).run P W = .ok (some c) (W.putObj l (.loop (overRec (doneRec r c)))) := by
  rw [run_endLoop h.rec_ (by simp [doneRec])]
  rfl
theorem Kept.takeDef {S : Nat → Prop} {w W : World} (h : Kept S w W) {D : Nat} (hD : w.heap.size ≤ D) : Kept S w (W.putObj D (.deferred none)) :=
  h.then_ (Kept.putObj W D _) fun i hi e => absurd e (by omega)

/-- append of ONE element that lies in a block of its own, inside a fence. -/
theorem listIn_push {F : Fence} {fu : Nat} {P : Program} (w : World) {ops : Array Oper} {rest : List Oper} {o : Oper} {a : Act} {Q : Exit → Act → World → Prop} (hgd : o.guard = none) (s x : Operand) (t : TypeId)
    (ho : o.op = .call { callee := .builtin .append, args := #[s, x], argTypes := #[t, t] })
    (base : Nat) (e : TypeId) (i : TypeInfo) (z : Value) (size bytes : Nat) (ht : P.underlying t = some (.slice e)) (hi : P.info? e = some i) (hz : i.zero = some z)
    (hsize : i.size = size) (hby : i.bytes = bytes) (hzs : z.cells.size = size) (hsz : 0 < size)
    (v : Value) (n : Nat) (xs : List Value) (hs : a.eval s = v) (hown : w.ownsRow base e size v n xs)
    (g0 : Nat) (cs : Array Value) (hx : a.eval x = .slice (some ⟨g0, 0, none⟩) 1 1) (hb : Blk w g0 e cs) (hl : cs.toList.length = 1 * size) (h1 : ∀ u ∈ cs.toList, u.oneCell' = true)
    (hbytes : (n + 1) * bytes ≤ 140737488355328) (hby0 : 0 < bytes) (hbase : base ≤ g0)
    (h : ∀ g cap w', w'.ownsRow base e size (.slice (some ⟨g, 0, none⟩) (n + 1) cap) (n + 1) (xs ++ cs.toList) → w.grownBy w' v.ownBlock → (v.ownBlock = some g ∨ g = w.heap.size) → g < w'.heap.size → wpListIn F fu P ops Q rest (a.put o.dst (.slice (some ⟨g, 0, none⟩) (n + 1) cap)) w') : wpListIn F fu P ops Q (o :: rest) a w := by
  refine wpListIn_plain hgd fun K hK' => ?_
  obtain ⟨g, cap, w', hrun, r1, r2, r3, r4⟩ := run_append_lies (P := P) w t o.type base e i z size bytes ht hi hz hsize hby hzs hsz v n xs hown ⟨g0, 0, none⟩ 1 1 cs.toList hl (World.news_of_block hb) h1 (by omega)
    (by have := Nat.le_mul_of_pos_right (n + 1) hby0; unfold maxLen; omega) hbytes (Nat.le_of_lt (Nat.lt_of_le_of_lt hbase hb.lt)) w.heap.size rfl
  unfold Oper.wpIn
  refine ⟨?_, ?_⟩
  · simp [Oper.about, ho, resolve, Target.leads, Sem.run_pure]
  · rw [Oper.semAt_plain F _ _ (by rw [ho]; intro c hc'; cases hc')]
    simp [execOp, ho, resolve, invoke, builtin, hs, hx, hrun, Result.andThen]
    exact hK' _ _ (h g cap w' r1 r2 r3 r4)
end Go.Proofs.YtmbekchnfbmhbaaGreat

/- Values. -/
namespace Go.Proofs.YtmbekchnfbmhbaaGreat
open Go.RowKit

/-- The values by node. -/
def valsOf (n : Nat) (L : List Pt) : List Int := (List.range n).map fun nd : Nat => valOf L (2 * (nd : Int))
def valCells (n : Nat) (L : List Pt) : Array Value := ((valsOf n L).map (Value.int .i8)).toArray

theorem int8_info : (Tryz.prog.info? 26).map (fun i => (i.zero, i.size, i.bytes)) = some (some (.int .i8 0), 1, 1) := by kernel_rfl

theorem valOf_push {L : List Pt} {p : Pt} (h0 : 0 ≤ p.lit) (hn : find L (p.lit / 2) = none) (nd : Nat) :
    valOf (L ++ [p]) (2 * (nd : Int)) = if (p.lit / 2).toNat = nd then 1 + p.lit % 2 else valOf L (2 * (nd : Int)) := by
  have e : (2 * (nd : Int)) / 2 = nd := by omega
  unfold valOf
  rw [find_append, e]
  by_cases hp : (p.lit / 2).toNat = nd
  · have hp2 : p.lit / 2 = nd := by omega
    rw [if_pos hp, ← hp2, hn]
    simp only [if_true]
    unfold valAt
    by_cases hq : p.lit = 2 * (p.lit / 2)
    · rw [if_pos hq]; omega
    · rw [if_neg hq]; omega
  · have hp2 : ¬ p.lit / 2 = nd := by omega
    rw [if_neg hp, if_neg hp2]
    cases find L nd <;> rfl

theorem valCells_push (n : Nat) {L : List Pt} {p : Pt} (h0 : 0 ≤ p.lit) (hn : find L (p.lit / 2) = none) :
    (valCells n L).setIfInBounds (p.lit / 2).toNat (.int .i8 (1 + p.lit % 2)) = valCells n (L ++ [p]) := by
  apply Array.ext
  · simp [valCells, valsOf]
  · intro i hi hi'
    have hin : i < n := by simpa [valCells, valsOf] using hi'
    rw [Array.getElem_setIfInBounds (by simpa [valCells, valsOf] using hin)]
    simp only [valCells, valsOf, List.getElem_toArray, List.getElem_map, List.getElem_range, valOf_push h0 hn]
    split <;> rfl

theorem and_code (m : Nat) (hm : m ≤ 140000) : IntKind.i8.wrap (wrap64 (1 + bits .and .i64 (m : Int) 1)) = 1 + (m : Int) % 2 := by
  rw [i64_and_one m (by omega) (by omega)]
  rcases Nat.mod_two_eq_zero_or_one m with h | h
  · rw [show ((m : Int) % 2) = 0 by omega]; decide +kernel
  · rw [show ((m : Int) % 2) = 1 by omega]; decide +kernel

/-- What Values hands back. -/
def GaveVals (w : World) (n : Nat) (L : List Pt) (e : Ending) (w' : World) : Prop :=
  ∃ g, e = .returned (.slice (some ⟨g, 0, none⟩) n n) ∧ w.heap.size ≤ g ∧ Blk w' g 26 (valCells n L) ∧ Below w.heap.size w w'

theorem Tr.Ok.fresh {M : Tr} (h : M.Ok) {k : Nat} (hk : k < M.L.length) : find (M.L.take k) (M.L[k].lit / 2) = none := by
  unfold find
  rw [List.find?_eq_none]
  intro q hq
  obtain ⟨i, hi, rfl⟩ := List.mem_take_iff_getElem.1 hq
  have := List.pairwise_iff_getElem.1 h.nodup i k (by omega) hk (by omega)
  simpa [isAt] using this

set_option maxHeartbeats 800000 in
theorem values_ok {w : World} {B bt ba : Nat} {lv : Value} {M : Tr} (h : TR w B bt ba lv M) :
    Calls Tryz.prog 37 #[.pointer (some ⟨bt, 0, none⟩)] w (GaveVals w M.n M.L) := by
  obtain ⟨i0, hi, hz0, hz1, hz2⟩ := info_parts int8_info
  have c0 := h.blk.cell 0
  have c1 := h.blk.cell 1
  simp only [List.getElem?_toArray, List.getElem?_cons_zero, List.getElem?_cons_succ] at c0 c1
  have q0 := h.blk.lt
  have hlen := h.ok.len
  have hN := h.ok.n
  have hmk := fun W => run_make_rowN (P := Tryz.prog) 27 26 i0 (.int .i8 0) Tryz.underlying27 hi hz0 .i64 .i64 M.n M.n (Nat.le_refl _) (by rw [hz2]; omega) (by omega) W
  rw [hz1, Nat.mul_one] at hmk
  have hmk2 : ∀ W : World, (Instr.makeSlice 27 (.int .i64 (M.n : Int)) (.int .i64 (M.n : Int))).run Tryz.prog W = .ok (.slice (some ⟨W.heap.size, 0, none⟩) M.n M.n) (W.alloc (.cells (valCells M.n []) 26)) := by
    intro W
    rw [hmk]
    have : madeCells (Value.int .i8 0).cells M.n = valCells M.n [] := by
      rw [show (Value.int IntKind.i8 0).cells = #[Value.int .i8 0] from rfl, made_one]
      simp [valCells, valsOf, valOf, find, List.map_const']
    rw [this]
  clear hmk
  have hO := Lib.hid h.own
  have hH := Lib.hid h
  have hlv : lv = .slice none 0 0 ∧ M.L.length = 0 ∨ ∃ g cap, lv = .slice (some ⟨g, 0, none⟩) M.L.length cap ∧ g < w.heap.size ∧ M.L.length ≤ cap := by
    rcases h.own.2 with ⟨hv, h0⟩ | ⟨g, cap, cur, hv, hb, hg, hc, _⟩
    · exact .inl ⟨hv, h0⟩
    · exact .inr ⟨g, cap, hv, Blk.lt hg, hc⟩
  clear h
  rcases hlv with ⟨rfl, h0⟩ | ⟨g, cap, rfl, hg, hcap⟩
  · have hnil : M.L = [] := List.eq_nil_of_length_eq_zero h0
    rw [hnil]
    clear h0 hnil hO hH hlen
    generalize M.n = N at *
    generalize hC0 : valCells N [] = C at *
    have hC := Lib.hid hC0
    clear hC0
    go_enter Tryz.func37, Tryz.ntmps37
    go_wp2
    go_loopw [19] (fun i wr => i = .int .i64 0 ∧ Blk wr w.heap.size 26 C ∧ Below w.heap.size w wr) (fun _ _ => 0)
    case atStart => exact ⟨rfl, Blk.new _ _ _, (Below.refl _ _).alloc (Nat.le_refl _) _⟩
    case round =>
      obtain ⟨rfl, hb, hbel⟩ := hrel
      go_wp2
      go_ret
      exact ⟨_, rfl, Nat.le_refl _, hC.out ▸ hb, hbel⟩
  · go_enter Tryz.func37, Tryz.ntmps37
    go_wp2
    go_loopw [19] (fun i wr => ∃ k : Nat, k ≤ M.L.length ∧ i = .int .i64 k ∧ Blk wr w.heap.size 26 (valCells M.n (M.L.take k)) ∧ Below w.heap.size w wr) (fun i _ => M.L.length - (intOf i).toNat)
    case atStart => exact ⟨0, Nat.zero_le _, rfl, by rw [List.take_zero]; exact Blk.new _ _ _, (Below.refl _ _).alloc (Nat.le_refl _) _⟩
    case round =>
      obtain ⟨k, hk, rfl, hb, hbel⟩ := hrel
      by_cases hlt : k < M.L.length
      · have hlit := hH.out.ok.lit M.L[k] (List.getElem_mem _)
        have hfr := hH.out.ok.fresh hlt
        obtain ⟨m, hm⟩ := Int.eq_ofNat_of_zero_le hlit.1
        have e0 : wr.cell? ⟨g, k * 3, none⟩ = some (.int .i64 m) := by
          rw [hbel.cell (p := ⟨g, k * 3, none⟩) hg, show k * 3 = k * 3 + 0 by omega, own_cell putCells putCells_len hO.out hlt (by omega), ← hm]; rfl
        have e1 : wr.cell? ⟨g, k * 3 + 1, none⟩ = some (.int .i64 M.L[k].level) := by
          rw [hbel.cell (p := ⟨g, k * 3 + 1, none⟩) hg, own_cell putCells putCells_len hO.out hlt (by omega)]; rfl
        have e2 : wr.cell? ⟨g, k * 3 + 2, none⟩ = some (.int .i64 M.L[k].reason) := by
          rw [hbel.cell (p := ⟨g, k * 3 + 2, none⟩) hg, own_cell putCells putCells_len hO.out hlt (by omega)]; rfl
        have hsz := hbel.size
        have hgr : g < wr.heap.size := by omega
        have hhr := hb.lt
        have hmn : m / 2 < M.n := by omega
        have e3 : ∃ u, wr.cell? ⟨w.heap.size, m / 2, none⟩ = some u := ⟨_, (hb.cell _).trans (Array.getElem?_eq_getElem (by simp [valCells, valsOf]; omega))⟩
        obtain ⟨u3, e3⟩ := e3
        have f3 := hb.frozen (m / 2)
        have hcode := Lib.hid (and_code m (by omega))
        have hpush := Lib.hid (valCells_push M.n hlit.1 hfr)
        rw [hm] at hpush
        have htk : Hid (M.L.take (k + 1) = M.L.take k ++ [M.L[k]]) := Lib.hid (List.take_succ_eq_append_getElem hlt)
        clear hm hlit hfr
        generalize M.L[k] = p at *
        go_wp2
        refine ⟨⟨k + 1, by omega, by go_num, ?_, (hbel.setCell (p := ⟨w.heap.size, m / 2, none⟩) (Nat.le_refl _) _).alloc (by simpa [World.setCell] using hsz) _⟩, by simp [intOf]; omega⟩
        rw [htk.out, ← hpush.out, ← hcode.out, show ((m : Int) / 2).toNat = m / 2 by omega]
        exact (hb.set_ _ _).alloc _
      · obtain rfl : k = M.L.length := by omega
        rw [List.take_length] at hb
        go_wp2
        go_ret
        exact ⟨_, rfl, Nat.le_refl _, hb, hbel⟩
theorem values_nil (w : World) :
    Calls Tryz.prog 37 #[.pointer none] w fun e w' => e = .returned (.slice none 0 0) ∧ w = w' := by
  go_enter Tryz.func37, Tryz.ntmps37
  go_wp2
  go_ret
  exact ⟨rfl, rfl⟩
end Go.Proofs.YtmbekchnfbmhbaaGreat

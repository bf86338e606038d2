/- Behind, All. -/
import Derived.Test.YtnfeggeahnjdeaaTrailB
namespace Go.Proofs.Ytnfeggeahnjdeaa
open Go.RowKit

/-- The place that Behind begins at. -/
def clampAt (at_ : Int) (n : Nat) : Nat := (max 0 (min at_ n)).toNat

/-- What Behind hands back. -/
def GaveLits (w : World) (L : List Pt) (e : Ending) (w' : World) : Prop :=
  ∃ v, e = .returned v ∧ w'.ownsRow w.heap.size 3 1 v L.length (L.map fun p => .int .i64 p.lit) ∧ Below w.heap.size w w'

set_option maxHeartbeats 800000 in
theorem behind_low {w : World} {B bt ba : Nat} {lv : Value} {M : Tr} (h : TR w B bt ba lv M) (at_ : Int) (ha : at_ ≤ 0) (hk : 0 < M.L.length) :
    Calls Try.prog 37 #[.pointer (some ⟨bt, 0, none⟩), .int .i64 at_] w (GaveLits w (M.L.drop 0)) := by
  obtain ⟨i0, hi, hz0, hz1, hz2⟩ := info_parts tint_info
  have c0 := h.blk.cell 0
  simp only [List.getElem?_toArray, List.getElem?_cons_zero] at c0
  have hlen := h.ok.len
  have hN := h.ok.n
  obtain ⟨g, cap, rfl, hg, hcap⟩ := h.lv_form (by omega)
  have hO := Lib.hid h.own
  have d1 : ¬ (M.L.length : Int) < at_ := by omega
  have d2 : ¬ (0 : Int) < at_ := by omega
  have h1c : ∀ p : Pt, Hid (∀ u ∈ #[Value.int .i64 p.lit].toList, u.oneCell' = true) := fun p => Lib.hid (by simp [Value.oneCell'])
  clear h
  go_enter Try.func37, Try.ntmps37
  go_wp2
  go_region
  all_goals go_wp2
  go_loopw [23, 4] (fun i v wr => ∃ j : Nat, j ≤ M.L.length ∧ i = .int .i64 j ∧ wr.ownsRow w.heap.size 3 1 v j (((M.L.drop 0).take j).map fun p => .int .i64 p.lit) ∧ Below w.heap.size w wr) (fun i _ _ => M.L.length - (intOf i).toNat)
  case atStart => exact ⟨0, Nat.zero_le _, rfl, World.ownsRow_nil _ _ _ _, (Below.refl _ _).drew⟩
  case round =>
    obtain ⟨j, hj, rfl, hown, hbel⟩ := hrel
    by_cases hlt : j < M.L.length
    · have hkj : 0 + j < M.L.length := by omega
      have e0 : wr.cell? ⟨g, j * 3, none⟩ = some (.int .i64 M.L[0 + j].lit) := by
        rw [hbel.cell (p := ⟨g, j * 3, none⟩) hg, show j * 3 = (0 + j) * 3 + 0 by omega, own_cell putCells putCells_len hO.out hkj (by omega)]; rfl
      have e1 : wr.cell? ⟨g, j * 3 + 1, none⟩ = some (.int .i64 M.L[0 + j].level) := by
        rw [hbel.cell (p := ⟨g, j * 3 + 1, none⟩) hg, show j * 3 + 1 = (0 + j) * 3 + 1 by omega, own_cell putCells putCells_len hO.out hkj (by omega)]; rfl
      have e2 : wr.cell? ⟨g, j * 3 + 2, none⟩ = some (.int .i64 M.L[0 + j].reason) := by
        rw [hbel.cell (p := ⟨g, j * 3 + 2, none⟩) hg, show j * 3 + 2 = (0 + j) * 3 + 2 by omega, own_cell putCells putCells_len hO.out hkj (by omega)]; rfl
      have hts : Hid (((M.L.drop 0).take (j + 1)).map (fun p => Value.int .i64 p.lit) = ((M.L.drop 0).take j).map (fun p => Value.int .i64 p.lit) ++ [.int .i64 M.L[0 + j].lit]) := by
        apply Lib.hid
        rw [List.take_succ_eq_append_getElem (by rw [List.length_drop]; omega), List.map_append]; simp
      have hsz := hbel.size
      have hgr : g < wr.heap.size := by omega
      generalize M.L[0 + j] = p at *
      go_wp2_with (at_builtin; refine list_push _ rfl (.tmp 27) (.tmp 30) 23 rfl w.heap.size 3 i0 (.int .i64 0) 1 8 Try.underlying23 hi hz0 hz1 hz2 rfl (by decide) u4 j _ rfl ((hown.alloc _).alloc _) (wr.heap.size + 1) #[.int .i64 p.lit] rfl (Blk.new_at (by simp) _ _) rfl (h1c p).out (by omega) (by omega) (by omega) (fun g2 cap2 w1 hown1 hgrow hat hlt1 => ?_))
      have hb1 : Below w.heap.size w w1 := ((hbel.alloc hsz _).alloc (by simp; omega) _).grown hgrow (by simp; omega) (fun q hq => (hown.lt q hq).1)
      exact ⟨⟨j + 1, by omega, by go_num, by rw [hts.out]; exact hown1, hb1⟩, by simp [intOf]; omega⟩
    · obtain rfl : j = M.L.length := by omega
      go_wp2
      go_ret
      refine ⟨_, rfl, ?_, hbel⟩
      rw [List.take_of_length_le (by rw [List.length_drop]; omega)] at hown
      rw [List.length_drop]
      exact hown

set_option maxHeartbeats 800000 in
theorem behind_in {w : World} {B bt ba : Nat} {lv : Value} {M : Tr} (h : TR w B bt ba lv M) (k : Nat) (h0 : 0 < k) (hk : k < M.L.length) :
    Calls Try.prog 37 #[.pointer (some ⟨bt, 0, none⟩), .int .i64 k] w (GaveLits w (M.L.drop k)) := by
  obtain ⟨i0, hi, hz0, hz1, hz2⟩ := info_parts tint_info
  have c0 := h.blk.cell 0
  simp only [List.getElem?_toArray, List.getElem?_cons_zero] at c0
  have hlen := h.ok.len
  have hN := h.ok.n
  obtain ⟨g, cap, rfl, hg, hcap⟩ := h.lv_form (by omega)
  have hO := Lib.hid h.own
  have d1 : ¬ (M.L.length : Int) < (k : Int) := by omega
  have d2 : cap ≠ k := by omega
  have h1c : ∀ p : Pt, Hid (∀ u ∈ #[Value.int .i64 p.lit].toList, u.oneCell' = true) := fun p => Lib.hid (by simp [Value.oneCell'])
  clear h
  go_enter Try.func37, Try.ntmps37
  go_wp2
  go_region
  all_goals go_wp2
  go_loopw [23, 4] (fun i v wr => ∃ j : Nat, j ≤ (M.L.length - k) ∧ i = .int .i64 j ∧ wr.ownsRow w.heap.size 3 1 v j (((M.L.drop k).take j).map fun p => .int .i64 p.lit) ∧ Below w.heap.size w wr) (fun i _ _ => (M.L.length - k) - (intOf i).toNat)
  case atStart => exact ⟨0, Nat.zero_le _, rfl, World.ownsRow_nil _ _ _ _, (Below.refl _ _).drew⟩
  case round =>
    obtain ⟨j, hj, rfl, hown, hbel⟩ := hrel
    by_cases hlt : j < (M.L.length - k)
    · have hkj : k + j < M.L.length := by omega
      have e0 : wr.cell? ⟨g, k * 3 + j * 3, none⟩ = some (.int .i64 M.L[k + j].lit) := by
        rw [hbel.cell (p := ⟨g, k * 3 + j * 3, none⟩) hg, show k * 3 + j * 3 = (k + j) * 3 + 0 by omega, own_cell putCells putCells_len hO.out hkj (by omega)]; rfl
      have e1 : wr.cell? ⟨g, k * 3 + j * 3 + 1, none⟩ = some (.int .i64 M.L[k + j].level) := by
        rw [hbel.cell (p := ⟨g, k * 3 + j * 3 + 1, none⟩) hg, show k * 3 + j * 3 + 1 = (k + j) * 3 + 1 by omega, own_cell putCells putCells_len hO.out hkj (by omega)]; rfl
      have e2 : wr.cell? ⟨g, k * 3 + j * 3 + 2, none⟩ = some (.int .i64 M.L[k + j].reason) := by
        rw [hbel.cell (p := ⟨g, k * 3 + j * 3 + 2, none⟩) hg, show k * 3 + j * 3 + 2 = (k + j) * 3 + 2 by omega, own_cell putCells putCells_len hO.out hkj (by omega)]; rfl
      have hts : Hid (((M.L.drop k).take (j + 1)).map (fun p => Value.int .i64 p.lit) = ((M.L.drop k).take j).map (fun p => Value.int .i64 p.lit) ++ [.int .i64 M.L[k + j].lit]) := by
        apply Lib.hid
        rw [List.take_succ_eq_append_getElem (by rw [List.length_drop]; omega), List.map_append]; simp
      have hsz := hbel.size
      have hgr : g < wr.heap.size := by omega
      generalize M.L[k + j] = p at *
      go_wp2_with (at_builtin; refine list_push _ rfl (.tmp 27) (.tmp 30) 23 rfl w.heap.size 3 i0 (.int .i64 0) 1 8 Try.underlying23 hi hz0 hz1 hz2 rfl (by decide) u4 j _ rfl ((hown.alloc _).alloc _) (wr.heap.size + 1) #[.int .i64 p.lit] rfl (Blk.new_at (by simp) _ _) rfl (h1c p).out (by omega) (by omega) (by omega) (fun g2 cap2 w1 hown1 hgrow hat hlt1 => ?_))
      have hb1 : Below w.heap.size w w1 := ((hbel.alloc hsz _).alloc (by simp; omega) _).grown hgrow (by simp; omega) (fun q hq => (hown.lt q hq).1)
      exact ⟨⟨j + 1, by omega, by go_num, by rw [hts.out]; exact hown1, hb1⟩, by simp [intOf]; omega⟩
    · obtain rfl : j = (M.L.length - k) := by omega
      go_wp2
      go_ret
      refine ⟨_, rfl, ?_, hbel⟩
      rw [List.take_of_length_le (by rw [List.length_drop]; omega)] at hown
      rw [List.length_drop]
      exact hown

set_option maxHeartbeats 800000 in
theorem behind_over {w : World} {B bt ba : Nat} {lv : Value} {M : Tr} (h : TR w B bt ba lv M) (at_ : Int) (ha : (M.L.length : Int) < at_) :
    Calls Try.prog 37 #[.pointer (some ⟨bt, 0, none⟩), .int .i64 at_] w (GaveLits w []) := by
  have c0 := h.blk.cell 0
  simp only [List.getElem?_toArray, List.getElem?_cons_zero] at c0
  have hlen := h.ok.len
  have hN := h.ok.n
  generalize hn : M.L.length = n at *
  rcases h.own.2 with ⟨rfl, hz⟩ | ⟨g, cap, cur, rfl, _, hg, hcap, _⟩
  · rw [hn] at hz
    subst hz
    clear h hn
    go_enter Try.func37, Try.ntmps37
    go_wp2
    go_region
    all_goals go_wp2
    go_loopw [23, 4] (fun i v wr => i = .int .i64 0 ∧ v = .slice none 0 0 ∧ Below w.heap.size w wr) (fun _ _ _ => 0)
    case atStart => exact ⟨rfl, rfl, (Below.refl _ _).drew⟩
    case round =>
      obtain ⟨rfl, rfl, hbel⟩ := hrel
      go_wp2
      go_ret
      exact ⟨_, rfl, World.ownsRow_nil _ _ _ _, hbel⟩
  · rw [hn] at hcap c0
    clear h hn hg
    by_cases e3 : 0 < n
    · by_cases e1 : cap = n
      · go_enter Try.func37, Try.ntmps37
        go_wp2
        go_region
        all_goals go_wp2
        go_loopw [23, 4] (fun i v wr => i = .int .i64 0 ∧ v = .slice none 0 0 ∧ Below w.heap.size w wr) (fun _ _ _ => 0)
        case atStart => exact ⟨rfl, rfl, (Below.refl _ _).drew⟩
        case round =>
          obtain ⟨rfl, rfl, hbel⟩ := hrel
          go_wp2
          go_ret
          exact ⟨_, rfl, World.ownsRow_nil _ _ _ _, hbel⟩
      · go_enter Try.func37, Try.ntmps37
        go_wp2
        go_region
        all_goals go_wp2
        go_loopw [23, 4] (fun i v wr => i = .int .i64 0 ∧ v = .slice none 0 0 ∧ Below w.heap.size w wr) (fun _ _ _ => 0)
        case atStart => exact ⟨rfl, rfl, (Below.refl _ _).drew⟩
        case round =>
          obtain ⟨rfl, rfl, hbel⟩ := hrel
          go_wp2
          go_ret
          exact ⟨_, rfl, World.ownsRow_nil _ _ _ _, hbel⟩
    · obtain rfl : n = 0 := by omega
      by_cases e1 : cap = 0
      · go_enter Try.func37, Try.ntmps37
        go_wp2
        go_region
        all_goals go_wp2
        go_loopw [23, 4] (fun i v wr => i = .int .i64 0 ∧ v = .slice none 0 0 ∧ Below w.heap.size w wr) (fun _ _ _ => 0)
        case atStart => exact ⟨rfl, rfl, (Below.refl _ _).drew⟩
        case round =>
          obtain ⟨rfl, rfl, hbel⟩ := hrel
          go_wp2
          go_ret
          exact ⟨_, rfl, World.ownsRow_nil _ _ _ _, hbel⟩
      · go_enter Try.func37, Try.ntmps37
        go_wp2
        go_region
        all_goals go_wp2
        go_loopw [23, 4] (fun i v wr => i = .int .i64 0 ∧ v = .slice none 0 0 ∧ Below w.heap.size w wr) (fun _ _ _ => 0)
        case atStart => exact ⟨rfl, rfl, (Below.refl _ _).drew⟩
        case round =>
          obtain ⟨rfl, rfl, hbel⟩ := hrel
          go_wp2
          go_ret
          exact ⟨_, rfl, World.ownsRow_nil _ _ _ _, hbel⟩

set_option maxHeartbeats 800000 in
theorem behind_end {w : World} {B bt ba : Nat} {lv : Value} {M : Tr} (h : TR w B bt ba lv M)  :
    Calls Try.prog 37 #[.pointer (some ⟨bt, 0, none⟩), .int .i64 (M.L.length : Int)] w (GaveLits w []) := by
  have c0 := h.blk.cell 0
  simp only [List.getElem?_toArray, List.getElem?_cons_zero] at c0
  have hlen := h.ok.len
  have hN := h.ok.n
  generalize hn : M.L.length = n at *
  rcases h.own.2 with ⟨rfl, hz⟩ | ⟨g, cap, cur, rfl, _, hg, hcap, _⟩
  · rw [hn] at hz
    subst hz
    clear h hn
    go_enter Try.func37, Try.ntmps37
    go_wp2
    go_region
    all_goals go_wp2
    go_loopw [23, 4] (fun i v wr => i = .int .i64 0 ∧ v = .slice none 0 0 ∧ Below w.heap.size w wr) (fun _ _ _ => 0)
    case atStart => exact ⟨rfl, rfl, (Below.refl _ _).drew⟩
    case round =>
      obtain ⟨rfl, rfl, hbel⟩ := hrel
      go_wp2
      go_ret
      exact ⟨_, rfl, World.ownsRow_nil _ _ _ _, hbel⟩
  · rw [hn] at hcap c0
    clear h hn hg
    by_cases e3 : 0 < n
    · by_cases e1 : cap = n
      · go_enter Try.func37, Try.ntmps37
        go_wp2
        go_region
        all_goals go_wp2
        go_loopw [23, 4] (fun i v wr => i = .int .i64 0 ∧ v = .slice none 0 0 ∧ Below w.heap.size w wr) (fun _ _ _ => 0)
        case atStart => exact ⟨rfl, rfl, (Below.refl _ _).drew⟩
        case round =>
          obtain ⟨rfl, rfl, hbel⟩ := hrel
          go_wp2
          go_ret
          exact ⟨_, rfl, World.ownsRow_nil _ _ _ _, hbel⟩
      · go_enter Try.func37, Try.ntmps37
        go_wp2
        go_region
        all_goals go_wp2
        go_loopw [23, 4] (fun i v wr => i = .int .i64 0 ∧ v = .slice none 0 0 ∧ Below w.heap.size w wr) (fun _ _ _ => 0)
        case atStart => exact ⟨rfl, rfl, (Below.refl _ _).drew⟩
        case round =>
          obtain ⟨rfl, rfl, hbel⟩ := hrel
          go_wp2
          go_ret
          exact ⟨_, rfl, World.ownsRow_nil _ _ _ _, hbel⟩
    · obtain rfl : n = 0 := by omega
      by_cases e1 : cap = 0
      · go_enter Try.func37, Try.ntmps37
        go_wp2
        go_region
        all_goals go_wp2
        go_loopw [23, 4] (fun i v wr => i = .int .i64 0 ∧ v = .slice none 0 0 ∧ Below w.heap.size w wr) (fun _ _ _ => 0)
        case atStart => exact ⟨rfl, rfl, (Below.refl _ _).drew⟩
        case round =>
          obtain ⟨rfl, rfl, hbel⟩ := hrel
          go_wp2
          go_ret
          exact ⟨_, rfl, World.ownsRow_nil _ _ _ _, hbel⟩
      · go_enter Try.func37, Try.ntmps37
        go_wp2
        go_region
        all_goals go_wp2
        go_loopw [23, 4] (fun i v wr => i = .int .i64 0 ∧ v = .slice none 0 0 ∧ Below w.heap.size w wr) (fun _ _ _ => 0)
        case atStart => exact ⟨rfl, rfl, (Below.refl _ _).drew⟩
        case round =>
          obtain ⟨rfl, rfl, hbel⟩ := hrel
          go_wp2
          go_ret
          exact ⟨_, rfl, World.ownsRow_nil _ _ _ _, hbel⟩

theorem behind_bare {w : World} {bt : Nat} (A : Option Addr) (cap : Nat) (c0 : w.cell? ⟨bt, 0, none⟩ = some (.slice A 0 cap)) (hA : A = none → cap = 0) (at_ : Int) (ha : at_ < 0) :
    Calls Try.prog 37 #[.pointer (some ⟨bt, 0, none⟩), .int .i64 at_] w (GaveLits w []) := by
  have e5 : ((0 : Int) < at_) = False := eq_false (by omega)
  rcases A with _ | ⟨g, o, s⟩
  · obtain rfl := hA rfl
    clear hA
    go_enter Try.func37, Try.ntmps37
    go_wp2
    go_region
    all_goals go_wp2
    go_loopw [23, 4] (fun i v wr => i = .int .i64 0 ∧ v = .slice none 0 0 ∧ Below w.heap.size w wr) (fun _ _ _ => 0)
    case atStart => exact ⟨rfl, rfl, (Below.refl _ _).drew⟩
    case round =>
      obtain ⟨rfl, rfl, hbel⟩ := hrel
      go_wp2
      go_ret
      exact ⟨_, rfl, World.ownsRow_nil _ _ _ _, hbel⟩
  · clear hA
    rcases Nat.eq_zero_or_pos cap with rfl | hc
    · go_enter Try.func37, Try.ntmps37
      go_wp2
      go_region
      all_goals go_wp2
      go_loopw [23, 4] (fun i v wr => i = .int .i64 0 ∧ v = .slice none 0 0 ∧ Below w.heap.size w wr) (fun _ _ _ => 0)
      case atStart => exact ⟨rfl, rfl, (Below.refl _ _).drew⟩
      case round =>
        obtain ⟨rfl, rfl, hbel⟩ := hrel
        go_wp2
        go_ret
        exact ⟨_, rfl, World.ownsRow_nil _ _ _ _, hbel⟩
    · go_enter Try.func37, Try.ntmps37
      go_wp2
      go_region
      all_goals go_wp2
      go_loopw [23, 4] (fun i v wr => i = .int .i64 0 ∧ v = .slice none 0 0 ∧ Below w.heap.size w wr) (fun _ _ _ => 0)
      case atStart => exact ⟨rfl, rfl, (Below.refl _ _).drew⟩
      case round =>
        obtain ⟨rfl, rfl, hbel⟩ := hrel
        go_wp2
        go_ret
        exact ⟨_, rfl, World.ownsRow_nil _ _ _ _, hbel⟩

theorem behind_ok {w : World} {B bt ba : Nat} {lv : Value} {M : Tr} (h : TR w B bt ba lv M) (at_ : Int) :
    Calls Try.prog 37 #[.pointer (some ⟨bt, 0, none⟩), .int .i64 at_] w (GaveLits w (M.L.drop (clampAt at_ M.L.length))) := by
  by_cases h0 : M.L.length = 0
  · have hd : M.L.drop (clampAt at_ M.L.length) = [] := List.drop_eq_nil_of_le (by omega)
    rw [hd]
    rcases Int.lt_trichotomy at_ 0 with h1 | rfl | h1
    · have c0 := h.blk.cell 0
      simp only [List.getElem?_toArray, List.getElem?_cons_zero] at c0
      rcases h.own.2 with ⟨rfl, _⟩ | ⟨g, cap, cur, rfl, _, _, _⟩
      · exact behind_bare none 0 c0 (fun _ => rfl) at_ h1
      · exact behind_bare (some ⟨g, 0, none⟩) cap (h0 ▸ c0) (fun h => by cases h) at_ h1
    · have := behind_end h
      rw [h0] at this
      exact this
    · exact behind_over h at_ (by omega)
  · by_cases h1 : at_ ≤ 0
    · rw [show clampAt at_ M.L.length = 0 by unfold clampAt; omega]
      exact behind_low h at_ h1 (by omega)
    · obtain ⟨k, rfl⟩ := Int.eq_ofNat_of_zero_le (show 0 ≤ at_ by omega)
      by_cases h2 : k < M.L.length
      · rw [show clampAt k M.L.length = k by unfold clampAt; omega]
        exact behind_in h k (by omega) h2
      · have hd : M.L.drop (clampAt k M.L.length) = [] := List.drop_eq_nil_of_le (by unfold clampAt; omega)
        rw [hd]
        by_cases h3 : k = M.L.length
        · subst h3
          exact behind_end h
        · exact behind_over h k (by omega)
theorem behind_nil (at_ : Int) (w : World) :
    Calls Try.prog 37 #[.pointer none, .int .i64 at_] w (GaveLits w []) := by
  go_enter Try.func37, Try.ntmps37
  go_wp2
  go_ret
  exact ⟨_, rfl, World.ownsRow_nil _ _ _ _, Below.refl _ _⟩
theorem all_ok {w : World} {B bt ba : Nat} {lv : Value} {M : Tr} (h : TR w B bt ba lv M) :
    Calls Try.prog 30 #[.pointer (some ⟨bt, 0, none⟩)] w (GaveLits w M.L) := by
  have hb := behind_ok h 0
  rw [show clampAt 0 M.L.length = 0 by unfold clampAt; omega, List.drop_zero] at hb
  have H := Lib.hid hb
  clear hb
  go_enter Try.func30, Try.ntmps30
  go_wp2_with (go_at_call 37; refine H.out.mono ?_; rintro e w1 ⟨v, rfl, hv⟩)
  go_ret
  exact ⟨v, rfl, hv⟩
theorem all_nil (w : World) :
    Calls Try.prog 30 #[.pointer none] w (GaveLits w []) := by
  go_enter Try.func30, Try.ntmps30
  go_wp2_with (go_at_call 37; refine (behind_nil _ _).mono ?_; rintro e w1 ⟨v, rfl, hv⟩)
  go_ret
  exact ⟨v, rfl, hv⟩
end Go.Proofs.Ytnfeggeahnjdeaa

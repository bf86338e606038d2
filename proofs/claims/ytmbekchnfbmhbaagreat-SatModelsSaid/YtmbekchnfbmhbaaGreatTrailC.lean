/- Contracts of the trail's functions that only read. -/
import Derived.Test.YtmbekchnfbmhbaaGreatRows
import Derived.Test.YtmbekchnfbmhbaaGreatModel
namespace Go.Proofs.YtmbekchnfbmhbaaGreat
open Go.RowKit

def putCells (p : Pt) : List Value := [.int .i64 p.lit, .int .i64 p.level, .int .i64 p.reason]
def atCells (M : Tr) : Array Value := ((List.range M.n).map fun nd => Value.int .i64 (atOf M.L nd)).toArray

structure TR (w : World) (B bt ba : Nat) (lv : Value) (M : Tr) : Prop where
  blk : Blk w bt 64 #[lv, .slice (some ⟨ba, 0, none⟩) M.n M.n, .int .i64 M.lv]
  at_ : Blk w ba 3 (atCells M)
  own : w.ownsRow B 88 3 lv M.L.length (M.L.flatMap putCells)
  hbt : B ≤ bt
  hba : B ≤ ba
  ok : M.Ok

theorem putCells_len (p : Pt) : (putCells p).length = 3 := rfl

section
variable {w : World} {B bt ba : Nat} {lv : Value} {M : Tr}
theorem TR.at_cell (h : TR w B bt ba lv M) {nd : Nat} (hn : nd < M.n) : w.cell? ⟨ba, nd, none⟩ = some (.int .i64 (atOf M.L nd)) := by
  rw [h.at_.cell]
  simp [atCells, hn]
theorem TR.lv_form (h : TR w B bt ba lv M) (hn : 0 < M.L.length) : ∃ g cap, lv = .slice (some ⟨g, 0, none⟩) M.L.length cap ∧ g < w.heap.size ∧ M.L.length ≤ cap := by
  rcases h.own.2 with ⟨_, h0⟩ | ⟨g, cap, cur, hv, hb, hg, hc, _⟩
  · omega
  · exact ⟨g, cap, hv, Blk.lt hg, hc⟩
end

set_option maxHeartbeats 400000 in
theorem of_some {w : World} {B bt ba : Nat} {lv : Value} {M : Tr} (h : TR w B bt ba lv M) (node : Int) (p : Pt) (hf : find M.L node = some p) :
    Calls Tryz.prog 65 #[.pointer (some ⟨bt, 0, none⟩), .int .i64 node] w fun e w' => e = .returned (.tuple #[.agg #[.int .i64 p.lit, .int .i64 p.level, .int .i64 p.reason], .bool true]) ∧ Below w.heap.size w w' := by
  have hb1 : ¬ (node < 0 ∨ M.n ≤ node) := fun hc => by rw [find_out h.ok hc] at hf; cases hf
  obtain ⟨nd, rfl⟩ := Int.eq_ofNat_of_zero_le (show 0 ≤ node by omega)
  obtain ⟨i, hi, hL, hat, _⟩ := find_some_at hf
  obtain ⟨g, cap, rfl, hg, hcap⟩ := h.lv_form (by omega)
  have hnd : nd < M.n := by omega
  have hlen := h.ok.len
  have hN := h.ok.n
  have c0 := h.blk.cell 0
  have c1 := h.blk.cell 1
  have c2 : w.cell? ⟨ba, nd, none⟩ = some (.int .i64 ((i : Int) + 1)) := by rw [h.at_cell hnd, hat]; simp
  have c3 := own_cell putCells putCells_len h.own hi (j := 0) (by omega)
  have c4 := own_cell putCells putCells_len h.own hi (j := 1) (by omega)
  have c5 := own_cell putCells putCells_len h.own hi (j := 2) (by omega)
  rw [hL] at c3 c4 c5
  simp only [putCells, List.getElem?_cons_zero, List.getElem?_cons_succ, List.getElem?_toArray, Nat.add_zero] at c0 c1 c3 c4 c5
  have q0 := h.blk.lt
  have q1 := h.at_.lt
  have d1 : decide ((nd : Int) < 0) = false := by simp
  have d2 : decide (M.n ≤ nd) = false := by simp; omega
  have d3 : ((i : Int) + 1 == 0) = false := by simp; omega
  clear hf hL hat h hb1
  generalize M.n = N at *
  generalize M.L.length = n at *
  go_enter Tryz.func65, Tryz.ntmps65
  go_wp2
  go_region
  all_goals go_wp2
  all_goals refine bodyPost_ret (v := .tuple #[.agg #[.int .i64 p.lit, .int .i64 p.level, .int .i64 p.reason], .bool true]) (by simp [results, Tryz.results65, go_sem]) rfl ⟨rfl, ?_⟩
  all_goals exact ((Below.refl _ _).alloc (Nat.le_refl _) _).drew

set_option maxHeartbeats 400000 in
theorem of_none {w : World} {B bt ba : Nat} {lv : Value} {M : Tr} (h : TR w B bt ba lv M) (node : Int) (hf : find M.L node = none) :
    Calls Tryz.prog 65 #[.pointer (some ⟨bt, 0, none⟩), .int .i64 node] w fun e w' => e = .returned (.tuple #[.agg #[.int .i64 0, .int .i64 0, .int .i64 0], .bool false]) ∧ Below w.heap.size w w' := by
  have c1 := h.blk.cell 1
  simp only [List.getElem?_toArray, List.getElem?_cons_zero, List.getElem?_cons_succ] at c1
  have q0 := h.blk.lt
  have q1 := h.at_.lt
  have hN := h.ok.n
  by_cases h1 : node < 0
  · have d1 : decide (node < 0) = true := by simpa using h1
    go_enter Tryz.func65, Tryz.ntmps65
    go_wp2
    refine bodyPost_ret (v := .tuple #[.agg #[.int .i64 0, .int .i64 0, .int .i64 0], .bool false]) (by simp [results, Tryz.results65, go_sem]) rfl ⟨rfl, ?_⟩
    exact (Below.refl _ _).alloc (Nat.le_refl _) _
  · obtain ⟨nd, rfl⟩ := Int.eq_ofNat_of_zero_le (show 0 ≤ node by omega)
    have d1 : decide ((nd : Int) < 0) = false := by simp
    by_cases h2 : M.n ≤ nd
    · have d2 : decide (M.n ≤ nd) = true := by simpa using h2
      generalize M.n = N at *
      clear hf h
      go_enter Tryz.func65, Tryz.ntmps65
      go_wp2
      refine bodyPost_ret (v := .tuple #[.agg #[.int .i64 0, .int .i64 0, .int .i64 0], .bool false]) (by simp [results, Tryz.results65, go_sem]) rfl ⟨rfl, ?_⟩
      exact (Below.refl _ _).alloc (Nat.le_refl _) _
    · have d2 : decide (M.n ≤ nd) = false := by simpa using h2
      have c2 : w.cell? ⟨ba, nd, none⟩ = some (.int .i64 0) := by rw [h.at_cell (by omega), find_none_at hf]; rfl
      have hnd : nd < M.n := by omega
      generalize M.n = N at *
      clear hf h
      go_enter Tryz.func65, Tryz.ntmps65
      go_wp2
      refine bodyPost_ret (v := .tuple #[.agg #[.int .i64 0, .int .i64 0, .int .i64 0], .bool false]) (by simp [results, Tryz.results65, go_sem]) rfl ⟨rfl, ?_⟩
      exact (Below.refl _ _).alloc (Nat.le_refl _) _

set_option maxHeartbeats 400000 in
theorem of_nil {w : World} (node : Int) :
    Calls Tryz.prog 65 #[.pointer none, .int .i64 node] w fun e w' => e = .returned (.tuple #[.agg #[.int .i64 0, .int .i64 0, .int .i64 0], .bool false]) ∧ Below w.heap.size w w' := by
  go_enter Tryz.func65, Tryz.ntmps65
  go_wp2
  refine bodyPost_ret (v := .tuple #[.agg #[.int .i64 0, .int .i64 0, .int .i64 0], .bool false]) (by simp [results, Tryz.results65, go_sem]) rfl ⟨rfl, ?_⟩
  exact (Below.refl _ _).alloc (Nat.le_refl _) _
end Go.Proofs.YtmbekchnfbmhbaaGreat

/- Contracts of the trail's functions that only read, over 'of'; New, Begin, Levels. -/
namespace Go.Proofs.YtmbekchnfbmhbaaGreat
open Go.RowKit

/-- What Val tells of a literal, where its node was put as p. -/
def valAt (p : Pt) (lit : Int) : Int := if p.lit = lit then 1 else 2
def valOf (L : List Pt) (lit : Int) : Int := match find L (lit / 2) with
  | some p => valAt p lit
  | none => 0
def levelOf (L : List Pt) (node : Int) : Int := match find L node with
  | some p => p.level
  | none => -1
def reasonOf (L : List Pt) (node : Int) : Int := match find L node with
  | some p => p.reason
  | none => -1

theorem val_code (a b : Int) (h0 : 0 ≤ a) (ha : a ≤ 140000) (g0 : 0 ≤ b) (hb : b ≤ 140000) (hab : a / 2 = b / 2) :
    IntKind.i8.wrap (wrap64 (1 + bits .and .i64 (bits .xor .i64 a b) 1)) = if a = b then 1 else 2 := by
  rw [xor_and_one a b h0 (by omega) g0 (by omega)]
  by_cases h : a = b
  · rw [if_pos h, show (a + b) % 2 = 0 by omega]; decide +kernel
  · rw [if_neg h, show (a + b) % 2 = 1 by omega]; decide +kernel

theorem find_mem {L : List Pt} {node : Int} {p : Pt} (h : find L node = some p) : p ∈ L ∧ p.lit / 2 = node := by
  unfold find at h
  exact ⟨List.mem_of_find?_eq_some h, by simpa [isAt] using List.find?_some h⟩

set_option maxHeartbeats 400000 in
theorem val_ok {w : World} {B bt ba : Nat} {lv : Value} {M : Tr} (h : TR w B bt ba lv M) (lit : Int) :
    Calls Tryz.prog 54 #[.pointer (some ⟨bt, 0, none⟩), .int .i64 lit] w fun e w' => e = .returned (.int .i8 (valOf M.L lit)) ∧ Below w.heap.size w w' := by
  cases hf : find M.L (lit / 2) with
  | some p =>
    have hv : valOf M.L lit = valAt p lit := by simp [valOf, hf]
    rw [hv]
    obtain ⟨hp, hpn⟩ := find_mem hf
    have hl := h.ok.lit p hp
    have hn := h.ok.n
    have hc := val_code p.lit lit (by omega) (by omega) (by omega) (by omega) hpn
    have H := Lib.hid hc
    clear hc hv hp hpn
    go_enter Tryz.func54, Tryz.ntmps54
    go_wp2_with (go_at_call 65; refine (of_some h _ p hf).mono ?_; rintro e w1 ⟨rfl, hb⟩)
    go_ret
    exact ⟨ret_int (k := .i8) H.out, hb.alloc hb.size _⟩
  | none =>
    have hv : valOf M.L lit = 0 := by simp [valOf, hf]
    rw [hv]
    clear hv
    go_enter Tryz.func54, Tryz.ntmps54
    go_wp2_with (go_at_call 65; refine (of_none h _ hf).mono ?_; rintro e w1 ⟨rfl, hb⟩)
    go_ret
    exact ⟨rfl, hb.alloc hb.size _⟩

theorem val_nil {w : World} (lit : Int) :
    Calls Tryz.prog 54 #[.pointer none, .int .i64 lit] w fun e w' => e = .returned (.int .i8 0) ∧ Below w.heap.size w w' := by
  go_enter Tryz.func54, Tryz.ntmps54
  go_wp2_with (go_at_call 65; refine (of_nil _).mono ?_; rintro e w1 ⟨rfl, hb⟩)
  go_ret
  exact ⟨rfl, hb.alloc hb.size _⟩

theorem level_ok {w : World} {B bt ba : Nat} {lv : Value} {M : Tr} (h : TR w B bt ba lv M) (node : Int) :
    Calls Tryz.prog 66 #[.pointer (some ⟨bt, 0, none⟩), .int .i64 node] w fun e w' => e = .returned (.int .i64 (levelOf M.L node)) ∧ Below w.heap.size w w' := by
  cases hf : find M.L node with
  | some p =>
    have hv : levelOf M.L node = p.level := by simp [levelOf, hf]
    rw [hv]
    clear hv
    go_enter Tryz.func66, Tryz.ntmps66
    go_wp2_with (go_at_call 65; refine (of_some h _ p hf).mono ?_; rintro e w1 ⟨rfl, hb⟩)
    go_ret
    exact ⟨rfl, hb.alloc hb.size _⟩
  | none =>
    have hv : levelOf M.L node = -1 := by simp [levelOf, hf]
    rw [hv]
    clear hv
    go_enter Tryz.func66, Tryz.ntmps66
    go_wp2_with (go_at_call 65; refine (of_none h _ hf).mono ?_; rintro e w1 ⟨rfl, hb⟩)
    go_ret
    exact ⟨rfl, hb.alloc hb.size _⟩
theorem level_nil {w : World} (node : Int) :
    Calls Tryz.prog 66 #[.pointer none, .int .i64 node] w fun e w' => e = .returned (.int .i64 (-1)) ∧ Below w.heap.size w w' := by
  go_enter Tryz.func66, Tryz.ntmps66
  go_wp2_with (go_at_call 65; refine (of_nil _).mono ?_; rintro e w1 ⟨rfl, hb⟩)
  go_ret
  exact ⟨rfl, hb.alloc hb.size _⟩

theorem reason_ok {w : World} {B bt ba : Nat} {lv : Value} {M : Tr} (h : TR w B bt ba lv M) (node : Int) :
    Calls Tryz.prog 95 #[.pointer (some ⟨bt, 0, none⟩), .int .i64 node] w fun e w' => e = .returned (.int .i64 (reasonOf M.L node)) ∧ Below w.heap.size w w' := by
  cases hf : find M.L node with
  | some p =>
    have hv : reasonOf M.L node = p.reason := by simp [reasonOf, hf]
    rw [hv]
    clear hv
    go_enter Tryz.func95, Tryz.ntmps95
    go_wp2_with (go_at_call 65; refine (of_some h _ p hf).mono ?_; rintro e w1 ⟨rfl, hb⟩)
    go_ret
    exact ⟨rfl, hb.alloc hb.size _⟩
  | none =>
    have hv : reasonOf M.L node = -1 := by simp [reasonOf, hf]
    rw [hv]
    clear hv
    go_enter Tryz.func95, Tryz.ntmps95
    go_wp2_with (go_at_call 65; refine (of_none h _ hf).mono ?_; rintro e w1 ⟨rfl, hb⟩)
    go_ret
    exact ⟨rfl, hb.alloc hb.size _⟩
theorem reason_nil {w : World} (node : Int) :
    Calls Tryz.prog 95 #[.pointer none, .int .i64 node] w fun e w' => e = .returned (.int .i64 (-1)) ∧ Below w.heap.size w w' := by
  go_enter Tryz.func95, Tryz.ntmps95
  go_wp2_with (go_at_call 65; refine (of_nil _).mono ?_; rintro e w1 ⟨rfl, hb⟩)
  go_ret
  exact ⟨rfl, hb.alloc hb.size _⟩

theorem tint_info : (Tryz.prog.info? 3).map (fun i => (i.zero, i.size, i.bytes)) = some (some (.int .i64 0), 1, 8) := by kernel_rfl

theorem new_ok (n : Nat) (hn : n ≤ 65536) (w : World) (B : Nat) (hB : B ≤ w.heap.size) :
    Calls Tryz.prog 18 #[.int .i64 n] w fun e w' => ∃ bt ba, e = .returned (.pointer (some ⟨bt, 0, none⟩)) ∧ TR w' B bt ba (.slice none 0 0) ⟨n, [], 0⟩ ∧ w.heap.size ≤ bt ∧ w.heap.size ≤ ba ∧ Below w.heap.size w w' := by
  obtain ⟨i0, hi, hz0, hz1, hz2⟩ := info_parts tint_info
  have hmk := fun W => run_make_rowN (P := Tryz.prog) 23 3 i0 (.int .i64 0) Tryz.underlying23 hi hz0 .i64 .i64 n n (Nat.le_refl _) (by rw [hz2]; omega) (by omega) W
  rw [hz1, Nat.mul_one] at hmk
  have hmk2 : ∀ W : World, (Instr.makeSlice 23 (.int .i64 (n : Int)) (.int .i64 (n : Int))).run Tryz.prog W = .ok (.slice (some ⟨W.heap.size, 0, none⟩) n n) (W.alloc (.cells (atCells ⟨n, [], 0⟩) 3)) := by
    intro W
    rw [hmk]
    have : madeCells (Value.int .i64 0).cells n = atCells ⟨n, [], 0⟩ := by
      rw [show (Value.int IntKind.i64 0).cells = #[Value.int .i64 0] from rfl, made_one]
      simp [atCells, atOf, List.map_const']
    rw [this]
  clear hmk
  generalize hc : atCells ⟨n, [], 0⟩ = C at *
  have HC := Lib.hid hc
  clear hc
  have fin : ∀ w' : World, w' = (w.alloc (.cells C 3)).alloc (.cells #[.slice none 0 0, .slice (some ⟨w.heap.size, 0, none⟩) n n, .int .i64 0] 64) →
      TR w' B (w.heap.size + 1) w.heap.size (.slice none 0 0) ⟨n, [], 0⟩ ∧ w.heap.size ≤ w.heap.size + 1 ∧ w.heap.size ≤ w.heap.size ∧ Below w.heap.size w w' := by
    rintro _ rfl
    refine ⟨⟨?_, ?_, World.ownsRow_nil _ _ _ _, by omega, hB, ⟨hn, by simp, by simp, by simp, by simp⟩⟩, by omega, by omega, ((Below.refl _ _).alloc (Nat.le_refl _) _).alloc (by simp) _⟩
    · exact Blk.new_at (by simp) _ _
    · rw [HC.out]; exact (Blk.new w _ _).alloc _
  by_cases h0 : n = 65536
  · have d1 : ((n : Int) / 65536 != 0) = true := by simp; omega
    have d2 : ((n : Int) != 65536) = false := by simp; omega
    clear h0
    go_enter Tryz.func18, Tryz.ntmps18
    go_wp2
    go_ret
    exact ⟨_, _, rfl, fin _ rfl⟩
  · have d1 : ((n : Int) / 65536 != 0) = false := by simp; omega
    go_enter Tryz.func18, Tryz.ntmps18
    go_wp2
    go_ret
    exact ⟨_, _, rfl, fin _ rfl⟩

theorem new_nil (n : Int) (hn : n < 0 ∨ 65536 < n) (w : World) :
    Calls Tryz.prog 18 #[.int .i64 n] w fun e w' => e = .returned (.pointer none) ∧ w = w' := by
  have d1 : (n / 65536 != 0) = true := by simp; omega
  have d2 : (n != 65536) = true := by simp; omega
  clear hn
  go_enter Tryz.func18, Tryz.ntmps18
  go_wp2
  go_ret
  exact ⟨rfl, rfl⟩

theorem begin_ok {w : World} {B bt ba : Nat} {lv : Value} {M : Tr} (h : TR w B bt ba lv M) (hl : M.lv < 65536) :
    Calls Tryz.prog 55 #[.pointer (some ⟨bt, 0, none⟩)] w fun e w' => e = .returned (.int .i64 0) ∧ TR w' B bt ba lv ⟨M.n, M.L, M.lv + 1⟩ ∧ Kept (· = bt) w w' := by
  have c2 := h.blk.cell 2
  have f2 := h.blk.frozen 2
  simp only [List.getElem?_toArray, List.getElem?_cons_zero, List.getElem?_cons_succ] at c2
  have fin : TR (w.setCell ⟨bt, 2, none⟩ (.int .i64 ((M.lv : Int) + 1))) B bt ba lv ⟨M.n, M.L, M.lv + 1⟩ ∧ Kept (· = bt) w (w.setCell ⟨bt, 2, none⟩ (.int .i64 ((M.lv : Int) + 1))) := by
    have hk : Kept (· = bt) w (w.setCell ⟨bt, 2, none⟩ (.int .i64 ((M.lv : Int) + 1))) := Kept.set1 _ _ _ _
    refine ⟨⟨?_, h.at_.kept hk (h.at_.ne_ h.blk (by decide)), own_kept h.own hk (fun g hg e => own_blk_ne h.own h.blk (by decide) (e ▸ hg)), h.hbt, h.hba, ⟨h.ok.n, by show M.lv + 1 ≤ _; omega, h.ok.lit, h.ok.level, h.ok.nodup⟩⟩, hk⟩
    have := h.blk.set_ 2 (.int .i64 ((M.lv : Int) + 1))
    simpa using this
  have HF := Lib.hid fin
  clear fin
  generalize M.lv = k at *
  clear h
  go_enter Tryz.func55, Tryz.ntmps55
  go_wp2
  go_ret
  exact ⟨rfl, HF.out⟩
theorem begin_full {w : World} {B bt ba : Nat} {lv : Value} {M : Tr} (h : TR w B bt ba lv M) (hl : M.lv = 65536) :
    Calls Tryz.prog 55 #[.pointer (some ⟨bt, 0, none⟩)] w fun e w' => e = .returned (.int .i64 2) ∧ w = w' := by
  have c2 := h.blk.cell 2
  simp only [List.getElem?_toArray, List.getElem?_cons_zero, List.getElem?_cons_succ, hl] at c2
  clear h hl
  go_enter Tryz.func55, Tryz.ntmps55
  go_wp2
  go_ret
  exact ⟨rfl, rfl⟩
theorem begin_nil {w : World} :
    Calls Tryz.prog 55 #[.pointer none] w fun e w' => e = .returned (.int .i64 3) ∧ w = w' := by
  go_enter Tryz.func55, Tryz.ntmps55
  go_wp2
  go_ret
  exact ⟨rfl, rfl⟩
end Go.Proofs.YtmbekchnfbmhbaaGreat

/- Put. -/
namespace Go.Proofs.YtmbekchnfbmhbaaGreat
open Go.RowKit

theorem put_info : (Tryz.prog.info? 88).map (fun i => (i.zero, i.size, i.bytes)) = some (some (.agg #[.int .i64 0, .int .i64 0, .int .i64 0]), 3, 24) := by kernel_rfl

theorem atCells_push {M : Tr} (p : Pt) (h0 : 0 ≤ p.lit) (hf : find M.L (p.lit / 2) = none) :
    (atCells M).setIfInBounds (p.lit / 2).toNat (.int .i64 ((M.L.length : Int) + 1)) = atCells ⟨M.n, M.L ++ [p], M.lv⟩ := by
  apply Array.ext
  · simp [atCells]
  · intro i hi hi'
    have hin : i < M.n := by simpa [atCells] using hi'
    rw [Array.getElem_setIfInBounds (by simpa [atCells] using hin)]
    simp only [atCells, List.getElem_toArray, List.getElem_map, List.getElem_range, atOf_append M.L p i hf h0]
    split <;> simp

theorem TR.drew {w : World} {B bt ba : Nat} {lv : Value} {M : Tr} (h : TR w B bt ba lv M) : TR w.drew B bt ba lv M := ⟨h.blk, h.at_, h.own, h.hbt, h.hba, h.ok⟩
theorem TR.drewN {w : World} {B bt ba : Nat} {lv : Value} {M : Tr} (h : TR w B bt ba lv M) (n : Nat) : TR (w.drewN n) B bt ba lv M := ⟨h.blk, h.at_, h.own, h.hbt, h.hba, h.ok⟩

theorem put_fin {w w1 : World} {B bt ba g cap : Nat} {lv : Value} {M : Tr} (h : TR w B bt ba lv M) (p : Pt) (h0 : 0 ≤ p.lit) (h1 : p.lit / 2 < M.n) (hf : find M.L (p.lit / 2) = none) (hl : p.level = M.lv)
    (hown : w1.ownsRow B 88 3 (.slice (some ⟨g, 0, none⟩) (M.L.length + 1) cap) (M.L.length + 1) (M.L.flatMap putCells ++ putCells p))
    (o : Obj) (hgrow : (w.alloc o).grownBy w1 lv.ownBlock) :
    TR ((w1.setCell ⟨bt, 0, none⟩ (.slice (some ⟨g, 0, none⟩) (M.L.length + 1) cap)).setCell ⟨ba, (p.lit / 2).toNat, none⟩ (.int .i64 ((M.L.length : Int) + 1))) B bt ba (.slice (some ⟨g, 0, none⟩) (M.L.length + 1) cap) ⟨M.n, M.L ++ [p], M.lv⟩ ∧
      Kept (fun k => k = bt ∨ k = ba ∨ lv.ownBlock = some k) w ((w1.setCell ⟨bt, 0, none⟩ (.slice (some ⟨g, 0, none⟩) (M.L.length + 1) cap)).setCell ⟨ba, (p.lit / 2).toNat, none⟩ (.int .i64 ((M.L.length : Int) + 1))) := by
  have n1 : ba ≠ bt := h.at_.ne_ h.blk (by decide)
  have hne1 : some bt ≠ lv.ownBlock := fun e => own_blk_ne h.own h.blk (by decide) e.symm
  have hne2 : some ba ≠ lv.ownBlock := fun e => own_blk_ne h.own h.at_ (by decide) e.symm
  have b1 := (h.blk.alloc o).grown hgrow hne1
  have b2 := (h.at_.alloc o).grown hgrow hne2
  have m1 : bt ≠ g := fun e => own_blk_ne hown b1 (by decide) (by rw [e]; rfl)
  have m2 : ba ≠ g := fun e => own_blk_ne hown b2 (by decide) (by rw [e]; rfl)
  refine ⟨⟨?_, ?_, ?_, h.hbt, h.hba, h.ok.push p h0 h1 hf hl⟩, ?_⟩
  · have := (b1.set_ 0 (.slice (some ⟨g, 0, none⟩) (M.L.length + 1) cap)).far (p := ⟨ba, (p.lit / 2).toNat, none⟩) (Ne.symm n1) (.int .i64 ((M.L.length : Int) + 1))
    simpa using this
  · rw [← atCells_push p h0 hf]
    exact (b2.far (p := ⟨bt, 0, none⟩) n1 _).set_ _ _
  · have e : (M.L ++ [p]).flatMap putCells = M.L.flatMap putCells ++ putCells p := by simp
    rw [show (⟨M.n, M.L ++ [p], M.lv⟩ : Tr).L = M.L ++ [p] from rfl, e, List.length_append, List.length_singleton]
    have k1 := own_kept hown (Kept.set1 w1 bt 0 (.slice (some ⟨g, 0, none⟩) (M.L.length + 1) cap)) (fun k hk e => by injection hk with hk; exact m1 (e.symm.trans hk.symm))
    exact own_kept k1 (Kept.set1 _ ba (p.lit / 2).toNat (.int .i64 ((M.L.length : Int) + 1))) (fun k hk e => by injection hk with hk; exact m2 (e.symm.trans hk.symm))
  · refine Kept.setCell (p := ⟨ba, _, none⟩) (Kept.setCell (p := ⟨bt, 0, none⟩) ?_ (.inl (.inl rfl)) _) (.inl (.inr (.inl rfl))) _
    exact ((Kept.refl _ w).alloc o).grown hgrow fun k hk => .inl (.inr (.inr hk))

set_option maxHeartbeats 400000 in
theorem put_new {w : World} {B bt ba : Nat} {lv : Value} {M : Tr} (h : TR w B bt ba lv M) (lit reason : Int) (h0 : 0 ≤ lit) (h1 : lit / 2 < M.n) (h2 : -1 ≤ reason) (hf : find M.L (lit / 2) = none) :
    Calls Tryz.prog 52 #[.pointer (some ⟨bt, 0, none⟩), .int .i64 lit, .int .i64 reason] w fun e w' => ∃ lv', e = .returned (.int .i64 0) ∧ TR w' B bt ba lv' ⟨M.n, M.L ++ [⟨lit, M.lv, reason⟩], M.lv⟩ ∧
      Kept (fun k => k = bt ∨ k = ba ∨ lv.ownBlock = some k) w w' ∧ ∀ k, lv'.ownBlock = some k → lv.ownBlock = some k ∨ w.heap.size ≤ k := by
  obtain ⟨m, rfl⟩ := Int.eq_ofNat_of_zero_le h0
  have c0 := h.blk.cell 0
  have c1 := h.blk.cell 1
  have c2 := h.blk.cell 2
  have f0 := h.blk.frozen 0
  have hN := h.ok.n
  have c3 : w.cell? ⟨ba, m / 2, none⟩ = some (.int .i64 0) := by
    rw [h.at_cell (show m / 2 < M.n by omega), find_none_at (by rw [← hf]; congr 1)]; rfl
  simp only [List.getElem?_toArray, List.getElem?_cons_zero, List.getElem?_cons_succ] at c0 c1 c2
  have d1 : decide ((m : Int) < 0) = false := by simp
  have d2 : decide ((M.n : Int) ≤ (m : Int) / 2) = false := by simp; omega
  have d3 : decide (reason < -1) = false := by simp; omega
  generalize hk0 : M.lv = k at *
  have hk := Lib.hid hk0
  clear hk0
  obtain ⟨i0, hi, hz0, hz1, hz2⟩ := info_parts put_info
  have hlen := h.ok.len
  have hB1 : B ≤ w.heap.size := by have := h.hbt; have := h.blk.lt; omega
  have q0 := h.blk.lt
  have n1 : ba ≠ bt := h.at_.ne_ h.blk (by decide)
  have n2 : bt ≠ ba := Ne.symm n1
  have q1 := h.at_.lt
  have hne1 : some bt ≠ lv.ownBlock := fun e => own_blk_ne h.own h.blk (by decide) e.symm
  have hne2 : some ba ≠ lv.ownBlock := fun e => own_blk_ne h.own h.at_ (by decide) e.symm
  have h1c : Hid (∀ u ∈ [Value.int .i64 m, .int .i64 k, .int .i64 reason], u.oneCell' = true) := Lib.hid (by simp [Value.oneCell'])
  go_enter Tryz.func52, Tryz.ntmps52
  go_wp2
  go_region_law (refine step_push _ rfl (.tmp 37) (.tmp 45) 62 rfl B 88 i0 (.agg #[.int .i64 0, .int .i64 0, .int .i64 0]) 3 24 Tryz.underlying62 hi hz0 hz1 hz2 rfl (by decide) lv M.L.length (M.L.flatMap putCells) rfl (own_drew (h.own.alloc _)) w.heap.size #[.int .i64 m, .int .i64 k, .int .i64 reason] rfl (Blk.new w _ _) rfl h1c.out (by omega) (by omega) hB1 (fun g cap w1 hown hgrow hat hlt => ?_); have b1 := (h.blk.alloc (.cells #[.int .i64 m, .int .i64 k, .int .i64 reason] 88)).drew.grown hgrow hne1; have b2 := (h.at_.alloc (.cells #[.int .i64 m, .int .i64 k, .int .i64 reason] 88)).drew.grown hgrow hne2; have e0 := b1.cell 0; have e1 := b1.cell 1; have e2 := (b2.cell (m / 2)).trans ((h.at_.cell (m / 2)).symm.trans c3); have z0 := b1.frozen 0; have z1 := b2.frozen (m / 2); simp only [List.getElem?_toArray, List.getElem?_cons_zero, List.getElem?_cons_succ] at e0 e1)
  all_goals go_wp2
  all_goals go_region
  all_goals go_wp2
  all_goals go_ret
  all_goals
    have hx := put_fin h ⟨m, k, reason⟩ h0 h1 hf (by rw [← hk.out]) hown (.cells #[.int .i64 m, .int .i64 k, .int .i64 reason] 88) (grown_undrew hgrow)
    rw [show ((⟨m, k, reason⟩ : Pt).lit / 2).toNat = m / 2 by show ((m : Int) / 2).toNat = m / 2; omega, hk.out] at hx
    refine ⟨_, rfl, hx.1.drew, hx.2.drew, fun i hi => ?_⟩
    have hi : g = i := Option.some.inj hi
    rcases hat with h | h
    · exact .inl (by rw [← hi]; exact h)
    · right; rw [← hi, h]; simp

theorem put_arg {w : World} {B bt ba : Nat} {lv : Value} {M : Tr} (h : TR w B bt ba lv M) (lit reason : Int) (hn : lit < 0 ∨ M.n ≤ lit / 2 ∨ reason < -1) :
    Calls Tryz.prog 52 #[.pointer (some ⟨bt, 0, none⟩), .int .i64 lit, .int .i64 reason] w fun e w' => e = .returned (.int .i64 2) ∧ w = w' := by
  have c1 := h.blk.cell 1
  simp only [List.getElem?_toArray, List.getElem?_cons_zero, List.getElem?_cons_succ] at c1
  clear h
  generalize M.n = N at *
  by_cases h1 : lit < 0
  · have d1 : decide (lit < 0) = true := by simpa using h1
    clear hn
    go_enter Tryz.func52, Tryz.ntmps52
    go_wp2
    go_ret
    exact ⟨rfl, rfl⟩
  · have d1 : decide (lit < 0) = false := by simpa using h1
    by_cases h2 : (N : Int) ≤ lit / 2
    · have d2 : decide ((N : Int) ≤ lit / 2) = true := by simpa using h2
      clear hn
      go_enter Tryz.func52, Tryz.ntmps52
      go_wp2
      go_ret
      exact ⟨rfl, rfl⟩
    · have d2 : decide ((N : Int) ≤ lit / 2) = false := by simpa using h2
      have d3 : decide (reason < -1) = true := by simp; omega
      clear hn
      go_enter Tryz.func52, Tryz.ntmps52
      go_wp2
      go_ret
      exact ⟨rfl, rfl⟩
theorem put_nil {w : World} (lit reason : Int) :
    Calls Tryz.prog 52 #[.pointer none, .int .i64 lit, .int .i64 reason] w fun e w' => e = .returned (.int .i64 3) ∧ w = w' := by
  go_enter Tryz.func52, Tryz.ntmps52
  go_wp2
  go_ret
  exact ⟨rfl, rfl⟩
theorem put_there {w : World} {B bt ba : Nat} {lv : Value} {M : Tr} (h : TR w B bt ba lv M) (lit reason : Int) (h0 : 0 ≤ lit) (h1 : lit / 2 < M.n) (h2 : -1 ≤ reason) (p : Pt) (hf : find M.L (lit / 2) = some p) :
    Calls Tryz.prog 52 #[.pointer (some ⟨bt, 0, none⟩), .int .i64 lit, .int .i64 reason] w fun e w' => e = .returned (.int .i64 32) ∧ w = w' := by
  obtain ⟨m, rfl⟩ := Int.eq_ofNat_of_zero_le h0
  obtain ⟨i, hi, _, hat, _⟩ := find_some_at (node := m / 2) (by rw [← hf]; congr 1)
  have c1 := h.blk.cell 1
  have hN := h.ok.n
  have hlen := h.ok.len
  have c3 : w.cell? ⟨ba, m / 2, none⟩ = some (.int .i64 ((i : Int) + 1)) := by rw [h.at_cell (show m / 2 < M.n by omega), hat]; simp
  simp only [List.getElem?_toArray, List.getElem?_cons_zero, List.getElem?_cons_succ] at c1
  have d1 : decide ((m : Int) < 0) = false := by simp
  have d2 : decide ((M.n : Int) ≤ (m : Int) / 2) = false := by simp; omega
  have d3 : decide (reason < -1) = false := by simp; omega
  have d4 : decide ((0 : Int) < (i : Int) + 1) = true := by simp
  have hi2 : i < M.n := by omega
  clear hat hf h
  generalize M.n = N at *
  go_enter Tryz.func52, Tryz.ntmps52
  go_wp2
  go_ret
  exact ⟨rfl, rfl⟩
end Go.Proofs.YtmbekchnfbmhbaaGreat

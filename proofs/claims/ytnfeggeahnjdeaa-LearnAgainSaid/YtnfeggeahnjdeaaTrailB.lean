/- Contracts of the trail's functions that only read, over 'of'; New, Begin, Levels. -/
import Derived.Test.YtnfeggeahnjdeaaTrailA
import Derived.Test.YtnfeggeahnjdeaaBits
namespace Go.Proofs.Ytnfeggeahnjdeaa
open Go.RowKit

/-- What Val tells of a literal, where its node was put as p. -/
def valAt (p : Pt) (lit : Int) : Int := if p.lit = lit then 1 else 2
def valOf (L : List Pt) (lit : Int) : Int := match find L (lit / 2) with
  | some p => valAt p lit
  | none => 0
def levelOf (L : List Pt) (node : Int) : Int := match find L node with
  | some p => p.level
  | none => -1
def reasonOf (L : List Pt) (node : Int) : Int := match find L node with
  | some p => p.reason
  | none => -1

theorem val_code (a b : Int) (h0 : 0 ≤ a) (ha : a ≤ 140000) (g0 : 0 ≤ b) (hb : b ≤ 140000) (hab : a / 2 = b / 2) :
    IntKind.i8.wrap (wrap64 (1 + bits .and .i64 (bits .xor .i64 a b) 1)) = if a = b then 1 else 2 := by
  rw [xor_and_one a b h0 (by omega) g0 (by omega)]
  by_cases h : a = b
  · rw [if_pos h, show (a + b) % 2 = 0 by omega]; decide +kernel
  · rw [if_neg h, show (a + b) % 2 = 1 by omega]; decide +kernel

theorem find_mem {L : List Pt} {node : Int} {p : Pt} (h : find L node = some p) : p ∈ L ∧ p.lit / 2 = node := by
  unfold find at h
  exact ⟨List.mem_of_find?_eq_some h, by simpa [isAt] using List.find?_some h⟩

set_option maxHeartbeats 400000 in
theorem val_ok {w : World} {B bt ba : Nat} {lv : Value} {M : Tr} (h : TR w B bt ba lv M) (lit : Int) :
    Calls Try.prog 18 #[.pointer (some ⟨bt, 0, none⟩), .int .i64 lit] w fun e w' => e = .returned (.int .i8 (valOf M.L lit)) ∧ Below w.heap.size w w' := by
  cases hf : find M.L (lit / 2) with
  | some p =>
    have hv : valOf M.L lit = valAt p lit := by simp [valOf, hf]
    rw [hv]
    obtain ⟨hp, hpn⟩ := find_mem hf
    have hl := h.ok.lit p hp
    have hn := h.ok.n
    have hc := val_code p.lit lit (by omega) (by omega) (by omega) (by omega) hpn
    have H := Lib.hid hc
    clear hc hv hp hpn
    go_enter Try.func18, Try.ntmps18
    go_wp2_with (go_at_call 29; refine (of_some h _ p hf).mono ?_; rintro e w1 ⟨rfl, hb⟩)
    go_ret
    exact ⟨ret_int (k := .i8) H.out, hb.alloc hb.size _⟩
  | none =>
    have hv : valOf M.L lit = 0 := by simp [valOf, hf]
    rw [hv]
    clear hv
    go_enter Try.func18, Try.ntmps18
    go_wp2_with (go_at_call 29; refine (of_none h _ hf).mono ?_; rintro e w1 ⟨rfl, hb⟩)
    go_ret
    exact ⟨rfl, hb.alloc hb.size _⟩

theorem val_nil {w : World} (lit : Int) :
    Calls Try.prog 18 #[.pointer none, .int .i64 lit] w fun e w' => e = .returned (.int .i8 0) ∧ Below w.heap.size w w' := by
  go_enter Try.func18, Try.ntmps18
  go_wp2_with (go_at_call 29; refine (of_nil _).mono ?_; rintro e w1 ⟨rfl, hb⟩)
  go_ret
  exact ⟨rfl, hb.alloc hb.size _⟩

theorem level_ok {w : World} {B bt ba : Nat} {lv : Value} {M : Tr} (h : TR w B bt ba lv M) (node : Int) :
    Calls Try.prog 19 #[.pointer (some ⟨bt, 0, none⟩), .int .i64 node] w fun e w' => e = .returned (.int .i64 (levelOf M.L node)) ∧ Below w.heap.size w w' := by
  cases hf : find M.L node with
  | some p =>
    have hv : levelOf M.L node = p.level := by simp [levelOf, hf]
    rw [hv]
    clear hv
    go_enter Try.func19, Try.ntmps19
    go_wp2_with (go_at_call 29; refine (of_some h _ p hf).mono ?_; rintro e w1 ⟨rfl, hb⟩)
    go_ret
    exact ⟨rfl, hb.alloc hb.size _⟩
  | none =>
    have hv : levelOf M.L node = -1 := by simp [levelOf, hf]
    rw [hv]
    clear hv
    go_enter Try.func19, Try.ntmps19
    go_wp2_with (go_at_call 29; refine (of_none h _ hf).mono ?_; rintro e w1 ⟨rfl, hb⟩)
    go_ret
    exact ⟨rfl, hb.alloc hb.size _⟩
theorem level_nil {w : World} (node : Int) :
    Calls Try.prog 19 #[.pointer none, .int .i64 node] w fun e w' => e = .returned (.int .i64 (-1)) ∧ Below w.heap.size w w' := by
  go_enter Try.func19, Try.ntmps19
  go_wp2_with (go_at_call 29; refine (of_nil _).mono ?_; rintro e w1 ⟨rfl, hb⟩)
  go_ret
  exact ⟨rfl, hb.alloc hb.size _⟩

theorem reason_ok {w : World} {B bt ba : Nat} {lv : Value} {M : Tr} (h : TR w B bt ba lv M) (node : Int) :
    Calls Try.prog 42 #[.pointer (some ⟨bt, 0, none⟩), .int .i64 node] w fun e w' => e = .returned (.int .i64 (reasonOf M.L node)) ∧ Below w.heap.size w w' := by
  cases hf : find M.L node with
  | some p =>
    have hv : reasonOf M.L node = p.reason := by simp [reasonOf, hf]
    rw [hv]
    clear hv
    go_enter Try.func42, Try.ntmps42
    go_wp2_with (go_at_call 29; refine (of_some h _ p hf).mono ?_; rintro e w1 ⟨rfl, hb⟩)
    go_ret
    exact ⟨rfl, hb.alloc hb.size _⟩
  | none =>
    have hv : reasonOf M.L node = -1 := by simp [reasonOf, hf]
    rw [hv]
    clear hv
    go_enter Try.func42, Try.ntmps42
    go_wp2_with (go_at_call 29; refine (of_none h _ hf).mono ?_; rintro e w1 ⟨rfl, hb⟩)
    go_ret
    exact ⟨rfl, hb.alloc hb.size _⟩
theorem reason_nil {w : World} (node : Int) :
    Calls Try.prog 42 #[.pointer none, .int .i64 node] w fun e w' => e = .returned (.int .i64 (-1)) ∧ Below w.heap.size w w' := by
  go_enter Try.func42, Try.ntmps42
  go_wp2_with (go_at_call 29; refine (of_nil _).mono ?_; rintro e w1 ⟨rfl, hb⟩)
  go_ret
  exact ⟨rfl, hb.alloc hb.size _⟩

theorem tint_info : (Try.prog.info? 3).map (fun i => (i.zero, i.size, i.bytes)) = some (some (.int .i64 0), 1, 8) := by kernel_rfl

theorem new_ok (n : Nat) (hn : n ≤ 65536) (w : World) (B : Nat) (hB : B ≤ w.heap.size) :
    Calls Try.prog 14 #[.int .i64 n] w fun e w' => ∃ bt ba, e = .returned (.pointer (some ⟨bt, 0, none⟩)) ∧ TR w' B bt ba (.slice none 0 0) ⟨n, [], 0⟩ ∧ w.heap.size ≤ bt ∧ w.heap.size ≤ ba ∧ Below w.heap.size w w' := by
  obtain ⟨i0, hi, hz0, hz1, hz2⟩ := info_parts tint_info
  have hmk := fun W => run_make_rowN (P := Try.prog) 23 3 i0 (.int .i64 0) Try.underlying23 hi hz0 .i64 .i64 n n (Nat.le_refl _) (by rw [hz2]; omega) (by omega) W
  rw [hz1, Nat.mul_one] at hmk
  have hmk2 : ∀ W : World, (Instr.makeSlice 23 (.int .i64 (n : Int)) (.int .i64 (n : Int))).run Try.prog W = .ok (.slice (some ⟨W.heap.size, 0, none⟩) n n) (W.alloc (.cells (atCells ⟨n, [], 0⟩) 3)) := by
    intro W
    rw [hmk]
    have : madeCells (Value.int .i64 0).cells n = atCells ⟨n, [], 0⟩ := by
      rw [show (Value.int IntKind.i64 0).cells = #[Value.int .i64 0] from rfl, made_one]
      simp [atCells, atOf, List.map_const']
    rw [this]
  clear hmk
  generalize hc : atCells ⟨n, [], 0⟩ = C at *
  have HC := Lib.hid hc
  clear hc
  have fin : ∀ w' : World, w' = (w.alloc (.cells C 3)).alloc (.cells #[.slice none 0 0, .slice (some ⟨w.heap.size, 0, none⟩) n n, .int .i64 0] 64) →
      TR w' B (w.heap.size + 1) w.heap.size (.slice none 0 0) ⟨n, [], 0⟩ ∧ w.heap.size ≤ w.heap.size + 1 ∧ w.heap.size ≤ w.heap.size ∧ Below w.heap.size w w' := by
    rintro _ rfl
    refine ⟨⟨?_, ?_, World.ownsRow_nil _ _ _ _, by omega, hB, ⟨hn, by simp, by simp, by simp, by simp⟩⟩, by omega, by omega, ((Below.refl _ _).alloc (Nat.le_refl _) _).alloc (by simp) _⟩
    · exact Blk.new_at (by simp) _ _
    · rw [HC.out]; exact (Blk.new w _ _).alloc _
  by_cases h0 : n = 65536
  · have d1 : ((n : Int) / 65536 != 0) = true := by simp; omega
    have d2 : ((n : Int) != 65536) = false := by simp; omega
    clear h0
    go_enter Try.func14, Try.ntmps14
    go_wp2
    go_ret
    exact ⟨_, _, rfl, fin _ rfl⟩
  · have d1 : ((n : Int) / 65536 != 0) = false := by simp; omega
    go_enter Try.func14, Try.ntmps14
    go_wp2
    go_ret
    exact ⟨_, _, rfl, fin _ rfl⟩

theorem new_nil (n : Int) (hn : n < 0 ∨ 65536 < n) (w : World) :
    Calls Try.prog 14 #[.int .i64 n] w fun e w' => e = .returned (.pointer none) ∧ w = w' := by
  have d1 : (n / 65536 != 0) = true := by simp; omega
  have d2 : (n != 65536) = true := by simp; omega
  clear hn
  go_enter Try.func14, Try.ntmps14
  go_wp2
  go_ret
  exact ⟨rfl, rfl⟩

theorem begin_ok {w : World} {B bt ba : Nat} {lv : Value} {M : Tr} (h : TR w B bt ba lv M) (hl : M.lv < 65536) :
    Calls Try.prog 15 #[.pointer (some ⟨bt, 0, none⟩)] w fun e w' => e = .returned (.int .i64 0) ∧ TR w' B bt ba lv ⟨M.n, M.L, M.lv + 1⟩ ∧ Kept (· = bt) w w' := by
  have c2 := h.blk.cell 2
  have f2 := h.blk.frozen 2
  simp only [List.getElem?_toArray, List.getElem?_cons_zero, List.getElem?_cons_succ] at c2
  have fin : TR (w.setCell ⟨bt, 2, none⟩ (.int .i64 ((M.lv : Int) + 1))) B bt ba lv ⟨M.n, M.L, M.lv + 1⟩ ∧ Kept (· = bt) w (w.setCell ⟨bt, 2, none⟩ (.int .i64 ((M.lv : Int) + 1))) := by
    have hk : Kept (· = bt) w (w.setCell ⟨bt, 2, none⟩ (.int .i64 ((M.lv : Int) + 1))) := Kept.set1 _ _ _ _
    refine ⟨⟨?_, h.at_.kept hk (h.at_.ne_ h.blk (by decide)), own_kept h.own hk (fun g hg e => own_blk_ne h.own h.blk (by decide) (e ▸ hg)), h.hbt, h.hba, ⟨h.ok.n, by show M.lv + 1 ≤ _; omega, h.ok.lit, h.ok.level, h.ok.nodup⟩⟩, hk⟩
    have := h.blk.set_ 2 (.int .i64 ((M.lv : Int) + 1))
    simpa using this
  have HF := Lib.hid fin
  clear fin
  generalize M.lv = k at *
  clear h
  go_enter Try.func15, Try.ntmps15
  go_wp2
  go_ret
  exact ⟨rfl, HF.out⟩
theorem begin_full {w : World} {B bt ba : Nat} {lv : Value} {M : Tr} (h : TR w B bt ba lv M) (hl : M.lv = 65536) :
    Calls Try.prog 15 #[.pointer (some ⟨bt, 0, none⟩)] w fun e w' => e = .returned (.int .i64 2) ∧ w = w' := by
  have c2 := h.blk.cell 2
  simp only [List.getElem?_toArray, List.getElem?_cons_zero, List.getElem?_cons_succ, hl] at c2
  clear h hl
  go_enter Try.func15, Try.ntmps15
  go_wp2
  go_ret
  exact ⟨rfl, rfl⟩
theorem begin_nil {w : World} :
    Calls Try.prog 15 #[.pointer none] w fun e w' => e = .returned (.int .i64 3) ∧ w = w' := by
  go_enter Try.func15, Try.ntmps15
  go_wp2
  go_ret
  exact ⟨rfl, rfl⟩
end Go.Proofs.Ytnfeggeahnjdeaa


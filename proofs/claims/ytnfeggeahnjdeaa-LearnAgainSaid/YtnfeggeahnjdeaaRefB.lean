/- Contracts of the document's trail, over find. -/
import Derived.Test.YtnfeggeahnjdeaaRefA
import Derived.Test.YtnfeggeahnjdeaaTrailL
namespace Go.Proofs.Ytnfeggeahnjdeaa
open Go.RowKit

theorem unew_ok (n : Nat) (hn : n ≤ 65536) (w : World) (B : Nat) (hB : B ≤ w.heap.size) :
    Calls Try.prog 24 #[.int .i64 n] w fun e w' => ∃ bu, e = .returned (.pointer (some ⟨bu, 0, none⟩)) ∧ UR w' B bu (.slice none 0 0) ⟨n, [], 0⟩ ∧ Below w.heap.size w w' := by
  have d1 : decide ((n : Int) < 0) = false := by simp
  have d2 : decide ((65536 : Int) < (n : Int)) = false := by simp; omega
  go_enter Try.func24, Try.ntmps24
  go_wp2
  go_ret
  exact ⟨_, rfl, ⟨Blk.new _ _ _, World.ownsRow_nil _ _ _ _, hB, ⟨hn, by simp, by simp, by simp, by simp⟩⟩, (Below.refl _ _).alloc (Nat.le_refl _) _⟩
theorem unew_nil (n : Int) (hn : n < 0 ∨ 65536 < n) (w : World) :
    Calls Try.prog 24 #[.int .i64 n] w fun e w' => e = .returned (.pointer none) ∧ w = w' := by
  by_cases h0 : n < 0
  · have d1 : decide (n < 0) = true := by simpa using h0
    clear hn
    go_enter Try.func24, Try.ntmps24
    go_wp2
    go_ret
    exact ⟨rfl, rfl⟩
  · have d1 : decide (n < 0) = false := by simpa using h0
    have d2 : decide (65536 < n) = true := by simp; omega
    clear hn
    go_enter Try.func24, Try.ntmps24
    go_wp2
    go_ret
    exact ⟨rfl, rfl⟩

theorem UR.setLevel {w : World} {B bu : Nat} {lu : Value} {M : Tr} (h : UR w B bu lu M) (lev : Nat) (hl : lev ≤ 65536) : UR (w.setCell ⟨bu, 2, none⟩ (.int .i64 lev)) B bu lu ⟨M.n, M.L, lev⟩ := by
  refine ⟨?_, own_kept h.own (Kept.set1 w bu 2 (.int .i64 lev)) (fun g hg e => own_blk_ne h.own h.blk (by decide) (e ▸ hg)), h.hbu, h.ok.lower lev hl⟩
  have := h.blk.set_ 2 (.int .i64 lev)
  simpa using this

theorem ubegin_ok {w : World} {B bu : Nat} {lu : Value} {M : Tr} (h : UR w B bu lu M) (hl : M.lv < 65536) :
    Calls Try.prog 25 #[.pointer (some ⟨bu, 0, none⟩)] w fun e w' => e = .returned (.int .i64 0) ∧ UR w' B bu lu ⟨M.n, M.L, M.lv + 1⟩ ∧ Kept (· = bu) w w' := by
  have c2 := h.blk.cell 2
  have f2 := h.blk.frozen 2
  simp only [List.getElem?_toArray, List.getElem?_cons_zero, List.getElem?_cons_succ] at c2
  have fin := h.setLevel (M.lv + 1) (by omega)
  have HF := Lib.hid fin
  have d1 : decide ((65536 : Int) ≤ (M.lv : Int)) = false := by simp; omega
  clear fin h
  go_enter Try.func25, Try.ntmps25
  go_wp2
  go_ret
  refine ⟨rfl, ?_, Kept.set1 _ _ _ _⟩
  have := HF.out
  rw [show ((M.lv + 1 : Nat) : Int) = (M.lv : Int) + 1 by omega] at this
  exact this
theorem ubegin_full {w : World} {B bu : Nat} {lu : Value} {M : Tr} (h : UR w B bu lu M) (hl : M.lv = 65536) :
    Calls Try.prog 25 #[.pointer (some ⟨bu, 0, none⟩)] w fun e w' => e = .returned (.int .i64 2) ∧ w = w' := by
  have c2 := h.blk.cell 2
  simp only [List.getElem?_toArray, List.getElem?_cons_zero, List.getElem?_cons_succ] at c2
  have d1 : decide ((65536 : Int) ≤ (M.lv : Int)) = true := by simp; omega
  clear h hl
  generalize M.lv = k at *
  go_enter Try.func25, Try.ntmps25
  go_wp2
  go_ret
  exact ⟨rfl, rfl⟩
theorem uput_fin {w w1 w2 : World} {B bu g cap : Nat} {lu : Value} {M : Tr} (h : UR w B bu lu M) (p : Pt) (h0 : 0 ≤ p.lit) (h1 : p.lit / 2 < M.n) (hf : find M.L (p.lit / 2) = none) (hl : p.level = M.lv)
    (hb : Below w.heap.size w w1) (hown : w2.ownsRow B 79 3 (.slice (some ⟨g, 0, none⟩) (M.L.length + 1) cap) (M.L.length + 1) (M.L.flatMap putCells ++ putCells p)) (hgrow : w1.grownBy w2 lu.ownBlock) :
    UR (w2.setCell ⟨bu, 1, none⟩ (.slice (some ⟨g, 0, none⟩) (M.L.length + 1) cap)) B bu (.slice (some ⟨g, 0, none⟩) (M.L.length + 1) cap) ⟨M.n, M.L ++ [p], M.lv⟩ ∧
      Kept (fun k => k = bu ∨ lu.ownBlock = some k) w (w2.setCell ⟨bu, 1, none⟩ (.slice (some ⟨g, 0, none⟩) (M.L.length + 1) cap)) := by
  have hu1 := h.keep (Kept.of_below (S := fun _ => False) hb) (fun h => h) (fun _ _ h => h)
  have hne1 : some bu ≠ lu.ownBlock := fun e => own_blk_ne h.own h.blk (by decide) e.symm
  have b1 := hu1.blk.grown hgrow hne1
  have m1 : bu ≠ g := fun e => own_blk_ne hown b1 (by decide) (by rw [e]; rfl)
  refine ⟨⟨?_, ?_, h.hbu, h.ok.push p h0 h1 hf hl⟩, ?_⟩
  · have := b1.set_ 1 (.slice (some ⟨g, 0, none⟩) (M.L.length + 1) cap)
    simpa using this
  · have e : (M.L ++ [p]).flatMap putCells = M.L.flatMap putCells ++ putCells p := by simp
    rw [show (⟨M.n, M.L ++ [p], M.lv⟩ : Tr).L = M.L ++ [p] from rfl, e, List.length_append, List.length_singleton]
    exact own_kept hown (Kept.set1 w2 bu 1 _) (fun k hk e => by injection hk with hk; exact m1 (e.symm.trans hk.symm))
  · refine Kept.setCell (p := ⟨bu, _, none⟩) ?_ (.inl (.inl rfl)) _
    exact (Kept.of_below hb).grown hgrow fun k hk => .inl (.inr hk)

set_option maxHeartbeats 800000 in
theorem uput_new {w : World} {B bu : Nat} {lu : Value} {M : Tr} (h : UR w B bu lu M) (lit reason : Int) (h0 : 0 ≤ lit) (h1 : lit / 2 < M.n) (h2 : -1 ≤ reason) (hf : find M.L (lit / 2) = none) :
    Calls Try.prog 26 #[.pointer (some ⟨bu, 0, none⟩), .int .i64 lit, .int .i64 reason] w fun e w' => ∃ lu', e = .returned (.int .i64 0) ∧ UR w' B bu lu' ⟨M.n, M.L ++ [⟨lit, M.lv, reason⟩], M.lv⟩ ∧
      Kept (fun k => k = bu ∨ lu.ownBlock = some k) w w' := by
  obtain ⟨i0, hi, hz0, hz1, hz2⟩ := info_parts uput_info
  have c0 := h.blk.cell 0
  simp only [List.getElem?_toArray, List.getElem?_cons_zero, List.getElem?_cons_succ] at c0
  have hN := h.ok.n
  have hlen := h.ok.len
  have d1 : decide (lit < 0) = false := by simp; omega
  have d2 : decide ((M.n : Int) ≤ lit / 2) = false := by simp; omega
  have d3 : decide (reason < -1) = false := by simp; omega
  have q0 := h.blk.lt
  have hbu := h.hbu
  generalize hk0 : M.lv = k at *
  have hk := Lib.hid hk0
  clear hk0
  go_enter Try.func26, Try.ntmps26
  go_wp2_with (go_at_call 35; refine (ufind_none h _ hf).mono ?_; rintro e w1 ⟨rfl, hb⟩; have hu := h.keep (Kept.of_below (S := fun _ => False) hb) (fun h => h) (fun _ _ h => h); have k1 := hu.blk.cell 1; have k2 := hu.blk.cell 2; have z1 := hu.blk.frozen 1; have q1 := hu.blk.lt; simp only [List.getElem?_toArray, List.getElem?_cons_zero, List.getElem?_cons_succ] at k1 k2; rw [hk.out] at k2)
  have h1c : Hid (∀ u ∈ [Value.int .i64 lit, .int .i64 k, .int .i64 reason], u.oneCell' = true) := Lib.hid (by simp [Value.oneCell'])
  have hne1 : some bu ≠ lu.ownBlock := fun e => own_blk_ne h.own h.blk (by decide) e.symm
  have hsz := hb.size
  go_region_law (refine step_push _ rfl (.tmp 38) (.tmp 46) 75 rfl B 79 i0 (.agg #[.int .i64 0, .int .i64 0, .int .i64 0]) 3 24 Try.underlying75 hi hz0 hz1 hz2 rfl (by decide) lu M.L.length (M.L.flatMap putCells) rfl (own_drew ((hu.own.alloc _).alloc _)) (w1.heap.size + 1) #[.int .i64 lit, .int .i64 k, .int .i64 reason] rfl (Blk.new_at (by simp) _ _) rfl h1c.out (by omega) (by omega) (by omega) (fun g cap w2 hown hgrow hat hlt => ?_); have b1 := ((hu.blk.alloc (.cells #[.int .i64 0, .int .i64 0, .int .i64 0] 79)).alloc (.cells #[.int .i64 lit, .int .i64 k, .int .i64 reason] 79)).drew.grown hgrow hne1; have e1 := b1.cell 1; have y1 := b1.frozen 1; simp only [List.getElem?_toArray, List.getElem?_cons_zero, List.getElem?_cons_succ] at e1)
  all_goals go_wp2
  all_goals go_ret
  all_goals
    have hx := uput_fin h ⟨lit, k, reason⟩ h0 h1 hf (by rw [← hk.out]) ((hb.alloc hsz (.cells #[.int .i64 0, .int .i64 0, .int .i64 0] 79)).alloc (by simp; omega) (.cells #[.int .i64 lit, .int .i64 k, .int .i64 reason] 79)) hown (grown_undrew hgrow)
    rw [hk.out] at hx
    first | exact ⟨_, rfl, hx.1, hx.2⟩ | exact ⟨rfl, ⟨_, hx.1⟩, hx.2⟩
theorem uput_arg1 {w : World} {B bu : Nat} {lu : Value} {M : Tr} (h : UR w B bu lu M) (lit reason : Int) (hn : lit < 0) :
    Calls Try.prog 26 #[.pointer (some ⟨bu, 0, none⟩), .int .i64 lit, .int .i64 reason] w fun e w' => e = .returned (.int .i64 2) ∧ w = w' := by
  have c0 := h.blk.cell 0
  simp only [List.getElem?_toArray, List.getElem?_cons_zero] at c0
  clear h
  generalize M.n = N at *
  have d1 : decide (lit < 0) = true := by simpa using hn
  clear hn
  go_enter Try.func26, Try.ntmps26
  go_wp2
  go_ret
  exact ⟨rfl, rfl⟩
theorem uput_arg2 {w : World} {B bu : Nat} {lu : Value} {M : Tr} (h : UR w B bu lu M) (lit reason : Int) (h0 : 0 ≤ lit) (hn : M.n ≤ lit / 2) :
    Calls Try.prog 26 #[.pointer (some ⟨bu, 0, none⟩), .int .i64 lit, .int .i64 reason] w fun e w' => e = .returned (.int .i64 2) ∧ w = w' := by
  have c0 := h.blk.cell 0
  simp only [List.getElem?_toArray, List.getElem?_cons_zero] at c0
  clear h
  generalize M.n = N at *
  have d1 : decide (lit < 0) = false := by simpa using h0
  have d2 : decide ((N : Int) ≤ lit / 2) = true := by simpa using hn
  clear hn h0
  go_enter Try.func26, Try.ntmps26
  go_wp2
  go_ret
  exact ⟨rfl, rfl⟩
theorem uput_arg3 {w : World} {B bu : Nat} {lu : Value} {M : Tr} (h : UR w B bu lu M) (lit reason : Int) (h0 : 0 ≤ lit) (h1 : lit / 2 < M.n) (hn : reason < -1) :
    Calls Try.prog 26 #[.pointer (some ⟨bu, 0, none⟩), .int .i64 lit, .int .i64 reason] w fun e w' => e = .returned (.int .i64 2) ∧ w = w' := by
  have c0 := h.blk.cell 0
  simp only [List.getElem?_toArray, List.getElem?_cons_zero] at c0
  clear h
  generalize M.n = N at *
  have d1 : decide (lit < 0) = false := by simpa using h0
  have d2 : decide ((N : Int) ≤ lit / 2) = false := by simp; omega
  have d3 : decide (reason < -1) = true := by simp; omega
  clear hn h0 h1
  go_enter Try.func26, Try.ntmps26
  go_wp2
  go_ret
  exact ⟨rfl, rfl⟩
theorem uput_there {w : World} {B bu : Nat} {lu : Value} {M : Tr} (h : UR w B bu lu M) (lit reason : Int) (h0 : 0 ≤ lit) (h1 : lit / 2 < M.n) (h2 : -1 ≤ reason) (p : Pt) (hf : find M.L (lit / 2) = some p) :
    Calls Try.prog 26 #[.pointer (some ⟨bu, 0, none⟩), .int .i64 lit, .int .i64 reason] w fun e w' => e = .returned (.int .i64 32) ∧ Below w.heap.size w w' := by
  have c0 := h.blk.cell 0
  simp only [List.getElem?_toArray, List.getElem?_cons_zero] at c0
  have d1 : decide (lit < 0) = false := by simpa using h0
  have d2 : decide ((M.n : Int) ≤ lit / 2) = false := by simp; omega
  have d3 : decide (reason < -1) = false := by simp; omega
  clear h0 h1 h2
  go_enter Try.func26, Try.ntmps26
  go_wp2_with (go_at_call 35; refine (ufind_some h _ p hf).mono ?_; rintro e w1 ⟨rfl, hb⟩)
  go_ret
  exact ⟨rfl, hb.alloc hb.size _⟩
end Go.Proofs.Ytnfeggeahnjdeaa

/- Contracts of the document's trail: Put's other ways, Back, Behind, All, Values. -/
import Derived.Test.YtfdfblokbojcfaaRefB
import Derived.Test.YtfdfblokbojcfaaTrailG
namespace Go.Proofs.Ytfdfblokbojcfaa
open Go.RowKit

theorem uput_arg1 {w : World} {B bu : Nat} {lu : Value} {M : Tr} (h : UR w B bu lu M) (lit reason : Int) (hn : lit < 0) :
    Calls Try.prog 19 #[.pointer (some ⟨bu, 0, none⟩), .int .i64 lit, .int .i64 reason] w fun e w' => e = .returned (.int .i64 2) ∧ w = w' := by
  have c0 := h.blk.cell 0
  simp only [List.getElem?_toArray, List.getElem?_cons_zero] at c0
  clear h
  generalize M.n = N at *
  have d1 : decide (lit < 0) = true := by simpa using hn
  clear hn
  go_enter Try.func19, Try.ntmps19
  go_wp2
  go_ret
  exact ⟨rfl, rfl⟩
theorem uput_arg2 {w : World} {B bu : Nat} {lu : Value} {M : Tr} (h : UR w B bu lu M) (lit reason : Int) (h0 : 0 ≤ lit) (hn : M.n ≤ lit / 2) :
    Calls Try.prog 19 #[.pointer (some ⟨bu, 0, none⟩), .int .i64 lit, .int .i64 reason] w fun e w' => e = .returned (.int .i64 2) ∧ w = w' := by
  have c0 := h.blk.cell 0
  simp only [List.getElem?_toArray, List.getElem?_cons_zero] at c0
  clear h
  generalize M.n = N at *
  have d1 : decide (lit < 0) = false := by simpa using h0
  have d2 : decide ((N : Int) ≤ lit / 2) = true := by simpa using hn
  clear hn h0
  go_enter Try.func19, Try.ntmps19
  go_wp2
  go_ret
  exact ⟨rfl, rfl⟩
theorem uput_arg3 {w : World} {B bu : Nat} {lu : Value} {M : Tr} (h : UR w B bu lu M) (lit reason : Int) (h0 : 0 ≤ lit) (h1 : lit / 2 < M.n) (hn : reason < -1) :
    Calls Try.prog 19 #[.pointer (some ⟨bu, 0, none⟩), .int .i64 lit, .int .i64 reason] w fun e w' => e = .returned (.int .i64 2) ∧ w = w' := by
  have c0 := h.blk.cell 0
  simp only [List.getElem?_toArray, List.getElem?_cons_zero] at c0
  clear h
  generalize M.n = N at *
  have d1 : decide (lit < 0) = false := by simpa using h0
  have d2 : decide ((N : Int) ≤ lit / 2) = false := by simp; omega
  have d3 : decide (reason < -1) = true := by simp; omega
  clear hn h0 h1
  go_enter Try.func19, Try.ntmps19
  go_wp2
  go_ret
  exact ⟨rfl, rfl⟩
theorem uput_there {w : World} {B bu : Nat} {lu : Value} {M : Tr} (h : UR w B bu lu M) (lit reason : Int) (h0 : 0 ≤ lit) (h1 : lit / 2 < M.n) (h2 : -1 ≤ reason) (p : Pt) (hf : find M.L (lit / 2) = some p) :
    Calls Try.prog 19 #[.pointer (some ⟨bu, 0, none⟩), .int .i64 lit, .int .i64 reason] w fun e w' => e = .returned (.int .i64 32) ∧ Below w.heap.size w w' := by
  have c0 := h.blk.cell 0
  simp only [List.getElem?_toArray, List.getElem?_cons_zero] at c0
  have d1 : decide (lit < 0) = false := by simpa using h0
  have d2 : decide ((M.n : Int) ≤ lit / 2) = false := by simp; omega
  have d3 : decide (reason < -1) = false := by simp; omega
  clear h0 h1 h2
  go_enter Try.func19, Try.ntmps19
  go_wp2_with (go_at_call 26; refine (ufind_some h _ p hf).mono ?_; rintro e w1 ⟨rfl, hb⟩)
  go_ret
  exact ⟨rfl, hb.alloc hb.size _⟩
theorem uput_nil {w : World} (lit reason : Int) :
    Calls Try.prog 19 #[.pointer none, .int .i64 lit, .int .i64 reason] w fun e w' => e = .returned (.int .i64 3) ∧ w = w' := by
  go_enter Try.func19, Try.ntmps19
  go_wp2
  go_ret
  exact ⟨rfl, rfl⟩

def lenOf : Value → Nat | .slice _ n _ => n | _ => 0

/-- One element is taken off. -/
theorem upop_fin {w : World} {B bu g cap m : Nat} {M : Tr} (hm : m < M.L.length) (hM : M.Ok) (h : UR w B bu (.slice (some ⟨g, 0, none⟩) (m + 1) cap) ⟨M.n, M.L.take (m + 1), M.lv⟩) :
    UR (w.setCell ⟨bu, 1, none⟩ (.slice (some ⟨g, 0, none⟩) m cap)) B bu (.slice (some ⟨g, 0, none⟩) m cap) ⟨M.n, M.L.take m, M.lv⟩ := by
  have hl : (M.L.take (m + 1)).length = m + 1 := by rw [List.length_take]; omega
  have hl2 : (M.L.take m).length = m := by rw [List.length_take]; omega
  have hown := h.own
  rw [show (⟨M.n, M.L.take (m + 1), M.lv⟩ : Tr).L = M.L.take (m + 1) from rfl, hl] at hown
  have m1 : bu ≠ g := fun e => own_blk_ne hown h.blk (by decide) (by rw [e]; rfl)
  refine ⟨?_, ?_, h.hbu, hM.take m⟩
  · have := h.blk.set_ 1 (.slice (some ⟨g, 0, none⟩) m cap)
    simpa using this
  · have k0 := own_take hown (Nat.le_succ m)
    rw [flat_take putCells 3 putCells_len, List.take_take, Nat.min_eq_left (Nat.le_succ m)] at k0
    rw [show (⟨M.n, M.L.take m, M.lv⟩ : Tr).L = M.L.take m from rfl, hl2]
    exact own_kept k0 (Kept.set1 w bu 1 _) (fun k hk e => by injection hk with hk; exact m1 (e.symm.trans hk.symm))

set_option maxHeartbeats 1000000 in
theorem uback_ok {w : World} {B bu : Nat} {lu : Value} {M : Tr} (h : UR w B bu lu M) (lev : Nat) (hl : lev ≤ M.lv) :
    Calls Try.prog 22 #[.pointer (some ⟨bu, 0, none⟩), .int .i64 lev] w fun e w' => ∃ v lu', e = .returned (.tuple #[v, .int .i64 0]) ∧
      w'.ownsRow w.heap.size 3 1 v (above lev M.L) ((M.L.reverse.take (above lev M.L)).map fun p => .int .i64 p.lit) ∧
      UR w' B bu lu' ⟨M.n, M.L.take (M.L.length - above lev M.L), lev⟩ ∧ Kept (fun k => k = bu) w w' := by
  obtain ⟨i0, hi, hz0, hz1, hz2⟩ := info_parts uint_info
  have c2 := h.blk.cell 2
  simp only [List.getElem?_toArray, List.getElem?_cons_zero, List.getElem?_cons_succ] at c2
  have d1 : decide ((lev : Int) < 0) = false := by simp
  have d2 : decide (M.lv < lev) = false := by simp; omega
  have hM := h.ok
  have hN := hM.n
  have hlen := hM.len
  have hle := above_le lev M.L
  have q0 := h.blk.lt
  have hlv := hM.lv
  have H0 := Lib.hid h
  clear h
  go_enter Try.func22, Try.ntmps22
  go_wp2
  go_loopw [6] (fun v wr => ∃ (k : Nat) (A : Option Addr) (cap : Nat) (lu : Value), k ≤ above lev M.L ∧ v = .slice A k cap ∧ UR wr B bu lu ⟨M.n, M.L.take (M.L.length - k), M.lv⟩ ∧
    wr.ownsRow w.heap.size 3 1 v k ((M.L.reverse.take k).map fun p => .int .i64 p.lit) ∧ Kept (fun b => b = bu) w wr) (fun v _ => M.L.length - lenOf v)
  case atStart => exact ⟨0, none, 0, lu, Nat.zero_le _, rfl, by rw [Nat.sub_zero, List.take_length]; exact H0.out, World.ownsRow_nil _ _ _ _, Kept.refl _ _⟩
  case round =>
    obtain ⟨k, A, cap, lu2, hk, rfl, hu, hown, hkept⟩ := hrel
    obtain ⟨A2, cap2, rfl, hcells⟩ := hu.form
    have hl2 : (M.L.take (M.L.length - k)).length = M.L.length - k := by rw [List.length_take]; omega
    have c1 := hu.blk.cell 1
    have f1 := hu.blk.frozen 1
    have f2 := hu.blk.frozen 2
    have c3 := hu.blk.cell 2
    simp only [List.getElem?_toArray, List.getElem?_cons_zero, List.getElem?_cons_succ, hl2] at c1 c3
    have hqs := hu.blk.lt
    have hsz := hkept.size
    have hne : ∀ g, (Value.slice A k cap).ownBlock = some g → g ≠ bu := fun g hg => by have := (hown.lt g hg).1; omega
    by_cases hz : M.L.length - k = 0
    · have hk2 : above lev M.L = k := by omega
      have hz2 : (M.L.take (M.L.length - k)).length = 0 := by rw [hl2]; exact hz
      rw [hz] at c1
      have Hk2 := Lib.hid hk2
      have HU := Lib.hid hu
      have HO := Lib.hid hown
      have HN := Lib.hid hne
      have Hz := Lib.hid hz
      clear hcells hk2 hl2 hu hown hne hz hz2
      go_wp2
      go_quiet (fail)
      go_wp2
      go_ret2
      rw [Hk2.out]
      have hset := HU.out.setLevel lev (by omega)
      exact ⟨_, _, rfl, own_kept (own_drewN HO.out nq) (Kept.set1 _ bu 2 (.int .i64 lev)) HN.out, ⟨hset.blk, hset.own, hset.hbu, hset.ok⟩, (hkept.drewN _).setCell (p := ⟨bu, 2, none⟩) (.inl rfl) _⟩
    · obtain ⟨m, hm⟩ : ∃ m, M.L.length - k = m + 1 := ⟨M.L.length - k - 1, by omega⟩
      have hml : m < M.L.length := by omega
      obtain ⟨g, rfl, hg, hcap, e0, e1, e2⟩ := hcells m (by rw [hl2]; omega)
      have hp : (M.L.take (M.L.length - k))[m]'(by rw [hl2]; omega) = M.L[m] := by simp
      rw [hp] at e0 e1
      have hcap2 : m + 1 ≤ cap2 := by rw [hl2] at hcap; omega
      have hL2 : (⟨M.n, M.L.take (M.L.length - k), M.lv⟩ : Tr).L.length = m + 1 := hl2.trans hm
      have hu2 : UR wr B bu (.slice (some ⟨g, 0, none⟩) (m + 1) cap2) ⟨M.n, M.L.take (m + 1), M.lv⟩ := by rw [hL2, hm] at hu; exact hu
      rw [hm] at c1
      have HU := Lib.hid hu2
      have Hm := Lib.hid hm
      by_cases hlt : k < above lev M.L
      · have d3 : decide ((lev : Int) < M.L[m].level) = true := by
          have := above_lt hlt (by omega)
          rw [show M.L[M.L.length - 1 - k] = M.L[m] by congr 1; omega] at this
          simpa using this
        have Htk : Hid ((M.L.reverse.take (k + 1)).map (fun p => Value.int .i64 p.lit) = (M.L.reverse.take k).map (fun p => Value.int .i64 p.lit) ++ [.int .i64 M.L[m].lit]) := by
          apply Lib.hid
          have hix : M.L[M.L.length - 1 - k]'(by omega) = M.L[m] := by congr 1; omega
          rw [List.take_succ_eq_append_getElem (by rw [List.length_reverse]; omega), List.map_append, List.getElem_reverse, hix]
          rfl
        have h1c : Hid (∀ u ∈ #[Value.int .i64 M.L[m].lit].toList, u.oneCell' = true) := Lib.hid (by simp [Value.oneCell'])
        have HB := Lib.hid hu2.blk
        have HN := Lib.hid hne
        have HO := Lib.hid hown
        clear e2 hcells hu hu2 hm hp hl2 hL2 hz hcap hne
        generalize M.L[m] = p at *
        go_wp2
        go_quiet (fail)
        go_wp2
        have hwr : IntKind.i64.wrap (m : Int) = m := IntWalk.i64_in _ (by omega)
        have hif : ((m : Int) < (m : Int) + 1) = True := eq_true (by omega)
        go_region_law (refine step_push _ rfl (.tmp 42) (.tmp 56) 22 rfl w.heap.size 3 i0 (.int .i64 0) 1 8 Try.underlying22 hi hz0 hz1 hz2 rfl (by decide) (.slice A k cap) k _ rfl (own_drewN (HO.out.alloc _) (nq + 1)) wr.heap.size #[.int .i64 p.lit] rfl (Blk.new _ _ _) rfl h1c.out (by omega) (by omega) (by omega) (fun g2 cap3 w1 hown1 hgrow hat hlt1 => ?_))
        all_goals
          have kw1 : Kept (fun b => (Value.slice A k cap).ownBlock = some b) wr w1 := ((Kept.refl _ wr).alloc (.cells #[.int .i64 p.lit] 3)).grown (w2 := w1) ⟨hgrow.os, hgrow.tape, hgrow.output, hgrow.size, hgrow.block⟩ (fun k hk => .inl hk)
          have hu1 := HU.out.keep kw1 (fun e => HN.out bu e rfl) (fun b hb e => own_own_ne HU.out.own HO.out (by decide) hb e)
          have x1 := hu1.blk.cell 1
          have y1 := hu1.blk.frozen 1
          simp only [List.getElem?_toArray, List.getElem?_cons_zero, List.getElem?_cons_succ] at x1
          have HP1 := Lib.hid (upop_fin hml hM hu1)
          have HK1 := Lib.hid kw1
          have HB1 := Lib.hid hu1.blk
          have HO1 := Lib.hid hown1
          clear hu1 kw1 hgrow hat hown1
        all_goals go_wp2
        all_goals go_region
        all_goals go_wp2
        all_goals
          have hm2 := Hm.out
          refine ⟨⟨k + 1, some ⟨g2, 0, none⟩, cap3, .slice (some ⟨g, 0, none⟩) m cap2, by omega, rfl, ?_, ?_, ?_⟩, by simp [lenOf]; omega⟩
          · have := HP1.out
            rw [show M.L.length - (k + 1) = m by omega]
            exact ⟨this.blk, this.own, this.hbu, this.ok⟩
          · rw [Htk.out]
            exact own_drew (own_kept HO1.out (Kept.set1 w1 bu 1 (.slice (some ⟨g, 0, none⟩) m cap2)) (fun b hb e => own_blk_ne HO1.out HB1.out (by decide) (e ▸ hb)))
          · exact ((hkept.then_ HK1.out (fun b hb e => by have := (HO.out.lt b e).1; omega)).setCell (p := ⟨bu, 1, none⟩) (.inl rfl) _).drew
      · have hk2 : above lev M.L = k := by omega
        have d3 : decide ((lev : Int) < M.L[m].level) = false := by
          have := above_at (lev := lev) (L := M.L) (by omega)
          rw [show M.L[M.L.length - 1 - above lev M.L] = M.L[m] by congr 1; omega] at this
          simpa using this
        have Hk2 := Lib.hid hk2
        have HN := Lib.hid hne
        have HO := Lib.hid hown
        clear e2 hcells hu hu2 hp hl2 hL2 hz hcap hne hk2 hlt hown
        generalize M.L[m] = p at *
        go_wp2
        go_quiet (fail)
        go_wp2
        go_ret2
        have hset := HU.out.setLevel lev (by omega)
        rw [Hk2.out, Hm.out]
        exact ⟨_, _, rfl, own_kept (own_drewN HO.out nq) (Kept.set1 _ bu 2 (.int .i64 lev)) HN.out, ⟨hset.blk, hset.own, hset.hbu, hset.ok⟩, (hkept.drewN _).setCell (p := ⟨bu, 2, none⟩) (.inl rfl) _⟩

theorem uback_arg {w : World} {B bu : Nat} {lu : Value} {M : Tr} (h : UR w B bu lu M) (lev : Int) (hl : lev < 0 ∨ (M.lv : Int) < lev) :
    Calls Try.prog 22 #[.pointer (some ⟨bu, 0, none⟩), .int .i64 lev] w fun e w' => e = .returned (.tuple #[.slice none 0 0, .int .i64 2]) ∧ w = w' := by
  have c2 := h.blk.cell 2
  simp only [List.getElem?_toArray, List.getElem?_cons_zero, List.getElem?_cons_succ] at c2
  clear h
  generalize M.lv = k at *
  by_cases h1 : lev < 0
  · have d1 : decide (lev < 0) = true := by simpa using h1
    clear hl
    go_enter Try.func22, Try.ntmps22
    go_wp2
    go_ret2
    exact ⟨rfl, rfl⟩
  · have d1 : decide (lev < 0) = false := by simpa using h1
    have d2 : decide ((k : Int) < lev) = true := by simp; omega
    clear hl
    go_enter Try.func22, Try.ntmps22
    go_wp2
    go_ret2
    exact ⟨rfl, rfl⟩
theorem uback_nil {w : World} (lev : Int) :
    Calls Try.prog 22 #[.pointer none, .int .i64 lev] w fun e w' => e = .returned (.tuple #[.slice none 0 0, .int .i64 3]) ∧ w = w' := by
  go_enter Try.func22, Try.ntmps22
  go_wp2
  go_ret2
  exact ⟨rfl, rfl⟩

set_option maxHeartbeats 800000 in
theorem ubehind_low {w : World} {B bu : Nat} {lu : Value} {M : Tr} (h : UR w B bu lu M) (at_ : Int) (ha : at_ ≤ 0) :
    Calls Try.prog 33 #[.pointer (some ⟨bu, 0, none⟩), .int .i64 at_] w (GaveLits w (M.L.drop 0)) := by
  obtain ⟨i0, hi, hz0, hz1, hz2⟩ := info_parts uint_info
  have c1 := h.blk.cell 1
  simp only [List.getElem?_toArray, List.getElem?_cons_zero, List.getElem?_cons_succ] at c1
  have q0 := h.blk.lt
  have hlen := h.ok.len
  have hN := h.ok.n
  obtain ⟨A, cap, rfl, hcells⟩ := h.form
  have HC := Lib.hid hcells
  clear hcells h
  have d1 : ((M.L.length : Int) < at_) = False := eq_false (by omega)
  have d2 : ((0 : Int) < at_) = False := eq_false (by omega)
  have h1c : ∀ p : Pt, Hid (∀ u ∈ #[Value.int .i64 p.lit].toList, u.oneCell' = true) := fun p => Lib.hid (by simp [Value.oneCell'])
  go_enter Try.func33, Try.ntmps33
  go_wp2
  go_loopw [6, 5] (fun i v wr => ∃ j : Nat, j ≤ M.L.length - 0 ∧ i = .int .i64 ((0 + j : Nat) : Int) ∧ wr.ownsRow w.heap.size 3 1 v j (((M.L.drop 0).take j).map fun p => .int .i64 p.lit) ∧ Below w.heap.size w wr) (fun i _ _ => M.L.length - (intOf i).toNat)
  case atStart => exact ⟨0, Nat.zero_le _, by simp, World.ownsRow_nil _ _ _ _, Below.refl _ _⟩
  case round =>
    obtain ⟨j, hj, rfl, hown, hbel⟩ := hrel
    have f1 := (hbel.cell (p := ⟨bu, 1, none⟩) q0).trans c1
    by_cases hlt : j < M.L.length - 0
    · obtain ⟨g, rfl, hg, hcap, e0, _, _⟩ := HC.out (0 + j) (by omega)
      have f3 := (hbel.cell (p := ⟨g, (0 + j) * 3, none⟩) hg).trans e0
      clear e0
      have hts : Hid (((M.L.drop 0).take (j + 1)).map (fun p => Value.int .i64 p.lit) = ((M.L.drop 0).take j).map (fun p => Value.int .i64 p.lit) ++ [.int .i64 M.L[0 + j].lit]) := by
        apply Lib.hid
        rw [List.take_succ_eq_append_getElem (by rw [List.length_drop]; omega), List.map_append]; simp
      have hsz := hbel.size
      have h1c2 := h1c M.L[0 + j]
      generalize M.L[0 + j] = p at *
      generalize hi2 : 0 + j = i at *
      have Hi2 := Lib.hid hi2
      have hil : i < M.L.length := by omega
      clear hi2
      go_wp2_with (at_builtin; refine list_push _ rfl (.tmp 26) (.tmp 35) 22 rfl w.heap.size 3 i0 (.int .i64 0) 1 8 Try.underlying22 hi hz0 hz1 hz2 rfl (by decide) u5 j _ rfl (hown.alloc _) wr.heap.size #[.int .i64 p.lit] rfl (Blk.new _ _ _) rfl h1c2.out (by omega) (by omega) (by omega) (fun g2 cap2 w1 hown1 hgrow hat hlt1 => ?_))
      have hb1 : Below w.heap.size w w1 := (hbel.alloc hsz _).grown hgrow (by simp; omega) (fun q hq => (hown.lt q hq).1)
      have hi3 := Hi2.out
      exact ⟨⟨j + 1, by omega, by congr 1; omega, by rw [hts.out]; exact hown1, hb1⟩, by simp [intOf]; omega⟩
    · obtain rfl : j = M.L.length - 0 := by omega
      rw [show 0 + (M.L.length - 0) = M.L.length by omega]
      go_wp2
      go_ret
      refine ⟨_, rfl, ?_, hbel⟩
      rw [List.take_of_length_le (by rw [List.length_drop]; omega)] at hown
      rw [List.length_drop]
      exact hown

set_option maxHeartbeats 800000 in
theorem ubehind_in {w : World} {B bu : Nat} {lu : Value} {M : Tr} (h : UR w B bu lu M) (k : Nat) (h0 : 0 < k) (hk : k ≤ M.L.length) :
    Calls Try.prog 33 #[.pointer (some ⟨bu, 0, none⟩), .int .i64 k] w (GaveLits w (M.L.drop k)) := by
  obtain ⟨i0, hi, hz0, hz1, hz2⟩ := info_parts uint_info
  have c1 := h.blk.cell 1
  simp only [List.getElem?_toArray, List.getElem?_cons_zero, List.getElem?_cons_succ] at c1
  have q0 := h.blk.lt
  have hlen := h.ok.len
  have hN := h.ok.n
  obtain ⟨A, cap, rfl, hcells⟩ := h.form
  have HC := Lib.hid hcells
  clear hcells h
  have d1 : ((M.L.length : Int) < (k : Int)) = False := eq_false (by omega)
  have d2 : ((0 : Int) < (k : Int)) = True := eq_true (by omega)
  have h1c : ∀ p : Pt, Hid (∀ u ∈ #[Value.int .i64 p.lit].toList, u.oneCell' = true) := fun p => Lib.hid (by simp [Value.oneCell'])
  go_enter Try.func33, Try.ntmps33
  go_wp2
  go_loopw [6, 5] (fun i v wr => ∃ j : Nat, j ≤ M.L.length - k ∧ i = .int .i64 ((k + j : Nat) : Int) ∧ wr.ownsRow w.heap.size 3 1 v j (((M.L.drop k).take j).map fun p => .int .i64 p.lit) ∧ Below w.heap.size w wr) (fun i _ _ => M.L.length - (intOf i).toNat)
  case atStart => exact ⟨0, Nat.zero_le _, by simp, World.ownsRow_nil _ _ _ _, Below.refl _ _⟩
  case round =>
    obtain ⟨j, hj, rfl, hown, hbel⟩ := hrel
    have f1 := (hbel.cell (p := ⟨bu, 1, none⟩) q0).trans c1
    by_cases hlt : j < M.L.length - k
    · obtain ⟨g, rfl, hg, hcap, e0, _, _⟩ := HC.out (k + j) (by omega)
      have f3 := (hbel.cell (p := ⟨g, (k + j) * 3, none⟩) hg).trans e0
      clear e0
      have hts : Hid (((M.L.drop k).take (j + 1)).map (fun p => Value.int .i64 p.lit) = ((M.L.drop k).take j).map (fun p => Value.int .i64 p.lit) ++ [.int .i64 M.L[k + j].lit]) := by
        apply Lib.hid
        rw [List.take_succ_eq_append_getElem (by rw [List.length_drop]; omega), List.map_append]; simp
      have hsz := hbel.size
      have h1c2 := h1c M.L[k + j]
      generalize M.L[k + j] = p at *
      generalize hi2 : k + j = i at *
      have Hi2 := Lib.hid hi2
      have hil : i < M.L.length := by omega
      clear hi2
      go_wp2_with (at_builtin; refine list_push _ rfl (.tmp 26) (.tmp 35) 22 rfl w.heap.size 3 i0 (.int .i64 0) 1 8 Try.underlying22 hi hz0 hz1 hz2 rfl (by decide) u5 j _ rfl (hown.alloc _) wr.heap.size #[.int .i64 p.lit] rfl (Blk.new _ _ _) rfl h1c2.out (by omega) (by omega) (by omega) (fun g2 cap2 w1 hown1 hgrow hat hlt1 => ?_))
      have hb1 : Below w.heap.size w w1 := (hbel.alloc hsz _).grown hgrow (by simp; omega) (fun q hq => (hown.lt q hq).1)
      have hi3 := Hi2.out
      exact ⟨⟨j + 1, by omega, by congr 1; omega, by rw [hts.out]; exact hown1, hb1⟩, by simp [intOf]; omega⟩
    · obtain rfl : j = M.L.length - k := by omega
      rw [show k + (M.L.length - k) = M.L.length by omega]
      go_wp2
      go_ret
      refine ⟨_, rfl, ?_, hbel⟩
      rw [List.take_of_length_le (by rw [List.length_drop]; omega)] at hown
      rw [List.length_drop]
      exact hown

set_option maxHeartbeats 800000 in
theorem ubehind_over {w : World} {B bu : Nat} {lu : Value} {M : Tr} (h : UR w B bu lu M) (at_ : Int) (ha : (M.L.length : Int) < at_) (hn : 0 < M.L.length) :
    Calls Try.prog 33 #[.pointer (some ⟨bu, 0, none⟩), .int .i64 at_] w (GaveLits w (M.L.drop M.L.length)) := by
  obtain ⟨i0, hi, hz0, hz1, hz2⟩ := info_parts uint_info
  have c1 := h.blk.cell 1
  simp only [List.getElem?_toArray, List.getElem?_cons_zero, List.getElem?_cons_succ] at c1
  have q0 := h.blk.lt
  have hlen := h.ok.len
  have hN := h.ok.n
  obtain ⟨A, cap, rfl, hcells⟩ := h.form
  have HC := Lib.hid hcells
  clear hcells h
  have d1 : ((M.L.length : Int) < at_) = True := eq_true (by omega)
  have d2 : ((0 : Int) < (M.L.length : Int)) = True := eq_true (by omega)
  have h1c : ∀ p : Pt, Hid (∀ u ∈ #[Value.int .i64 p.lit].toList, u.oneCell' = true) := fun p => Lib.hid (by simp [Value.oneCell'])
  go_enter Try.func33, Try.ntmps33
  go_wp2
  go_loopw [6, 5] (fun i v wr => ∃ j : Nat, j ≤ M.L.length - M.L.length ∧ i = .int .i64 ((M.L.length + j : Nat) : Int) ∧ wr.ownsRow w.heap.size 3 1 v j (((M.L.drop M.L.length).take j).map fun p => .int .i64 p.lit) ∧ Below w.heap.size w wr) (fun i _ _ => M.L.length - (intOf i).toNat)
  case atStart => exact ⟨0, Nat.zero_le _, by simp, World.ownsRow_nil _ _ _ _, Below.refl _ _⟩
  case round =>
    obtain ⟨j, hj, rfl, hown, hbel⟩ := hrel
    have f1 := (hbel.cell (p := ⟨bu, 1, none⟩) q0).trans c1
    by_cases hlt : j < M.L.length - M.L.length
    · exfalso
      omega
    · obtain rfl : j = M.L.length - M.L.length := by omega
      rw [show M.L.length + (M.L.length - M.L.length) = M.L.length by omega]
      go_wp2
      go_ret
      refine ⟨_, rfl, ?_, hbel⟩
      rw [List.take_of_length_le (by rw [List.length_drop]; omega)] at hown
      rw [List.length_drop]
      exact hown

set_option maxHeartbeats 800000 in
theorem ubehind_bare {w : World} {B bu : Nat} {lu : Value} {M : Tr} (h : UR w B bu lu M) (at_ : Int) (ha : 0 < at_) (hn : M.L.length = 0) :
    Calls Try.prog 33 #[.pointer (some ⟨bu, 0, none⟩), .int .i64 at_] w (GaveLits w (M.L.drop 0)) := by
  obtain ⟨i0, hi, hz0, hz1, hz2⟩ := info_parts uint_info
  have c1 := h.blk.cell 1
  simp only [List.getElem?_toArray, List.getElem?_cons_zero, List.getElem?_cons_succ] at c1
  have q0 := h.blk.lt
  have hlen := h.ok.len
  have hN := h.ok.n
  obtain ⟨A, cap, rfl, hcells⟩ := h.form
  have HC := Lib.hid hcells
  clear hcells h
  have d1 : ((0 : Int) < at_) = True := eq_true (by omega)
  rw [hn] at c1
  have h1c : ∀ p : Pt, Hid (∀ u ∈ #[Value.int .i64 p.lit].toList, u.oneCell' = true) := fun p => Lib.hid (by simp [Value.oneCell'])
  go_enter Try.func33, Try.ntmps33
  go_wp2
  go_loopw [6, 5] (fun i v wr => ∃ j : Nat, j ≤ M.L.length - 0 ∧ i = .int .i64 ((0 + j : Nat) : Int) ∧ wr.ownsRow w.heap.size 3 1 v j (((M.L.drop 0).take j).map fun p => .int .i64 p.lit) ∧ Below w.heap.size w wr) (fun i _ _ => M.L.length - (intOf i).toNat)
  case atStart => exact ⟨0, Nat.zero_le _, by simp, World.ownsRow_nil _ _ _ _, Below.refl _ _⟩
  case round =>
    obtain ⟨j, hj, rfl, hown, hbel⟩ := hrel
    have f1 := (hbel.cell (p := ⟨bu, 1, none⟩) q0).trans c1
    by_cases hlt : j < M.L.length - 0
    · exfalso
      omega
    · obtain rfl : j = M.L.length - 0 := by omega
      rw [show 0 + (M.L.length - 0) = M.L.length by omega]
      go_wp2
      go_ret
      refine ⟨_, rfl, ?_, hbel⟩
      rw [List.take_of_length_le (by rw [List.length_drop]; omega)] at hown
      rw [List.length_drop]
      exact hown

theorem ubehind_ok {w : World} {B bu : Nat} {lu : Value} {M : Tr} (h : UR w B bu lu M) (at_ : Int) :
    Calls Try.prog 33 #[.pointer (some ⟨bu, 0, none⟩), .int .i64 at_] w (GaveLits w (M.L.drop (clampAt at_ M.L.length))) := by
  by_cases h1 : at_ ≤ 0
  · rw [show clampAt at_ M.L.length = 0 by unfold clampAt; omega]
    exact ubehind_low h at_ h1
  · obtain ⟨k, rfl⟩ := Int.eq_ofNat_of_zero_le (show 0 ≤ at_ by omega)
    by_cases h2 : k ≤ M.L.length
    · rw [show clampAt k M.L.length = k by unfold clampAt; omega]
      exact ubehind_in h k (by omega) h2
    · by_cases h3 : M.L.length = 0
      · rw [show clampAt k M.L.length = 0 by unfold clampAt; omega]
        exact ubehind_bare h k (by omega) h3
      · rw [show clampAt k M.L.length = M.L.length by unfold clampAt; omega]
        exact ubehind_over h k (by omega) (by omega)
theorem ubehind_nil (at_ : Int) (w : World) :
    Calls Try.prog 33 #[.pointer none, .int .i64 at_] w (GaveLits w []) := by
  go_enter Try.func33, Try.ntmps33
  go_wp2
  go_ret
  exact ⟨_, rfl, World.ownsRow_nil _ _ _ _, Below.refl _ _⟩
theorem uall_ok {w : World} {B bu : Nat} {lu : Value} {M : Tr} (h : UR w B bu lu M) :
    Calls Try.prog 32 #[.pointer (some ⟨bu, 0, none⟩)] w (GaveLits w M.L) := by
  have hb := ubehind_ok h 0
  rw [show clampAt 0 M.L.length = 0 by unfold clampAt; omega, List.drop_zero] at hb
  have H := Lib.hid hb
  clear hb
  go_enter Try.func32, Try.ntmps32
  go_wp2_with (go_at_call 33; refine H.out.mono ?_; rintro e w1 ⟨v, rfl, hv⟩)
  go_ret
  exact ⟨v, rfl, hv⟩
theorem uall_nil (w : World) :
    Calls Try.prog 32 #[.pointer none] w (GaveLits w []) := by
  go_enter Try.func32, Try.ntmps32
  go_wp2_with (go_at_call 33; refine (ubehind_nil _ _).mono ?_; rintro e w1 ⟨v, rfl, hv⟩)
  go_ret
  exact ⟨v, rfl, hv⟩

set_option maxHeartbeats 800000 in
theorem uvalues_ok {w : World} {B bu : Nat} {lu : Value} {M : Tr} (h : UR w B bu lu M) :
    Calls Try.prog 34 #[.pointer (some ⟨bu, 0, none⟩)] w (GaveVals w M.n M.L) := by
  obtain ⟨i0, hi, hz0, hz1, hz2⟩ := info_parts int8_info
  have c0 := h.blk.cell 0
  have c1 := h.blk.cell 1
  simp only [List.getElem?_toArray, List.getElem?_cons_zero, List.getElem?_cons_succ] at c0 c1
  have q0 := h.blk.lt
  have hlen := h.ok.len
  have hN := h.ok.n
  have hmk := fun W => run_make_rowN (P := Try.prog) 30 32 i0 (.int .i8 0) Try.underlying30 hi hz0 .i64 .i64 M.n M.n (Nat.le_refl _) (by rw [hz2]; omega) (by omega) W
  rw [hz1, Nat.mul_one] at hmk
  have hmk2 : ∀ W : World, (Instr.makeSlice 30 (.int .i64 (M.n : Int)) (.int .i64 (M.n : Int))).run Try.prog W = .ok (.slice (some ⟨W.heap.size, 0, none⟩) M.n M.n) (W.alloc (.cells (valCells M.n []) 32)) := by
    intro W
    rw [hmk]
    have : madeCells (Value.int .i8 0).cells M.n = valCells M.n [] := by
      rw [show (Value.int IntKind.i8 0).cells = #[Value.int .i8 0] from rfl, made_one]
      simp [valCells, valsOf, valOf, find, List.map_const']
    rw [this]
  clear hmk
  have hM := h.ok
  obtain ⟨A, cap, rfl, hcells⟩ := h.form
  have HC := Lib.hid hcells
  clear hcells h
  go_enter Try.func34, Try.ntmps34
  go_wp2
  go_loopw [4] (fun i wr => ∃ k : Nat, k ≤ M.L.length ∧ i = .int .i64 k ∧ Blk wr w.heap.size 32 (valCells M.n (M.L.take k)) ∧ Below w.heap.size w wr) (fun i _ => M.L.length - (intOf i).toNat)
  case atStart => exact ⟨0, Nat.zero_le _, rfl, by rw [List.take_zero]; exact Blk.new _ _ _, (Below.refl _ _).alloc (Nat.le_refl _) _⟩
  case round =>
    obtain ⟨k, hk, rfl, hb, hbel⟩ := hrel
    have f1 := (hbel.cell (p := ⟨bu, 1, none⟩) q0).trans c1
    by_cases hlt : k < M.L.length
    · obtain ⟨g, rfl, hg, hcap, e0, _, _⟩ := HC.out k hlt
      have hlit := hM.lit M.L[k] (List.getElem_mem _)
      have hfr := hM.fresh hlt
      obtain ⟨m, hm⟩ := Int.eq_ofNat_of_zero_le hlit.1
      have f3 := (hbel.cell (p := ⟨g, k * 3, none⟩) hg).trans e0
      rw [hm] at f3
      clear e0
      have hsz := hbel.size
      have hhr := hb.lt
      have hmn : m / 2 < M.n := by omega
      have e3 : ∃ u, wr.cell? ⟨w.heap.size, m / 2, none⟩ = some u := ⟨_, (hb.cell _).trans (Array.getElem?_eq_getElem (by simp [valCells, valsOf]; omega))⟩
      obtain ⟨u3, e3⟩ := e3
      have g3 := hb.frozen (m / 2)
      have hcode := Lib.hid (and_code m (by omega))
      have hpush := Lib.hid (valCells_push M.n hlit.1 hfr)
      rw [hm] at hpush
      have htk : Hid (M.L.take (k + 1) = M.L.take k ++ [M.L[k]]) := Lib.hid (List.take_succ_eq_append_getElem hlt)
      clear hm hlit hfr
      generalize M.L[k] = p at *
      go_wp2
      go_region
      go_wp2
      refine ⟨⟨k + 1, by omega, by go_num, ?_, (hbel.setCell (p := ⟨w.heap.size, m / 2, none⟩) (Nat.le_refl _) _).drew⟩, by simp [intOf]; omega⟩
      rw [htk.out, ← hpush.out, ← hcode.out, show ((m : Int) / 2).toNat = m / 2 by omega]
      exact (hb.set_ _ _).drew
    · obtain rfl : k = M.L.length := by omega
      rw [List.take_length] at hb
      go_wp2
      go_ret
      exact ⟨_, rfl, Nat.le_refl _, hb, hbel⟩
theorem uvalues_nil (w : World) :
    Calls Try.prog 34 #[.pointer none] w fun e w' => e = .returned (.slice none 0 0) ∧ w = w' := by
  go_enter Try.func34, Try.ntmps34
  go_wp2
  go_ret
  exact ⟨rfl, rfl⟩
end Go.Proofs.Ytfdfblokbojcfaa

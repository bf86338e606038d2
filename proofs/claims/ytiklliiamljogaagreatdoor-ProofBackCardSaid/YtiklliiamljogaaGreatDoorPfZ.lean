/- Parse: rows of steps of one's own; the program's. -/
import Derived.Test.YtiklliiamljogaaGreatDoorPfX
namespace Go.Proofs.YtiklliiamljogaaGreatDoor
open Go.RowKit

/-- A row of steps of one's own; the rows of literals lie elsewhere. -/
structure StpRow (D : Nat) (w : World) (v : Value) (L : List Stp) (ys : List C4) : Prop where
  own : w.ownsRow D 46 4 v ys.length (ys.flatMap C4.cells)
  len : ys.length = L.length
  each : ∀ i (hi : i < ys.length), Is4 w ys[i] (L[i]'(len ▸ hi)) ∧ ∀ p, ys[i].A = some p → D ≤ p.block ∧ p.block < w.heap.size ∧ v.ownBlock ≠ some p.block
theorem Is4.kept {w w' : World} {K : Nat → Prop} {y : C4} {s : Stp} (h : Is4 w y s) (hk : Kept K w w') (hn : ∀ p, y.A = some p → ¬ K p.block) : Is4 w' y s := ⟨h.k, h.a, h.b, h.n, h.c, h.nil, h.row.kept hk hn⟩
theorem StpRow.nil (D : Nat) (w : World) : StpRow D w (.slice none 0 0) [] [] := ⟨World.ownsRow_nil _ _ _ _, rfl, fun _ h => absurd h (Nat.not_lt_zero _)⟩
theorem StpRow.keep {D : Nat} {w w' : World} {v : Value} {L : List Stp} {ys : List C4} (h : StpRow D w v L ys) (hb : Below w.heap.size w w') : StpRow D w' v L ys :=
  ⟨own_kept h.own (Kept.of_below (S := fun _ => False) hb) (fun _ _ h => h), h.len, fun i hi => ⟨(h.each i hi).1.keep hb, fun p hp => ⟨((h.each i hi).2 p hp).1, Nat.lt_of_lt_of_le ((h.each i hi).2 p hp).2.1 hb.size, ((h.each i hi).2 p hp).2.2⟩⟩⟩
theorem StpRow.push {D g cap : Nat} {w w1 : World} {v : Value} {L : List Stp} {ys : List C4} {y : C4} {s : Stp} {o : Obj} (h : StpRow D w v L ys) (hy : Is4 w y s) (hp : ∀ p, y.A = some p → D ≤ p.block ∧ p.block < w.heap.size ∧ v.ownBlock ≠ some p.block)
    (hown : w1.ownsRow D 46 4 (.slice (some ⟨g, 0, none⟩) (ys.length + 1) cap) (ys.length + 1) (ys.flatMap C4.cells ++ y.cells)) (hg : (w.alloc o).grownBy w1 v.ownBlock) (hat : v.ownBlock = some g ∨ w.heap.size < g) : StpRow D w1 (.slice (some ⟨g, 0, none⟩) (ys.length + 1) cap) (L ++ [s]) (ys ++ [y]) := by
  have hk : Kept (fun i => v.ownBlock = some i) w w1 := ((Kept.refl _ w).alloc o).grown hg fun i hi => .inl hi
  have hne : ∀ p : Addr, p.block < w.heap.size → v.ownBlock ≠ some p.block → (Value.slice (some ⟨g, 0, none⟩) (ys.length + 1) cap).ownBlock ≠ some p.block := fun p h1 h2 e => by
    have e2 : g = p.block := by simpa [Value.ownBlock] using e
    rcases hat with h3 | h3
    · exact h2 (by rw [h3, e2])
    · omega
  refine ⟨by rw [List.length_append, List.length_singleton, List.flatMap_append]; simpa using hown, by simp [h.len], fun i hi => ?_⟩
  rcases Nat.lt_or_ge i ys.length with h1 | h1
  · rw [List.getElem_append_left h1, List.getElem_append_left (h.len ▸ h1)]
    obtain ⟨h2, h3⟩ := h.each i h1
    exact ⟨h2.kept hk fun p hp => (h3 p hp).2.2, fun p hp => ⟨(h3 p hp).1, Nat.lt_of_lt_of_le (h3 p hp).2.1 hk.size, hne p (h3 p hp).2.1 (h3 p hp).2.2⟩⟩
  · rw [List.length_append, List.length_singleton] at hi
    obtain rfl : i = ys.length := by omega
    rw [List.getElem_append_right (Nat.le_refl _), List.getElem_append_right (by rw [h.len]; exact Nat.le_refl _)]
    simp only [Nat.sub_self, List.getElem_cons_zero, h.len]
    exact ⟨hy.kept hk fun p hq => (hp p hq).2.2, fun p hq => ⟨(hp p hq).1, Nat.lt_of_lt_of_le (hp p hq).2.1 hk.size, hne p (hp p hq).2.1 (hp p hq).2.2⟩⟩
theorem StpRow.steps {D n cap : Nat} {A : Option Addr} {w : World} {L : List Stp} {ys : List C4} (h : StpRow D w (.slice A n cap) L ys) : n = L.length ∧ Steps w A L := by
  obtain ⟨A', c', hv⟩ := own_slice h.own
  injection hv with e1 e2 e3
  subst e1 e2 e3
  refine ⟨h.len, fun i hi => ?_⟩
  have hi2 : i < ys.length := by rw [h.len]; exact hi
  obtain ⟨g, cap2, hv, _, hlt, _⟩ := own_form h.own (by omega)
  injection hv with e1 e2 e3
  subst e1 e3
  have ho := h.own
  have hc := fun j (hj : j < 4) => own_cell (g := g) C4.cells C4.cells_len ho hi2 hj
  refine ⟨g, 0, ys[i], rfl, hlt, ⟨?_, ?_, ?_, ?_⟩, (h.each i hi2).1⟩
  · rw [Nat.zero_add]; exact hc 0 (by decide)
  · rw [Nat.zero_add]; exact hc 1 (by decide)
  · rw [Nat.zero_add]; exact hc 2 (by decide)
  · rw [Nat.zero_add]; exact hc 3 (by decide)
theorem stp_info : (Tryz.prog.info? 46).map (fun i => (i.zero, i.size, i.bytes)) = some (some (.agg #[.int .i8 0, .int .i64 0, .int .i64 0, .slice none 0 0]), 4, 48) := by kernel_rfl
theorem step_none {x : Sx} {w w' : World} {e : Ending} (h : stepP x = none) (ho : StepOut x w w' e) : (∃ y : C4, e = .returned (.tuple #[.agg #[.int .i8 y.k, .int .i64 y.a, .int .i64 y.b, .slice y.A y.n y.c], .bool false])) ∧ Below w.heap.size w w' := by
  obtain ⟨h1, h2⟩ := ho
  rw [h] at h1
  exact ⟨h1, h2⟩
theorem step_some {x : Sx} {s : Stp} {w w' : World} {e : Ending} (h : stepP x = some s) (ho : StepOut x w w' e) : (∃ y : C4, e = .returned (.tuple #[.agg #[.int .i8 y.k, .int .i64 y.a, .int .i64 y.b, .slice y.A y.n y.c], .bool true]) ∧ Is4 w' y s ∧ ∀ p, y.A = some p → w.heap.size ≤ p.block ∧ p.block < w'.heap.size) ∧ Below w.heap.size w w' := by
  obtain ⟨h1, h2⟩ := ho
  rw [h] at h1
  exact ⟨h1, h2⟩
theorem step_apart {D : Nat} {w w9 wc : World} {v : Value} {L : List Stp} {ys : List C4} {y : C4} (h : StpRow D w v L ys) (hp : ∀ p, y.A = some p → w.heap.size ≤ p.block ∧ p.block < w9.heap.size) (_ : Below w.heap.size w w9) (hc : Below w9.heap.size w9 wc) (hD : D ≤ w.heap.size) : ∀ p, y.A = some p → D ≤ p.block ∧ p.block < wc.heap.size ∧ v.ownBlock ≠ some p.block := fun p e => by
  obtain ⟨h1, h2⟩ := hp p e
  have := hc.size
  exact ⟨by omega, by omega, fun e2 => by have := (h.own.lt _ e2).2; omega⟩
/-- What Parse hands over. -/
def ParseIs (o : Option (List Stp)) (w' : World) (e : Ending) : Prop := match o with
  | some L => ∃ A c, e = .returned (.tuple #[.slice A L.length c, .int .i64 0]) ∧ Steps w' A L
  | none => e = .returned (.tuple #[.slice none 0 0, .int .i64 30])
def ParseOut (o : Option (List Stp)) (w w' : World) (e : Ending) : Prop := ParseIs o w' e ∧ Below w.heap.size w w'
theorem ParseOut.no {o : Option (List Stp)} {w w' : World} {e : Ending} (h : o = none) (he : e = .returned (.tuple #[.slice none 0 0, .int .i64 30])) (hb : Below w.heap.size w w') : ParseOut o w w' e := by
  subst h
  exact ⟨he, hb⟩
theorem ParseOut.yes {D n cap : Nat} {o : Option (List Stp)} {A : Option Addr} {L : List Stp} {ys : List C4} {w w' : World} (h : o = some L) (hO : StpRow D w' (.slice A n cap) L ys) (hb : Below w.heap.size w w') : ParseOut o w w' (.returned (.tuple #[.slice A n cap, .int .i64 0])) := by
  subst h
  obtain ⟨h1, h2⟩ := hO.steps
  exact ⟨⟨A, cap, by rw [h1], h2⟩, hb⟩
/-- Parse's own way: the head, then all behind it. -/
def headP (X : Sx) : Bool := isList X && (decide (0 < X.kids.length) && (X.kids.headD noSx).same (symS wProof))
theorem parseP_no {X : Sx} (h : headP X = false) : parseP X = none := by
  obtain ⟨k, t, l⟩ := X
  unfold parseP
  dsimp only
  split
  · rename_i hc
    obtain ⟨rfl, rfl, _⟩ := hc
    cases l with
    | nil => rfl
    | cons y r =>
      dsimp only
      rw [if_neg]
      intro hs
      have : headP (.mk 3 [] (y :: r)) = true := by
        unfold headP
        rw [show isList (.mk 3 [] (y :: r)) = true from rfl, show (Sx.mk 3 [] (y :: r)).kids.headD noSx = y from rfl, hs]
        rfl
      rw [this] at h
      cases h
  · rfl
theorem parseP_yes {X : Sx} (h : headP X = true) (hl : X.kids.length ≤ 4194305) : parseP X = allP stepP X.kids.tail := by
  obtain ⟨k, t, l⟩ := X
  unfold headP at h
  simp only [Bool.and_eq_true, decide_eq_true_eq] at h
  obtain ⟨h1, h2, h3⟩ := h
  obtain ⟨rfl, rfl⟩ := isList_eq h1
  unfold parseP
  dsimp only
  rw [if_pos ⟨rfl, rfl, hl⟩]
  cases l with
  | nil => exact absurd h2 (Nat.lt_irrefl 0)
  | cons y r =>
    dsimp only
    rw [if_pos (show y.same (symS wProof) = true from h3)]
    rfl
/-- x.L[1:]. -/
theorem kids_tail {b off : Nat} {l : List Sx} {c : Nat} (h : 0 < l.length) (hc : l.length ≤ c) : ∃ SB, (∀ W, (Instr.sliceAt 26 (.slice (some ⟨b, off, none⟩) l.length c) (some (.int .i64 1)) none none).run Tryz.prog W = .ok (.slice SB l.tail.length (c - 1)) W) ∧
    ∀ S W, Kids S W (some ⟨b, off, none⟩) l → Kids S W SB l.tail := by
  have hrun : ∀ W, (Instr.sliceAt 26 (.slice (some ⟨b, off, none⟩) l.length c) (some (.int .i64 1)) none none).run Tryz.prog W = .ok (.slice (if c = 1 then some ⟨b, off, none⟩ else some ⟨b, off + 3, none⟩) l.tail.length (c - 1)) W := fun W => by
    have t3 : (1 : Int) ≤ (l.length : Int) := by omega
    simp [go_sem, t3]
  refine ⟨_, hrun, fun S W hk i hi => ?_⟩
  rw [List.length_tail] at hi
  obtain ⟨b', off', k, t, B, m, d, e, hS, hlt, h0, h1, h2, hy⟩ := hk (i + 1) (by omega)
  injection e with e
  injection e with e1 e2
  subst e1 e2
  rw [show off + (i + 1) * 3 = off + 3 + i * 3 by omega] at h0 h1 h2
  rw [if_neg (by omega)]
  refine ⟨b, off + 3, k, t, B, m, d, rfl, hS, hlt, h0, h1, h2, ?_⟩
  rw [List.getElem_tail]
  exact hy

set_option maxHeartbeats 1000000 in
set_option maxRecDepth 100000 in
theorem parsex_ok (x : Sx) (hm : x.mass ≤ 1000000) (v : Value) (w : World) (hv : Lies (fun _ => True) w v x) :
    Calls Tryz.prog 16 #[v] w fun e w' => ParseOut (parseP x) w w' e := by
  obtain ⟨k, T, l⟩ := x
  obtain ⟨t, A, c, rfl, rfl, hlc, hnil, hmax, hk⟩ := hv.open_
  obtain ⟨W, eW⟩ : ∃ W, w.alloc (.cells #[.int .i8 k, .string t, .slice A l.length c] 28) = W := ⟨_, rfl⟩
  have hsW : W.heap.size = w.heap.size + 1 := by rw [← eW]; simp
  have hbW : Below w.heap.size w W := eW ▸ (Below.refl _ w).alloc (Nat.le_refl _) _
  have hBox : Blk W w.heap.size 28 #[.int .i8 k, .string t, .slice A l.length c] := eW ▸ Blk.new w _ _
  have hvW := hv.keep hbW
  have HW := Lib.hid hbW
  have HBOX := Lib.hid (fun w1 (h1 : Below W.heap.size W w1) => hBox.below h1 hBox.lt)
  have HV := Lib.hid (fun w1 (h1 : Below W.heap.size W w1) => hvW.keep h1)
  have HK0 := Lib.hid hk
  have hbd : Below W.heap.size W W.drew := (Below.refl _ W).drew
  have HBd := Lib.hid hbd
  obtain ⟨X, hX⟩ : ∃ X, Sx.mk k (byts t) l = X := ⟨_, rfl⟩
  rw [hX] at HV hm ⊢
  have HM := Lib.hid hm
  have HX := Lib.hid hX
  have HKL := Lib.hid (show X.kids = l by rw [← hX]; rfl)
  have hll : l.length ≤ 1000000 := by
    have h1 := mass_len l
    rw [← hX, Sx.mass] at hm
    omega
  have d4 : decide ((l.length : Int) > 4194305) = false := decide_eq_false (by omega)
  have d4' : decide ((4194305 : Int) < l.length) = false := d4
  have HL := Lib.hid (fun (w1 : World) (h1 : Below W.heap.size W w1) => list_ok X _ w1 (HV.out w1 h1))
  have HSY := Lib.hid (fun (w1 : World) => sym_ok ⟨#[112, 114, 111, 111, 102]⟩ w1)
  clear hv hk hm hsW hbW hBox hvW hX hbd
  cases hl : isList X with
  | false =>
    have HNO := Lib.hid (parseP_no (X := X) (by unfold headP; rw [hl]; rfl))
    rw [hl] at HL
    have HKP := Lib.hid (fun (w1 : World) (h1 : Below W.heap.size W w1) => blk3 (HBOX.out w1 h1))
    clear hl
    go_enter Tryz.func16, Tryz.ntmps16
    go_wp2
    refine wp_region_quiet (C := fun w' => Below W.heap.size W w') (by kernel_rfl) (by kernel_rfl) (HBd.out) ?_
    refine QW.lit ?_
    refine qw_want rfl ?_ (fun w' hw' => ?_) ?_
    rotate_left
    · obtain ⟨y0, y1, y2, _⟩ := HKP.out w' hw'
      unfold Oper.quietAt
      go_simp
      exact rfl
    simp only [Act.put, List.setIfInBounds_toArray, List.set_cons_succ, List.set_cons_zero]
    refine qw_want rfl (.bool false) (fun w' hw' => ?_) ?_
    · unfold Oper.quietAt
      go_simp
      refine (HL.out w' hw').mono ?_
      rintro e w2 ⟨rfl, hb⟩
      have hz := below_then hw' (Nat.le_refl _) hb
      exact ⟨rfl, by simpa using hz⟩
    simp only [Act.put, List.setIfInBounds_toArray, List.set_cons_succ, List.set_cons_zero]
    refine qw_want rfl (.bool true) (fun w' hw' => ?_) ?_
    · unfold Oper.quietAt
      go_simp
    simp only [Act.put, List.setIfInBounds_toArray, List.set_cons_succ, List.set_cons_zero]
    refine qw_want rfl (.bool true) (fun w' hw' => ?_) ?_
    · unfold Oper.quietAt
      go_simp
    simp only [Act.put, List.setIfInBounds_toArray, List.set_cons_succ, List.set_cons_zero]
    refine qw_skip (by rfl) ?_
    simp only [Act.put, List.setIfInBounds_toArray, List.set_cons_succ, List.set_cons_zero]
    refine qw_skip (by rfl) ?_
    simp only [Act.put, List.setIfInBounds_toArray, List.set_cons_succ, List.set_cons_zero]
    refine qw_skip (by rfl) ?_
    simp only [Act.put, List.setIfInBounds_toArray, List.set_cons_succ, List.set_cons_zero]
    refine qw_skip (by rfl) ?_
    simp only [Act.put, List.setIfInBounds_toArray, List.set_cons_succ, List.set_cons_zero]
    refine qw_want rfl (.bool true) (fun w' hw' => ?_) ?_
    · unfold Oper.quietAt
      go_simp
    simp only [Act.put, List.setIfInBounds_toArray, List.set_cons_succ, List.set_cons_zero]
    refine qw_want rfl (.bool true) (fun w' hw' => ?_) ?_
    · unfold Oper.quietAt
      go_simp
    simp only [Act.put, List.setIfInBounds_toArray, List.set_cons_succ, List.set_cons_zero]
    refine qw_skip (by rfl) ?_
    simp only [Act.put, List.setIfInBounds_toArray, List.set_cons_succ, List.set_cons_zero]
    refine qw_skip (by rfl) ?_
    simp only [Act.put, List.setIfInBounds_toArray, List.set_cons_succ, List.set_cons_zero]
    refine qw_skip (by rfl) ?_
    simp only [Act.put, List.setIfInBounds_toArray, List.set_cons_succ, List.set_cons_zero]
    refine qw_skip (by rfl) ?_
    simp only [Act.put, List.setIfInBounds_toArray, List.set_cons_succ, List.set_cons_zero]
    refine qw_want rfl (.bool true) (fun w' hw' => ?_) ?_
    · unfold Oper.quietAt
      go_simp
    simp only [Act.put, List.setIfInBounds_toArray, List.set_cons_succ, List.set_cons_zero]
    refine qw_want rfl (.bool true) (fun w' hw' => ?_) ?_
    · unfold Oper.quietAt
      go_simp
    simp only [Act.put, List.setIfInBounds_toArray, List.set_cons_succ, List.set_cons_zero]
    refine qw_skip (by rfl) ?_
    simp only [Act.put, List.setIfInBounds_toArray, List.set_cons_succ, List.set_cons_zero]
    refine qw_skip (by rfl) ?_
    simp only [Act.put, List.setIfInBounds_toArray, List.set_cons_succ, List.set_cons_zero]
    refine qw_skip (by rfl) ?_
    simp only [Act.put, List.setIfInBounds_toArray, List.set_cons_succ, List.set_cons_zero]
    refine qw_skip (by rfl) ?_
    simp only [Act.put, List.setIfInBounds_toArray, List.set_cons_succ, List.set_cons_zero]
    refine qw_skip (by rfl) ?_
    simp only [Act.put, List.setIfInBounds_toArray, List.set_cons_succ, List.set_cons_zero]
    refine qw_skip (by rfl) ?_
    simp only [Act.put, List.setIfInBounds_toArray, List.set_cons_succ, List.set_cons_zero]
    refine qw_skip (by rfl) ?_
    simp only [Act.put, List.setIfInBounds_toArray, List.set_cons_succ, List.set_cons_zero]
    refine qw_want rfl (.bool true) (fun w' hw' => ?_) ?_
    · unfold Oper.quietAt
      go_simp
    simp only [Act.put, List.setIfInBounds_toArray, List.set_cons_succ, List.set_cons_zero]
    refine qw_end (fun w5 hb5 => ?_)
    go_wp2
    refine bodyPost_ret (v := .tuple #[.slice none 0 0, .int .i64 30]) (by simp [results, Tryz.results16, go_sem]) rfl (ParseOut.no HNO.out rfl (below_then HW.out (Nat.le_refl _) hb5))
  | true =>
    rw [hl] at HL
    have HLI := Lib.hid hl
    have HKP := Lib.hid (fun (w1 : World) (h1 : Below W.heap.size W w1) => blk3 (HBOX.out w1 h1))
    clear hl
    by_cases hl0 : l.length = 0
    · have d5 : decide ((l.length : Int) < 1) = true := decide_eq_true (by omega)
      have d6 : decide (l.length < 1) = true := decide_eq_true (by omega)
      have HNO := Lib.hid (parseP_no (X := X) (by unfold headP; rw [HLI.out, HKL.out, hl0]; rfl))
      clear hl0
      go_enter Tryz.func16, Tryz.ntmps16
      go_wp2
      refine wp_region_quiet (C := fun w' => Below W.heap.size W w') (by kernel_rfl) (by kernel_rfl) (HBd.out) ?_
      refine QW.lit ?_
      refine qw_want rfl ?_ (fun w' hw' => ?_) ?_
      rotate_left
      · obtain ⟨y0, y1, y2, _⟩ := HKP.out w' hw'
        unfold Oper.quietAt
        go_simp
        exact rfl
      simp only [Act.put, List.setIfInBounds_toArray, List.set_cons_succ, List.set_cons_zero]
      refine qw_want rfl (.bool true) (fun w' hw' => ?_) ?_
      · unfold Oper.quietAt
        go_simp
        refine (HL.out w' hw').mono ?_
        rintro e w2 ⟨rfl, hb⟩
        have hz := below_then hw' (Nat.le_refl _) hb
        exact ⟨rfl, by simpa using hz⟩
      simp only [Act.put, List.setIfInBounds_toArray, List.set_cons_succ, List.set_cons_zero]
      refine qw_want rfl (.bool false) (fun w' hw' => ?_) ?_
      · unfold Oper.quietAt
        go_simp
      simp only [Act.put, List.setIfInBounds_toArray, List.set_cons_succ, List.set_cons_zero]
      refine qw_want rfl (.bool false) (fun w' hw' => ?_) ?_
      · unfold Oper.quietAt
        go_simp
      simp only [Act.put, List.setIfInBounds_toArray, List.set_cons_succ, List.set_cons_zero]
      refine qw_want rfl ?_ (fun w' hw' => ?_) ?_
      rotate_left
      · obtain ⟨y0, y1, y2, _⟩ := HKP.out w' hw'
        unfold Oper.quietAt
        go_simp
        exact rfl
      simp only [Act.put, List.setIfInBounds_toArray, List.set_cons_succ, List.set_cons_zero]
      refine qw_want rfl ?_ (fun w' hw' => ?_) ?_
      rotate_left
      · obtain ⟨y0, y1, y2, _⟩ := HKP.out w' hw'
        unfold Oper.quietAt
        go_simp
        exact rfl
      simp only [Act.put, List.setIfInBounds_toArray, List.set_cons_succ, List.set_cons_zero]
      refine qw_want rfl ?_ (fun w' hw' => ?_) ?_
      rotate_left
      · obtain ⟨y0, y1, y2, _⟩ := HKP.out w' hw'
        unfold Oper.quietAt
        go_simp
        exact rfl
      simp only [Act.put, List.setIfInBounds_toArray, List.set_cons_succ, List.set_cons_zero]
      refine qw_want rfl (.bool true) (fun w' hw' => ?_) ?_
      · unfold Oper.quietAt
        go_simp
      simp only [Act.put, List.setIfInBounds_toArray, List.set_cons_succ, List.set_cons_zero]
      refine qw_want rfl (.bool true) (fun w' hw' => ?_) ?_
      · unfold Oper.quietAt
        go_simp
      simp only [Act.put, List.setIfInBounds_toArray, List.set_cons_succ, List.set_cons_zero]
      refine qw_want rfl (.bool true) (fun w' hw' => ?_) ?_
      · unfold Oper.quietAt
        go_simp
      simp only [Act.put, List.setIfInBounds_toArray, List.set_cons_succ, List.set_cons_zero]
      refine qw_skip (by rfl) ?_
      simp only [Act.put, List.setIfInBounds_toArray, List.set_cons_succ, List.set_cons_zero]
      refine qw_skip (by rfl) ?_
      simp only [Act.put, List.setIfInBounds_toArray, List.set_cons_succ, List.set_cons_zero]
      refine qw_skip (by rfl) ?_
      simp only [Act.put, List.setIfInBounds_toArray, List.set_cons_succ, List.set_cons_zero]
      refine qw_skip (by rfl) ?_
      simp only [Act.put, List.setIfInBounds_toArray, List.set_cons_succ, List.set_cons_zero]
      refine qw_want rfl (.bool true) (fun w' hw' => ?_) ?_
      · unfold Oper.quietAt
        go_simp
      simp only [Act.put, List.setIfInBounds_toArray, List.set_cons_succ, List.set_cons_zero]
      refine qw_want rfl (.bool true) (fun w' hw' => ?_) ?_
      · unfold Oper.quietAt
        go_simp
      simp only [Act.put, List.setIfInBounds_toArray, List.set_cons_succ, List.set_cons_zero]
      refine qw_skip (by rfl) ?_
      simp only [Act.put, List.setIfInBounds_toArray, List.set_cons_succ, List.set_cons_zero]
      refine qw_skip (by rfl) ?_
      simp only [Act.put, List.setIfInBounds_toArray, List.set_cons_succ, List.set_cons_zero]
      refine qw_skip (by rfl) ?_
      simp only [Act.put, List.setIfInBounds_toArray, List.set_cons_succ, List.set_cons_zero]
      refine qw_skip (by rfl) ?_
      simp only [Act.put, List.setIfInBounds_toArray, List.set_cons_succ, List.set_cons_zero]
      refine qw_skip (by rfl) ?_
      simp only [Act.put, List.setIfInBounds_toArray, List.set_cons_succ, List.set_cons_zero]
      refine qw_skip (by rfl) ?_
      simp only [Act.put, List.setIfInBounds_toArray, List.set_cons_succ, List.set_cons_zero]
      refine qw_skip (by rfl) ?_
      simp only [Act.put, List.setIfInBounds_toArray, List.set_cons_succ, List.set_cons_zero]
      refine qw_want rfl (.bool true) (fun w' hw' => ?_) ?_
      · unfold Oper.quietAt
        go_simp
      simp only [Act.put, List.setIfInBounds_toArray, List.set_cons_succ, List.set_cons_zero]
      refine qw_end (fun w5 hb5 => ?_)
      go_wp2
      refine bodyPost_ret (v := .tuple #[.slice none 0 0, .int .i64 30]) (by simp [results, Tryz.results16, go_sem]) rfl (ParseOut.no HNO.out rfl (below_then HW.out (Nat.le_refl _) hb5))
    · have hlpos : 0 < l.length := by omega
      have hlz : (0 : Int) < (l.length : Int) := by omega
      have d5 : decide ((l.length : Int) < 1) = false := decide_eq_false (by omega)
      have d6 : decide (l.length < 1) = false := decide_eq_false (by omega)
      obtain ⟨b, off, k1, t1, B1, n1, m1, rfl, _, hlt, z0, z1, z2, hy⟩ := HK0.out 0 hlpos
      rw [Nat.zero_mul, Nat.add_zero] at z0 z1 z2
      obtain ⟨Y0, hY0⟩ : ∃ Y0, l[0] = Y0 := ⟨_, rfl⟩
      rw [hY0] at hy
      have HY0 := Lib.hid (show l.headD noSx = Y0 by rw [← hY0]; exact headD_get l hlpos)
      have HKP2 := Lib.hid (fun (w1 : World) (h1 : Below W.heap.size W w1) => step_cells (blk3 (HBOX.out w1 h1)) hlt (below_then HW.out (Nat.le_refl _) h1) z0 z1 z2)
      have HSA := Lib.hid (fun (w1 : World) (h1 : Below W.heap.size W w1) => same_at Y0 (symS wProof) _ _ w1 (hy.keep (below_then HW.out (Nat.le_refl _) h1)) (sym_lie _ w1 ⟨#[112, 114, 111, 111, 102]⟩))
      obtain ⟨sm, hsm⟩ : ∃ sm, Y0.same (symS wProof) = sm := ⟨_, rfl⟩
      rw [hsm] at HSA
      have HSM := Lib.hid hsm
      obtain ⟨SB, hrun, hkt⟩ := kids_tail (b := b) (off := off) hlpos hlc
      have HKT := Lib.hid (fun (w1 : World) (h1 : Below w.heap.size w w1) => hkt _ w1 (HK0.out.keep h1))
      obtain ⟨R, hR⟩ : ∃ R, l.tail = R := ⟨_, rfl⟩
      rw [hR] at HKT hrun
      have HR := Lib.hid hR
      have hRl : R.length ≤ 1000000 := by rw [← hR, List.length_tail]; omega
      have HMR := Lib.hid (fun (y : Sx) (hy : y ∈ R) => show y.mass ≤ 1000000 by
        have h1 := mem_mass (List.mem_of_mem_tail (hR ▸ hy))
        have h2 := HM.out
        rw [← HX.out, Sx.mass] at h2
        omega)
      clear z0 z1 z2 hlt hy hY0 hsm hl0 hkt hR
      cases hsm : sm with
      | false =>
        have HNO := Lib.hid (parseP_no (X := X) (by unfold headP; rw [HLI.out, HKL.out, HY0.out, HSM.out, hsm, Bool.and_false, Bool.and_false]))
        rw [hsm] at HSA
        clear hsm hrun
        go_enter Tryz.func16, Tryz.ntmps16
        go_wp2
        refine wp_region_quiet (C := fun w' => Below W.heap.size W w') (by kernel_rfl) (by kernel_rfl) (HBd.out) ?_
        refine QW.lit ?_
        refine qw_want rfl ?_ (fun w' hw' => ?_) ?_
        rotate_left
        · obtain ⟨y0, y1, y2, y3, y4, y5⟩ := HKP2.out w' hw'
          unfold Oper.quietAt
          go_simp
          exact rfl
        simp only [Act.put, List.setIfInBounds_toArray, List.set_cons_succ, List.set_cons_zero]
        refine qw_want rfl (.bool true) (fun w' hw' => ?_) ?_
        · unfold Oper.quietAt
          go_simp
          refine (HL.out w' hw').mono ?_
          rintro e w2 ⟨rfl, hb⟩
          have hz := below_then hw' (Nat.le_refl _) hb
          exact ⟨rfl, by simpa using hz⟩
        simp only [Act.put, List.setIfInBounds_toArray, List.set_cons_succ, List.set_cons_zero]
        refine qw_want rfl (.bool false) (fun w' hw' => ?_) ?_
        · unfold Oper.quietAt
          go_simp
        simp only [Act.put, List.setIfInBounds_toArray, List.set_cons_succ, List.set_cons_zero]
        refine qw_want rfl (.bool false) (fun w' hw' => ?_) ?_
        · unfold Oper.quietAt
          go_simp
        simp only [Act.put, List.setIfInBounds_toArray, List.set_cons_succ, List.set_cons_zero]
        refine qw_want rfl ?_ (fun w' hw' => ?_) ?_
        rotate_left
        · obtain ⟨y0, y1, y2, y3, y4, y5⟩ := HKP2.out w' hw'
          unfold Oper.quietAt
          go_simp
          exact rfl
        simp only [Act.put, List.setIfInBounds_toArray, List.set_cons_succ, List.set_cons_zero]
        refine qw_want rfl ?_ (fun w' hw' => ?_) ?_
        rotate_left
        · obtain ⟨y0, y1, y2, y3, y4, y5⟩ := HKP2.out w' hw'
          unfold Oper.quietAt
          go_simp
          exact rfl
        simp only [Act.put, List.setIfInBounds_toArray, List.set_cons_succ, List.set_cons_zero]
        refine qw_want rfl ?_ (fun w' hw' => ?_) ?_
        rotate_left
        · obtain ⟨y0, y1, y2, y3, y4, y5⟩ := HKP2.out w' hw'
          unfold Oper.quietAt
          go_simp
          exact rfl
        simp only [Act.put, List.setIfInBounds_toArray, List.set_cons_succ, List.set_cons_zero]
        refine qw_want rfl (.bool false) (fun w' hw' => ?_) ?_
        · unfold Oper.quietAt
          go_simp
        simp only [Act.put, List.setIfInBounds_toArray, List.set_cons_succ, List.set_cons_zero]
        refine qw_want rfl (.bool false) (fun w' hw' => ?_) ?_
        · unfold Oper.quietAt
          go_simp
        simp only [Act.put, List.setIfInBounds_toArray, List.set_cons_succ, List.set_cons_zero]
        refine qw_want rfl (.bool false) (fun w' hw' => ?_) ?_
        · unfold Oper.quietAt
          go_simp
        simp only [Act.put, List.setIfInBounds_toArray, List.set_cons_succ, List.set_cons_zero]
        refine qw_want rfl ?_ (fun w' hw' => ?_) ?_
        rotate_left
        · obtain ⟨y0, y1, y2, y3, y4, y5⟩ := HKP2.out w' hw'
          unfold Oper.quietAt
          go_simp
          exact rfl
        simp only [Act.put, List.setIfInBounds_toArray, List.set_cons_succ, List.set_cons_zero]
        refine qw_want rfl ?_ (fun w' hw' => ?_) ?_
        rotate_left
        · obtain ⟨y0, y1, y2, y3, y4, y5⟩ := HKP2.out w' hw'
          unfold Oper.quietAt
          go_simp
          exact rfl
        simp only [Act.put, List.setIfInBounds_toArray, List.set_cons_succ, List.set_cons_zero]
        refine qw_want rfl ?_ (fun w' hw' => ?_) ?_
        rotate_left
        · obtain ⟨y0, y1, y2, y3, y4, y5⟩ := HKP2.out w' hw'
          unfold Oper.quietAt
          go_simp
          exact rfl
        simp only [Act.put, List.setIfInBounds_toArray, List.set_cons_succ, List.set_cons_zero]
        refine qw_want rfl (.bool false) (fun w' hw' => ?_) ?_
        · unfold Oper.quietAt
          go_simp
        simp only [Act.put, List.setIfInBounds_toArray, List.set_cons_succ, List.set_cons_zero]
        refine qw_want rfl (.bool false) (fun w' hw' => ?_) ?_
        · unfold Oper.quietAt
          go_simp
        simp only [Act.put, List.setIfInBounds_toArray, List.set_cons_succ, List.set_cons_zero]
        refine qw_want rfl (.bool false) (fun w' hw' => ?_) ?_
        · unfold Oper.quietAt
          go_simp
        simp only [Act.put, List.setIfInBounds_toArray, List.set_cons_succ, List.set_cons_zero]
        refine qw_want rfl ?_ (fun w' hw' => ?_) ?_
        rotate_left
        · obtain ⟨y0, y1, y2, y3, y4, y5⟩ := HKP2.out w' hw'
          unfold Oper.quietAt
          go_simp
          exact rfl
        simp only [Act.put, List.setIfInBounds_toArray, List.set_cons_succ, List.set_cons_zero]
        refine qw_want rfl ?_ (fun w' hw' => ?_) ?_
        rotate_left
        · obtain ⟨y0, y1, y2, y3, y4, y5⟩ := HKP2.out w' hw'
          unfold Oper.quietAt
          go_simp
          exact rfl
        simp only [Act.put, List.setIfInBounds_toArray, List.set_cons_succ, List.set_cons_zero]
        refine qw_want rfl ?_ (fun w' hw' => ?_) ?_
        rotate_left
        · obtain ⟨y0, y1, y2, y3, y4, y5⟩ := HKP2.out w' hw'
          unfold Oper.quietAt
          go_simp
          exact rfl
        simp only [Act.put, List.setIfInBounds_toArray, List.set_cons_succ, List.set_cons_zero]
        refine qw_want rfl ?_ (fun w' hw' => ?_) ?_
        rotate_left
        · obtain ⟨y0, y1, y2, y3, y4, y5⟩ := HKP2.out w' hw'
          unfold Oper.quietAt
          go_simp
          exact rfl
        simp only [Act.put, List.setIfInBounds_toArray, List.set_cons_succ, List.set_cons_zero]
        refine qw_want rfl (.agg #[.int .i8 0, .string ⟨#[112, 114, 111, 111, 102]⟩, .slice none 0 0]) (fun w' hw' => ?_) ?_
        · unfold Oper.quietAt
          go_simp
          refine (HSY.out w').mono ?_
          rintro e w2 ⟨rfl, hb⟩
          have hz := below_then hw' (Nat.le_refl _) hb
          exact ⟨rfl, by simpa using hz⟩
        simp only [Act.put, List.setIfInBounds_toArray, List.set_cons_succ, List.set_cons_zero]
        refine qw_want rfl (.bool false) (fun w' hw' => ?_) ?_
        · unfold Oper.quietAt
          go_simp
          refine (HSA.out w' hw').mono ?_
          rintro e w2 ⟨rfl, hb⟩
          have hz := below_then hw' (Nat.le_refl _) hb
          exact ⟨rfl, by simpa using hz⟩
        simp only [Act.put, List.setIfInBounds_toArray, List.set_cons_succ, List.set_cons_zero]
        refine qw_want rfl (.bool true) (fun w' hw' => ?_) ?_
        · unfold Oper.quietAt
          go_simp
        simp only [Act.put, List.setIfInBounds_toArray, List.set_cons_succ, List.set_cons_zero]
        refine qw_want rfl (.bool true) (fun w' hw' => ?_) ?_
        · unfold Oper.quietAt
          go_simp
        simp only [Act.put, List.setIfInBounds_toArray, List.set_cons_succ, List.set_cons_zero]
        refine qw_end (fun w5 hb5 => ?_)
        go_wp2
        refine bodyPost_ret (v := .tuple #[.slice none 0 0, .int .i64 30]) (by simp [results, Tryz.results16, go_sem]) rfl (ParseOut.no HNO.out rfl (below_then HW.out (Nat.le_refl _) hb5))
      | true =>
        have HHP := Lib.hid (show headP X = true by unfold headP; rw [HLI.out, HKL.out, HY0.out, HSM.out, hsm, decide_eq_true hlpos]; rfl)
        have hpar := parseP_yes HHP.out (by rw [HKL.out]; omega)
        rw [HKL.out, HR.out] at hpar
        have HPAR := Lib.hid hpar
        rw [hsm] at HSA
        clear hsm hpar
        go_enter Tryz.func16, Tryz.ntmps16
        go_wp2
        refine wp_region_quiet (C := fun w' => Below W.heap.size W w') (by kernel_rfl) (by kernel_rfl) (HBd.out) ?_
        refine QW.lit ?_
        refine qw_want rfl ?_ (fun w' hw' => ?_) ?_
        rotate_left
        · obtain ⟨y0, y1, y2, y3, y4, y5⟩ := HKP2.out w' hw'
          unfold Oper.quietAt
          go_simp
          exact rfl
        simp only [Act.put, List.setIfInBounds_toArray, List.set_cons_succ, List.set_cons_zero]
        refine qw_want rfl (.bool true) (fun w' hw' => ?_) ?_
        · unfold Oper.quietAt
          go_simp
          refine (HL.out w' hw').mono ?_
          rintro e w2 ⟨rfl, hb⟩
          have hz := below_then hw' (Nat.le_refl _) hb
          exact ⟨rfl, by simpa using hz⟩
        simp only [Act.put, List.setIfInBounds_toArray, List.set_cons_succ, List.set_cons_zero]
        refine qw_want rfl (.bool false) (fun w' hw' => ?_) ?_
        · unfold Oper.quietAt
          go_simp
        simp only [Act.put, List.setIfInBounds_toArray, List.set_cons_succ, List.set_cons_zero]
        refine qw_want rfl (.bool false) (fun w' hw' => ?_) ?_
        · unfold Oper.quietAt
          go_simp
        simp only [Act.put, List.setIfInBounds_toArray, List.set_cons_succ, List.set_cons_zero]
        refine qw_want rfl ?_ (fun w' hw' => ?_) ?_
        rotate_left
        · obtain ⟨y0, y1, y2, y3, y4, y5⟩ := HKP2.out w' hw'
          unfold Oper.quietAt
          go_simp
          exact rfl
        simp only [Act.put, List.setIfInBounds_toArray, List.set_cons_succ, List.set_cons_zero]
        refine qw_want rfl ?_ (fun w' hw' => ?_) ?_
        rotate_left
        · obtain ⟨y0, y1, y2, y3, y4, y5⟩ := HKP2.out w' hw'
          unfold Oper.quietAt
          go_simp
          exact rfl
        simp only [Act.put, List.setIfInBounds_toArray, List.set_cons_succ, List.set_cons_zero]
        refine qw_want rfl ?_ (fun w' hw' => ?_) ?_
        rotate_left
        · obtain ⟨y0, y1, y2, y3, y4, y5⟩ := HKP2.out w' hw'
          unfold Oper.quietAt
          go_simp
          exact rfl
        simp only [Act.put, List.setIfInBounds_toArray, List.set_cons_succ, List.set_cons_zero]
        refine qw_want rfl (.bool false) (fun w' hw' => ?_) ?_
        · unfold Oper.quietAt
          go_simp
        simp only [Act.put, List.setIfInBounds_toArray, List.set_cons_succ, List.set_cons_zero]
        refine qw_want rfl (.bool false) (fun w' hw' => ?_) ?_
        · unfold Oper.quietAt
          go_simp
        simp only [Act.put, List.setIfInBounds_toArray, List.set_cons_succ, List.set_cons_zero]
        refine qw_want rfl (.bool false) (fun w' hw' => ?_) ?_
        · unfold Oper.quietAt
          go_simp
        simp only [Act.put, List.setIfInBounds_toArray, List.set_cons_succ, List.set_cons_zero]
        refine qw_want rfl ?_ (fun w' hw' => ?_) ?_
        rotate_left
        · obtain ⟨y0, y1, y2, y3, y4, y5⟩ := HKP2.out w' hw'
          unfold Oper.quietAt
          go_simp
          exact rfl
        simp only [Act.put, List.setIfInBounds_toArray, List.set_cons_succ, List.set_cons_zero]
        refine qw_want rfl ?_ (fun w' hw' => ?_) ?_
        rotate_left
        · obtain ⟨y0, y1, y2, y3, y4, y5⟩ := HKP2.out w' hw'
          unfold Oper.quietAt
          go_simp
          exact rfl
        simp only [Act.put, List.setIfInBounds_toArray, List.set_cons_succ, List.set_cons_zero]
        refine qw_want rfl ?_ (fun w' hw' => ?_) ?_
        rotate_left
        · obtain ⟨y0, y1, y2, y3, y4, y5⟩ := HKP2.out w' hw'
          unfold Oper.quietAt
          go_simp
          exact rfl
        simp only [Act.put, List.setIfInBounds_toArray, List.set_cons_succ, List.set_cons_zero]
        refine qw_want rfl (.bool false) (fun w' hw' => ?_) ?_
        · unfold Oper.quietAt
          go_simp
        simp only [Act.put, List.setIfInBounds_toArray, List.set_cons_succ, List.set_cons_zero]
        refine qw_want rfl (.bool false) (fun w' hw' => ?_) ?_
        · unfold Oper.quietAt
          go_simp
        simp only [Act.put, List.setIfInBounds_toArray, List.set_cons_succ, List.set_cons_zero]
        refine qw_want rfl (.bool false) (fun w' hw' => ?_) ?_
        · unfold Oper.quietAt
          go_simp
        simp only [Act.put, List.setIfInBounds_toArray, List.set_cons_succ, List.set_cons_zero]
        refine qw_want rfl ?_ (fun w' hw' => ?_) ?_
        rotate_left
        · obtain ⟨y0, y1, y2, y3, y4, y5⟩ := HKP2.out w' hw'
          unfold Oper.quietAt
          go_simp
          exact rfl
        simp only [Act.put, List.setIfInBounds_toArray, List.set_cons_succ, List.set_cons_zero]
        refine qw_want rfl ?_ (fun w' hw' => ?_) ?_
        rotate_left
        · obtain ⟨y0, y1, y2, y3, y4, y5⟩ := HKP2.out w' hw'
          unfold Oper.quietAt
          go_simp
          exact rfl
        simp only [Act.put, List.setIfInBounds_toArray, List.set_cons_succ, List.set_cons_zero]
        refine qw_want rfl ?_ (fun w' hw' => ?_) ?_
        rotate_left
        · obtain ⟨y0, y1, y2, y3, y4, y5⟩ := HKP2.out w' hw'
          unfold Oper.quietAt
          go_simp
          exact rfl
        simp only [Act.put, List.setIfInBounds_toArray, List.set_cons_succ, List.set_cons_zero]
        refine qw_want rfl ?_ (fun w' hw' => ?_) ?_
        rotate_left
        · obtain ⟨y0, y1, y2, y3, y4, y5⟩ := HKP2.out w' hw'
          unfold Oper.quietAt
          go_simp
          exact rfl
        simp only [Act.put, List.setIfInBounds_toArray, List.set_cons_succ, List.set_cons_zero]
        refine qw_want rfl (.agg #[.int .i8 0, .string ⟨#[112, 114, 111, 111, 102]⟩, .slice none 0 0]) (fun w' hw' => ?_) ?_
        · unfold Oper.quietAt
          go_simp
          refine (HSY.out w').mono ?_
          rintro e w2 ⟨rfl, hb⟩
          have hz := below_then hw' (Nat.le_refl _) hb
          exact ⟨rfl, by simpa using hz⟩
        simp only [Act.put, List.setIfInBounds_toArray, List.set_cons_succ, List.set_cons_zero]
        refine qw_want rfl (.bool true) (fun w' hw' => ?_) ?_
        · unfold Oper.quietAt
          go_simp
          refine (HSA.out w' hw').mono ?_
          rintro e w2 ⟨rfl, hb⟩
          have hz := below_then hw' (Nat.le_refl _) hb
          exact ⟨rfl, by simpa using hz⟩
        simp only [Act.put, List.setIfInBounds_toArray, List.set_cons_succ, List.set_cons_zero]
        refine qw_want rfl (.bool false) (fun w' hw' => ?_) ?_
        · unfold Oper.quietAt
          go_simp
        simp only [Act.put, List.setIfInBounds_toArray, List.set_cons_succ, List.set_cons_zero]
        refine qw_want rfl (.bool false) (fun w' hw' => ?_) ?_
        · unfold Oper.quietAt
          go_simp
        simp only [Act.put, List.setIfInBounds_toArray, List.set_cons_succ, List.set_cons_zero]
        refine qw_end (fun w5 hb5 => ?_)
        have HB5 := Lib.hid hb5
        obtain ⟨y0, y1, y2, y3, y4, y5⟩ := HKP2.out w5 hb5
        clear hb5
        go_wp2
        have hsz5 := HB5.out.size
        go_loopw [37, 4] (fun d v wx => ∃ (j : Nat) (L : List Stp) (ys : List C4), j ≤ R.length ∧ d = .int .i64 j ∧ StpRow W.heap.size wx v L ys ∧ ys.length = j ∧ allP stepP (R.take j) = some L ∧ Below W.heap.size W wx) (fun d _ _ => (R.length - intOf d).toNat)
        case atStart => exact ⟨0, [], [], Nat.zero_le _, rfl, StpRow.nil _ _, rfl, rfl, HB5.out⟩
        case round =>
          obtain ⟨j, L, ys, hj, rfl, hO, hyl, hAP, hB⟩ := hrel
          obtain ⟨OA, oc, rfl⟩ := own_slice hO.own
          have HO := Lib.hid hO
          have HAP := Lib.hid hAP
          have HB := Lib.hid hB
          have HYL := Lib.hid hyl
          clear hO hAP hB hyl hrun
          by_cases hin : j < R.length
          · have hinz : (j : Int) < (R.length : Int) := by omega
            have d7 : decide ((j : Int) < R.length) = true := decide_eq_true hinz
            have hbwr : Below w.heap.size w wr := below_then HW.out (Nat.le_refl _) HB.out
            obtain ⟨bk, ok, k4, t4, B4, n4, m4, rfl, _, hlt, c0, c1, c2, hy⟩ := (HKT.out wr hbwr) j hin
            obtain ⟨Y, hY⟩ : ∃ Y, R[j] = Y := ⟨_, rfl⟩
            rw [hY] at hy
            obtain ⟨wb, hwb⟩ : ∃ wb, wr.alloc (.cells #[.int .i8 k4, .string t4, .slice B4 n4 m4] 28) = wb := ⟨_, rfl⟩
            have hbb : Below wr.heap.size wr wb := hwb ▸ (Below.refl _ wr).alloc (Nat.le_refl _) _
            have HST := Lib.hid (step_ok Y (HMR.out Y (hY ▸ List.getElem_mem hin)) _ wb (hy.keep hbb))
            have hBw : Below W.heap.size W wb := below_then HB.out (Nat.le_refl _) hbb
            have HBw := Lib.hid hBw
            have HOw := Lib.hid (HO.out.keep hbb)
            obtain ⟨g0, g1, g2, _⟩ := blk3 (hwb ▸ Blk.new wr _ _ : Blk wb wr.heap.size 28 #[.int .i8 k4, .string t4, .slice B4 n4 m4])
            have HSB := Lib.hid (show W.heap.size ≤ wb.heap.size from hBw.size)
            cases hs : stepP Y with
            | none =>
              have HNO := Lib.hid (show parseP X = none by rw [HPAR.out]; exact allP_none hin (by rw [hY]; exact hs))
              have HST2 := Lib.hid (HST.out.mono (fun e w' h => step_none hs h))
              clear hs hY hy hbb hBw hbwr hlt HST
              go_wp2_with (go_at_call 36; (with_reducible refine HST2.out.mono ?_); rintro e w9 ⟨⟨y, rfl⟩, hb9⟩; have HB9 := Lib.hid (below_then (below_then HW.out (Nat.le_refl _) HBw.out) (Nat.le_refl _) hb9); clear hb9)
              refine bodyPost_ret (v := .tuple #[.slice none 0 0, .int .i64 30]) (by simp [results, Tryz.results16, go_sem]) rfl (ParseOut.no HNO.out rfl (HB9.out.alloc HB9.out.size _))
            | some s =>
              have HAP2 := Lib.hid (allP_step hin HAP.out (by rw [hY]; exact hs))
              have HST2 := Lib.hid (HST.out.mono (fun e w' h => step_some hs h))
              clear hs hY hy hbb hBw hbwr hlt HST
              obtain ⟨i0, hi0, hz0, hz1, hz2⟩ := info_parts stp_info
              go_wp2_with (first
                | (go_at_call 36; (with_reducible refine HST2.out.mono ?_); rintro e w9 ⟨⟨y, rfl, hy4, hyp⟩, hb9⟩; obtain ⟨wc, hwc⟩ : ∃ wc, w9.alloc (.cells #[.int .i8 y.k, .int .i64 y.a, .int .i64 y.b, .slice y.A y.n y.c] 46) = wc := ⟨_, rfl⟩; have hb9c : Below w9.heap.size w9 wc := hwc ▸ (Below.refl _ w9).alloc (Nat.le_refl _) _; have HB9 := Lib.hid (below_then (below_then HBw.out (Nat.le_refl _) hb9) (Nat.le_refl _) hb9c); have HO9 := Lib.hid ((HOw.out.keep hb9).keep hb9c); have HY9 := Lib.hid (hy4.keep hb9c); have HYP := Lib.hid (step_apart HOw.out hyp hb9 hb9c HSB.out); obtain ⟨q0, q1, q2, q3⟩ := blk4 (hwc ▸ Blk.new w9 _ _ : Blk wc w9.heap.size 46 #[.int .i8 y.k, .int .i64 y.a, .int .i64 y.b, .slice y.A y.n y.c]); have HSC := Lib.hid (show W.heap.size ≤ wc.heap.size from Nat.le_trans HBw.out.size (Nat.le_trans hb9.size hb9c.size)); clear hy4 hyp hb9 hb9c)
                | (at_builtin; refine list_push _ rfl (.tmp 48) (.tmp 50) 22 rfl W.heap.size 46 i0 _ 4 48 Tryz.underlying22 hi0 hz0 hz1 hz2 rfl (by decide) (.slice OA ys.length oc) ys.length _ rfl (HO9.out.own.alloc _) wc.heap.size #[.int .i8 y.k, .int .i64 y.a, .int .i64 y.b, .slice y.A y.n y.c] rfl (Blk.new _ _ _) rfl (by simp [Value.oneCell']) (by have := HYL.out; omega) (by omega) HSC.out ?_; intro ga ca w10 hown hgrow hat hlt1))
              have hbe : Below W.heap.size W w10 := by
                have hk : Kept (fun i => (Value.slice OA ys.length oc).ownBlock = some i) wc w10 := ((Kept.refl _ wc).alloc _).grown hgrow fun i hi => .inl hi
                exact HB9.out.trans (hk.below HB9.out.size fun k hk => (HO9.out.own.lt k hk).1)
              refine ⟨⟨j + 1, _, ys ++ [y], hin, by go_num, HO9.out.push HY9.out HYP.out hown hgrow (hat.imp id (fun h => by rw [h]; simp)), by rw [List.length_append, HYL.out]; rfl, HAP2.out, hbe⟩, by simp only [intOf]; omega⟩
          · obtain rfl : j = R.length := by omega
            have d7 : decide ((R.length : Int) < R.length) = false := decide_eq_false (by omega)
            have hAP := HAP.out
            rw [List.take_of_length_le (Nat.le_refl _)] at hAP
            have HYES := Lib.hid (show parseP X = some L by rw [HPAR.out, hAP])
            clear hAP
            go_wp2
            exact bodyPost_ret (v := .tuple #[.slice OA ys.length oc, .int .i64 0]) (by simp [results, Tryz.results16, go_sem]) rfl (ParseOut.yes HYES.out HO.out (below_then HW.out (Nat.le_refl _) HB.out))
end Go.Proofs.YtiklliiamljogaaGreatDoor

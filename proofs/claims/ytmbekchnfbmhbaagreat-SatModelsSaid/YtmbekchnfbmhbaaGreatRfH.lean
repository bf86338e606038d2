/- The reference's side (L17/RupP L17/RupA L17/RupB L17/RupC L17/RupD L17/RupF L17/RupG L17/RupH), for layer 21's seat. -/
import Derived.Test.YtmbekchnfbmhbaaGreatRfG
import Derived.Test.YtmbekchnfbmhbaaGreatTrailE
namespace Go.Proofs.YtmbekchnfbmhbaaGreat
section
open Go.Lib
def negsM (c : List Int) : List Int := (c.filter fun x => decide (0 ≤ x)).map negM
def followsM (cs : List (List Int)) (c : List Int) : Bool := (runM cs (negsM c)).2 != -1
/-- The first step that does not follow from what stands ahead of it; -1 if there is none. -/
def rowM : List (List Int) → List (List Int) → Int → Int
  | _, [], _ => -1
  | l, c :: r, i => if followsM l c = true then rowM (l ++ [c]) r (i + 1) else i
theorem mem_negs {c : List Int} {y : Int} : y ∈ negsM c ↔ ∃ x ∈ c, 0 ≤ x ∧ negM x = y := by
  unfold negsM
  rw [List.mem_map]
  constructor
  · rintro ⟨x, hx, e⟩
    obtain ⟨h1, h2⟩ := List.mem_filter.1 hx
    exact ⟨x, h1, by simpa using h2, e⟩
  · rintro ⟨x, hx, h0, e⟩
    exact ⟨x, List.mem_filter.2 ⟨hx, by simpa using h0⟩, e⟩
theorem row_cons (l : List (List Int)) (c : List Int) (r : List (List Int)) (i : Int) : rowM l (c :: r) i = if followsM l c = true then rowM (l ++ [c]) r (i + 1) else i := by conv => lhs; unfold rowM
theorem row_index : ∀ (l s : List (List Int)) (i : Int), 0 ≤ i → rowM l s i = -1 ∨ (i ≤ rowM l s i ∧ rowM l s i < i + s.length)
  | _, [], _, _ => .inl rfl
  | l, c :: r, i, hi => by
    unfold rowM
    split
    · rcases row_index (l ++ [c]) r (i + 1) (by omega) with h | h
      · exact .inl h
      · rw [List.length_cons]; right; omega
    · rw [List.length_cons]; right; omega
theorem row_shift : ∀ (l s : List (List Int)) (i : Int), 0 ≤ i → rowM l s i = if rowM l s 0 = -1 then -1 else i + rowM l s 0
  | _, [], _, _ => rfl
  | l, c :: r, i, hi => by
    unfold rowM
    by_cases h : followsM l c = true
    · rw [if_pos h, if_pos h, row_shift (l ++ [c]) r (i + 1) (by omega), row_shift (l ++ [c]) r (0 + 1) (by omega)]
      by_cases h2 : rowM (l ++ [c]) r 0 = -1
      · simp [h2]
      · have h3 := (row_index (l ++ [c]) r 0 (by omega)).resolve_left h2
        rw [if_neg h2, if_neg h2, if_neg (by omega)]
        omega
    · rw [if_neg h, if_neg h, if_neg (by omega)]
      omega
/-- A row in two parts. -/
theorem row_parts : ∀ (l s t : List (List Int)) (i : Int), 0 ≤ i → rowM l (s ++ t) i = if rowM l s i = -1 then rowM (l ++ s) t (i + s.length) else rowM l s i
  | l, [], t, i, _ => by
    have : rowM l [] i = -1 := rfl
    rw [List.nil_append, if_pos this, List.append_nil]
    simp
  | l, c :: r, t, i, hi => by
    rw [List.cons_append, row_cons, row_cons]
    by_cases h : followsM l c = true
    · rw [if_pos h, if_pos h, row_parts (l ++ [c]) r t (i + 1) (by omega)]
      rw [List.append_assoc, List.singleton_append, List.length_cons]
      have : i + 1 + (r.length : Int) = i + ((r.length + 1 : Nat) : Int) := by omega
      rw [this]
    · rw [if_neg h, if_neg h, if_neg (by omega)]
/-- Assigned all through, for literals below 120. -/
def Two (L : List Int) (k : Nat) : Prop := L.length = 60 ∧ ∀ i, i < k → L[i]? = some 1 ∨ L[i]? = some 2
theorem two_neg {L : List Int} (h : Two L 60) {x : Int} (h0 : 0 ≤ x) (h1 : x < 120) (hv : valM L x ≠ 1) : valM L (negM x) = 1 := by
  have hn : 0 ≤ negM x := by unfold negM; split <;> omega
  unfold valM at hv ⊢
  rw [if_neg (by omega)] at hv
  rw [if_neg (by omega), negM_half]
  have hx : negM x % 2 = if x % 2 = 0 then 1 else 0 := by unfold negM; split <;> omega
  rcases h.2 (x / 2).toNat (by omega) with e | e
  · rw [e] at hv ⊢
    by_cases hp : x % 2 = 0 <;> simp [hp, hx] at hv ⊢
  · rw [e] at hv ⊢
    by_cases hp : x % 2 = 0 <;> simp [hp, hx] at hv ⊢
theorem follows_sound {cs : List (List Int)} {c L : List Int} (hL : Two L 60) (hc : ∀ x ∈ c, 0 ≤ x ∧ x < 120) (hh : holdsM L cs = true) (hf : followsM cs c = true) : ∃ x ∈ c, valM L x = 1 := by
  refine Classical.byContradiction fun hno => ?_
  have hg : ∀ y ∈ negsM c, 0 ≤ y → valM L y = 1 := by
    intro y hy _
    obtain ⟨x, hx, _, e⟩ := mem_negs.1 hy
    rw [← e]
    exact two_neg hL (hc x hx).1 (hc x hx).2 fun hv => hno ⟨x, hx, hv⟩
  have := (run_sound (cs := cs) (given := negsM c) (vals := L) (by rw [hL.1]; decide) hg hh).2
  unfold followsM at hf
  rw [this] at hf
  simp at hf
theorem holds_snoc {L : List Int} {cs : List (List Int)} {c : List Int} : holdsM L (cs ++ [c]) = true ↔ holdsM L cs = true ∧ ∃ x ∈ c, valM L x = 1 := by
  unfold holdsM
  rw [List.all_append, Bool.and_eq_true]
  refine and_congr Iff.rfl ?_
  rw [← st_true L c 0 (-1)]
  simp
/-- The steps that follow hold where the clauses do. -/
theorem row_sound {L : List Int} (hL : Two L 60) : ∀ (cs s : List (List Int)) (i : Int) (n : Nat), 0 ≤ i → (∀ c ∈ s, ∀ x ∈ c, 0 ≤ x ∧ x < 120) → holdsM L cs = true → (rowM cs s i = -1 → n = s.length) → (rowM cs s i ≠ -1 → i + n = rowM cs s i) → holdsM L (s.take n) = true
  | _, [], _, n, _, _, _, _, _ => by rw [List.take_nil]; rfl
  | cs, c :: r, i, n, hi, hr, hh, h1, h2 => by
    unfold rowM at h1 h2
    by_cases hf : followsM cs c = true
    · rw [if_pos hf] at h1 h2
      have hc := follows_sound hL (hr c List.mem_cons_self) hh hf
      cases n with
      | zero => rfl
      | succ m =>
        rw [List.take_succ_cons]
        have hrest := row_sound hL (cs ++ [c]) r (i + 1) m (by omega) (fun d hd => hr d (List.mem_cons_of_mem _ hd)) (holds_snoc.2 ⟨hh, hc⟩) (fun e => by have := h1 e; rw [List.length_cons] at this; omega) (fun e => by have := h2 e; omega)
        unfold holdsM at hrest ⊢
        rw [List.all_cons, Bool.and_eq_true]
        exact ⟨by have := (st_true L c 0 (-1)).2 hc; simp [this], hrest⟩
    · rw [if_neg hf] at h1 h2
      have : n = 0 := by have := h2 (by omega); omega
      subst this
      rfl
/-- More clauses: no less follows. -/
theorem follows_more {cs cs' : List (List Int)} {c : List Int} (h : ∀ d ∈ cs, d ∈ cs') (hf : followsM cs c = true) : followsM cs' c = true := by
  unfold followsM at hf ⊢
  cases hk : (runM cs' (negsM c)).2 != -1 with
  | true => rfl
  | false =>
    have hk' : (runM cs' (negsM c)).2 = -1 := by simpa using hk
    have := (run_sub (cs := cs') (cs' := cs) (given := negsM c) (given' := negsM c) h (fun x hx => hx) hk').1
    rw [this] at hf
    simp at hf
end
section
open Go.RowKit Go.Lib
theorem negs_snoc (c : List Int) {k : Nat} (h : k < c.length) : negsM (c.take (k + 1)) = negsM (c.take k) ++ (if 0 ≤ c[k] then [negM c[k]] else []) := by
  unfold negsM
  rw [List.take_succ_eq_append_getElem h, List.filter_append, List.map_append]
  congr 1
  by_cases h0 : 0 ≤ c[k] <;> simp [h0]
theorem negs_len (c : List Int) : (negsM c).length ≤ c.length := by
  unfold negsM
  rw [List.length_map]
  exact List.length_filter_le _ _
theorem i64_neg {x : Int} (h0 : 0 ≤ x) (h : x ≤ 9223372036854775807) : bits .xor .i64 x 1 = negM x := i64_xor_one x h0 (by omega)

theorem negs_max {c : List Int} (hm : ∀ x ∈ c, x ≤ 9223372036854775807) : ∀ x ∈ negsM c, x ≤ 9223372036854775807 := by
  intro y hy
  obtain ⟨x, hx, h0, rfl⟩ := mem_negs.1 hy
  have := hm x hx
  unfold negM
  split <;> omega
end
section
open Go.RowKit Go.Lib
set_option maxHeartbeats 1000000 in
theorem follows17_ok {w : World} {GA : Option Addr} {rows : List (Option Addr × Nat × List Int)} {A : Option Addr} {c : List Int} (capg cap : Nat) (hg : Grid w GA rows) (hr : rows.length ≤ 20000) (he : ∀ r ∈ rows, r.2.2.length ≤ 50) (hmr : ∀ r ∈ rows, ∀ x ∈ r.2.2, x ≤ 9223372036854775807) (h : Row .i64 w A c) (hm : ∀ x ∈ c, x ≤ 9223372036854775807) :
    Calls Tryz.prog 42 #[.slice GA rows.length capg, .slice A c.length cap] w fun e w' => e = .returned (.bool (followsM (rowsOf rows) c)) ∧ Below w.heap.size w w' := by
  have K2 := fun W NA nc (hb : Below w.heap.size w W) (hrw : Row .i64 W NA (negsM c)) => closes16_ok capg nc (hg.below hb) hr he hmr hrw (negs_max hm)
  have hq : ((runM (rowsOf rows) (negsM c)).2 != -1) = followsM (rowsOf rows) c := rfl
  rw [hq] at K2
  generalize followsM (rowsOf rows) c = q at K2
  clear hq hg he hmr hr
  obtain ⟨i0, hi, hz0, hz1, hz2⟩ := info_parts int_info
  have hlen := h.len
  have H := Lib.hid h
  have Hm := Lib.hid hm
  clear h hm
  go_enter Tryz.func42, Tryz.ntmps42
  go_wp2
  go_loopw [6, 5] (fun vi vo wr => ∃ i : Nat, i ≤ c.length ∧ vi = .int .i64 i ∧ wr.ownsRow w.heap.size 3 1 vo (negsM (c.take i)).length ((negsM (c.take i)).map (Value.int .i64)) ∧ Below w.heap.size w wr) (fun vi _ _ => (c.length - intOf vi).toNat)
  case atStart => exact ⟨0, Nat.zero_le _, rfl, World.ownsRow_nil _ _ _ _, Below.refl _ _⟩
  case round =>
    obtain ⟨i, hi2, rfl, hown, hbel⟩ := hrel
    have Hown := Lib.hid hown
    have Hbel := Lib.hid hbel
    have hnl := negs_len (c.take i)
    rw [List.length_take] at hnl
    by_cases hlt : i < c.length
    · have d1 : decide ((i : Int) < c.length) = true := by simp; omega
      obtain ⟨b, off, hA, hb, hcell⟩ := (H.out.below hbel).at_.resolve_left (by omega)
      subst hA
      have y0 := hcell i hlt
      have t1 : (0 : Int) ≤ (i : Int) := by omega
      have t2 : (i : Int) < (c.length : Int) := by omega
      have hx := Hm.out c[i] (List.getElem_mem hlt)
      have Hsn := Lib.hid (negs_snoc c hlt)
      clear hcell hown hbel
      generalize c[i] = x at *
      by_cases h0 : 0 ≤ x
      · have d2 : decide ((0 : Int) ≤ x) = true := decide_eq_true h0
        have hn := i64_neg h0 hx
        have Hs2 := Lib.hid (show negsM (c.take (i + 1)) = negsM (c.take i) ++ [negM x] by rw [Hsn.out, if_pos h0])
        generalize negsM (c.take i) = fs at *
        have X1 := Lib.hid (show (fs.length + 1) * 8 ≤ 140737488355328 by omega)
        clear h0 hx hnl
        go_wp2_with (at_builtin; refine list_push _ rfl (.tmp 18) (.tmp 24) 23 rfl w.heap.size 3 i0 (.int .i64 0) 1 8 Tryz.underlying23 hi hz0 hz1 hz2 rfl (by decide) _ fs.length (fs.map (Value.int .i64)) rfl (Hown.out.alloc _) wr.heap.size #[.int .i64 (negM x)] rfl (Blk.new wr _ _) rfl (by intro u hu; rw [List.mem_singleton.1 hu]; rfl) X1.out (by decide) Hbel.out.size ?_; intro ga ca w3 ho3 hg3 _ _; have HO3 := Lib.hid ho3; have HB3 := Lib.hid (Below.grown (Hbel.out.alloc Hbel.out.size _) hg3 (Nat.le_trans Hbel.out.size (by simp)) (own_base_le Hown.out)); clear ho3 hg3)
        go_roundw
        case rel => exact ⟨i + 1, by omega, by go_num, by rw [Hs2.out, List.length_append, List.map_append]; exact HO3.out, HB3.out⟩
        case measure => simp only [intOf]; omega
      · have d2 : decide ((0 : Int) ≤ x) = false := decide_eq_false h0
        have Hs2 := Lib.hid (show negsM (c.take (i + 1)) = negsM (c.take i) by rw [Hsn.out, if_neg h0, List.append_nil])
        clear h0 hx hnl
        go_wp2
        go_roundw
        case rel => exact ⟨i + 1, by omega, by go_num, by rw [Hs2.out]; exact Hown.out, Hbel.out⟩
        case measure => simp only [intOf]; omega
    · obtain rfl : i = c.length := by omega
      have d1 : decide ((c.length : Int) < c.length) = false := by simp
      rw [List.take_length] at hown
      have hnl2 := negs_len c
      obtain ⟨NA, nc, rfl, hrw, _⟩ := own_row hown rfl (by omega)
      have K3 := K2 _ NA nc Hbel.out hrw
      clear hown hbel hnl hnl2 hrw K2
      go_wp2_with (go_at_call 61; (with_reducible refine K3.mono ?_); rintro e w2 ⟨rfl, hb2⟩; have HB2 := Lib.hid (below_then Hbel.out (Nat.le_refl _) hb2); clear hb2)
      go_ret
      exact ⟨rfl, HB2.out⟩
end
section
open Go.RowKit Go.Lib
/-- Numbers of one byte, as cells. -/
def c8 (L : List Int) : Array Value := (L.map (Value.int .i8)).toArray
theorem c8_set (L : List Int) (i : Nat) (v : Int) : (c8 L).setIfInBounds i (.int .i8 v) = c8 (L.set i v) := by
  unfold c8
  rw [List.setIfInBounds_toArray, List.map_set]
theorem c8_get (L : List Int) (i : Nat) : (c8 L)[i]? = L[i]?.map (Value.int .i8) := by
  unfold c8
  rw [List.getElem?_toArray, List.getElem?_map]
theorem blk8_cell {w : World} {g i : Nat} {L : List Int} (h : Blk w g 26 (c8 L)) (hi : i < L.length) : w.cell? ⟨g, i, none⟩ = some (.int .i8 L[i]) := by
  rw [h.cell i, c8_get, List.getElem?_eq_getElem hi]; rfl
theorem blk8_set {w : World} {g : Nat} {L : List Int} (h : Blk w g 26 (c8 L)) (i : Nat) (v : Int) : Blk (w.setCell ⟨g, i, none⟩ (.int .i8 v)) g 26 (c8 (L.set i v)) := by
  rw [← c8_set]
  exact h.set_ i _
theorem blk8_row {w : World} {g : Nat} {L : List Int} (h : Blk w g 26 (c8 L)) (hl : L.length ≤ 1000000) : Row .i8 w (some ⟨g, 0, none⟩) L := by
  refine ⟨hl, .inr ⟨g, 0, rfl, h.lt, fun i hi => ?_⟩⟩
  rw [Nat.zero_add]
  exact blk8_cell h hi
theorem two_set {L : List Int} {k : Nat} (h : Two L k) (hk : k < 60) {v : Int} (hv : v = 1 ∨ v = 2) : Two (L.set k v) (k + 1) := by
  refine ⟨by rw [List.length_set]; exact h.1, fun i hi => ?_⟩
  by_cases e : i = k
  · subst e
    rw [List.getElem?_set_self (by rw [h.1]; exact hk)]
    rcases hv with rfl | rfl
    · exact .inl rfl
    · exact .inr rfl
  · rw [List.getElem?_set_ne (by omega)]
    exact h.2 i (by omega)
theorem two_again {L : List Int} {k : Nat} (h : Two L (k + 1)) {v : Int} (hv : v = 1 ∨ v = 2) : Two (L.set k v) (k + 1) := by
  refine ⟨by rw [List.length_set]; exact h.1, fun i hi => ?_⟩
  by_cases e : i = k
  · subst e
    rcases Nat.lt_or_ge i L.length with hl | hl
    · rw [List.getElem?_set_self hl]
      rcases hv with rfl | rfl
      · exact .inl rfl
      · exact .inr rfl
    · have := h.2 i hi
      rw [List.getElem?_eq_none hl] at this
      rcases this with h | h <;> cases h
  · rw [List.getElem?_set_ne (by omega)]
    exact h.2 i hi
theorem int8_infoB : (Tryz.prog.info? 26).map (fun i => (i.zero, i.size, i.bytes)) = some (some (.int .i8 0), 1, 1) := by kernel_rfl
def zeros60 : List Int := List.replicate 60 0
theorem two_zeros : Two zeros60 0 := ⟨by unfold zeros60; simp, fun i hi => by omega⟩
theorem make60 (w : World) : (Instr.makeSlice 27 (.int .i64 60) (.int .i64 60)).run Tryz.prog w = .ok (.slice (some ⟨w.heap.size, 0, none⟩) 60 60) (w.alloc (.cells (c8 zeros60) 26)) := by
  obtain ⟨i0, hi, hz0, hz1, hz2⟩ := info_parts int8_infoB
  have h := run_make_rowN (P := Tryz.prog) 27 26 i0 (.int .i8 0) Tryz.underlying27 hi hz0 .i64 .i64 60 60 (Nat.le_refl _) (by rw [hz2]; decide) (by decide) w
  refine Eq.trans h ?_
  rw [hz1]
  have e : madeCells (Value.int .i8 0).cells (60 * 1) = c8 zeros60 := by
    show madeCells #[Value.int .i8 0] 60 = _
    rw [made_one]
    unfold c8 zeros60
    rw [List.map_replicate]
  rw [e]
end
section
open Go.RowKit Go.Lib
theorem clone_info : (Tryz.prog.info? 23).map (fun i => (i.zero, i.size, i.bytes)) = some (some (.slice none 0 0), 1, 24) := by kernel_rfl

set_option maxRecDepth 100000 in
theorem clone_grid {w : World} {A : Option Addr} {rows : List (Option Addr × Nat × List Int)} (cap : Nat) (h : Grid w A rows) (hp : 0 < rows.length) :
    Calls Tryz.prog 17 #[.slice A rows.length cap] w fun e w' => ∃ v, e = .returned v ∧ w'.ownsRow w.heap.size 23 1 v rows.length (rows.map encR) ∧ Below w.heap.size w w' := by
  have hl := h.len
  obtain ⟨i0, hi, hz0, hz1, hz2⟩ := info_parts clone_info
  obtain ⟨b, off, rfl, _, hc⟩ := h.at_.resolve_left (by omega)
  refine (Tryz.slices_Clone_f17 i0 _ 1 24 hi hz0 hz1 hz2 rfl (by decide) Tryz.sizeOf23 b off rows.length cap (rows.map encR) w (by simp) (by unfold maxLen; omega) (by omega) ?_ ?_).mono fun e w' ⟨v, h1, h2, _, h3⟩ => ⟨v, h1, h2, h3⟩
  · intro j u hu
    rw [List.getElem?_map] at hu
    by_cases hj : j < rows.length
    · rw [List.getElem?_eq_getElem hj] at hu
      injection hu with hu
      rw [← hu]
      exact (hc j hj).1
    · rw [List.getElem?_eq_none (by omega)] at hu
      cases hu
  · intro u hu
    obtain ⟨r, _, rfl⟩ := List.mem_map.1 hu
    exact encR_one r
end
section
open Go.RowKit Go.Lib
/-- What behind gathers: a row of its own, or nothing at all. -/
def Gath (w : World) (base : Nat) (v : Value) (rows : List (Option Addr × Nat × List Int)) : Prop :=
  w.ownsRow base 23 1 v rows.length (rows.map encR) ∨ (rows = [] ∧ ∃ A, v = .slice A 0 0)
theorem Gath.kept {S : Nat → Prop} {w w' : World} {base : Nat} {v : Value} {rows : List (Option Addr × Nat × List Int)} (h : Gath w base v rows) (hk : Kept S w w') (hS : ∀ g, base ≤ g → ¬ S g) : Gath w' base v rows :=
  h.imp (fun ho => own_kept ho hk fun g hg => hS g (ho.lt g hg).1) id
set_option maxRecDepth 100000 in
theorem Gath.grid {w : World} {base : Nat} {v : Value} {rows : List (Option Addr × Nat × List Int)} (h : Gath w base v rows) (hl : rows.length ≤ 1000000) (hr : ∀ r ∈ rows, Row .i64 w r.1 r.2.2 ∧ (r.1 = none → r.2.1 = 0)) :
    ∃ AA cap, v = .slice AA rows.length cap ∧ Grid w AA rows := by
  rcases h with ho | ⟨rfl, A, rfl⟩
  · rcases Nat.eq_zero_or_pos rows.length with h0 | h0
    · obtain ⟨A, cap, rfl⟩ := own_slice ho
      exact ⟨A, cap, rfl, ⟨hl, .inl h0⟩⟩
    · obtain ⟨g, cap, rfl, _, hg, _⟩ := own_form ho h0
      refine ⟨_, cap, rfl, ⟨hl, .inr ⟨g, 0, rfl, hg, fun k hk => ?_⟩⟩⟩
      have hm := hr rows[k] (List.getElem_mem hk)
      refine ⟨?_, hm.1, hm.2⟩
      have := ho.cells (g := g) rfl k (encR rows[k]) (by rw [List.getElem?_map, List.getElem?_eq_getElem hk]; rfl)
      rw [addr_add] at this
      rw [Nat.zero_add]
      exact this
  · exact ⟨A, 0, rfl, ⟨by simp, .inl rfl⟩⟩
theorem Grid.each {w : World} {A : Option Addr} {rows : List (Option Addr × Nat × List Int)} (h : Grid w A rows) : ∀ r ∈ rows, Row .i64 w r.1 r.2.2 ∧ (r.1 = none → r.2.1 = 0) := by
  intro r hr
  obtain ⟨k, hk, rfl⟩ := List.mem_iff_getElem.1 hr
  obtain ⟨b, off, _, _, hc⟩ := h.at_.resolve_left (by omega)
  exact ⟨(hc k hk).2.1, (hc k hk).2.2⟩

set_option maxRecDepth 100000 in
theorem gath_push {w : World} {base : Nat} {v : Value} {rows : List (Option Addr × Nat × List Int)} (h : Gath w base v rows) (t ty : TypeId) (ht : Tryz.prog.underlying t = some (.slice 23)) (r : Option Addr × Nat × List Int) {g0 : Nat} (hb : Blk w g0 23 #[encR r]) (hl : rows.length + 1 ≤ 1000000) (hbase : base ≤ w.heap.size) :
    ∃ v' w', (Builtin.append_ #[t, t] ty #[v, .slice (some ⟨g0, 0, none⟩) 1 1]).run Tryz.prog w = .ok v' w' ∧ Gath w' base v' (rows ++ [r]) ∧ Below base w w' := by
  obtain ⟨i0, hi, hz0, hz1, hz2⟩ := info_parts clone_info
  have hnews := World.news_of_block hb
  have h1 : ∀ u ∈ [encR r], u.oneCell' = true := by intro u hu; rw [List.mem_singleton.1 hu]; rfl
  have own : ∀ v0, w.ownsRow base 23 1 v0 rows.length (rows.map encR) → ∃ v' w', (Builtin.append_ #[t, t] ty #[v0, .slice (some ⟨g0, 0, none⟩) 1 1]).run Tryz.prog w = .ok v' w' ∧ Gath w' base v' (rows ++ [r]) ∧ Below base w w' := by
    intro v0 ho
    obtain ⟨g', cap', w', r1, r2, r3, r4, r5⟩ := run_append_lies (P := Tryz.prog) w t ty base 23 i0 _ 1 24 ht hi hz0 hz1 hz2 rfl (by decide) v0 rows.length _ ho ⟨g0, 0, none⟩ 1 1 [encR r] rfl hnews h1 (by omega) (by unfold maxLen; omega) (by omega) hbase w.heap.size rfl
    refine ⟨_, w', r1, .inl ?_, Below.grown (Below.refl _ _) r3 hbase (own_base_le ho)⟩
    rw [List.length_append, List.map_append]
    exact r2
  rcases h with ho | ⟨rfl, A, rfl⟩
  · exact own v ho
  · cases A with
    | none => exact own _ (World.ownsRow_nil _ _ _ _)
    | some a =>
      have hr := run_append_grow (P := Tryz.prog) w t ty 23 i0 _ ht hi hz0 a 0 0 [] (by simp) (fun j u hu => by cases hu) ⟨g0, 0, none⟩ 1 1 [encR r] (by rw [hz1]; rfl) hnews (by omega) (by omega) (growslice_fits (by omega) (by rw [hz2]; decide))
      have hge := grownCap_ge w (0 + 1) 0 23
      have hcm : grownCap w (0 + 1) 0 23 ≤ maxLen := grownCap_le_maxLen w (0 + 1) 0 23 (by unfold maxLen; omega)
      refine ⟨_, _, hr, .inl ⟨rfl, .inr ⟨w.heap.size, _, _, rfl, hbase, heap_alloc_new w.drew _, hge, hcm, ?_, ?_⟩⟩, ?_⟩
      · simp only [Array.size_append, List.size_toArray, size_zeroCells, List.length_nil, List.length_singleton]
        have hzc : (Value.slice none 0 0).cells.size = 1 := rfl
        rw [hzc]
        omega
      · simp
      · exact ⟨rfl, rfl, rfl, by simp, fun k hk => heap_alloc_old w.drew _ (by simpa using Nat.lt_of_lt_of_le hk hbase)⟩

theorem clone_zero {w : World} (A : Option Addr) (cap : Nat) :
    Calls Tryz.prog 17 #[.slice A 0 cap] w fun e w' => ∃ v, e = .returned v ∧ Gath w' w.heap.size v [] ∧ Below w.heap.size w w' := by
  cases A with
  | none =>
    refine (Tryz.slices_Clone_nil_f17 0 cap w).mono ?_
    rintro e w' ⟨rfl, rfl⟩
    exact ⟨_, rfl, .inl (World.ownsRow_nil _ _ _ _), Below.refl _ _⟩
  | some a =>
    obtain ⟨i0, hi, hz0, hz1, hz2⟩ := info_parts clone_info
    have he : (w.alloc (.cells #[] 23)).ownsRow w.heap.size 23 1 (.slice (some ⟨w.heap.size, 0, none⟩) 0 0) 0 [] :=
      ⟨rfl, .inr ⟨w.heap.size, 0, #[], rfl, Nat.le_refl _, heap_alloc_new w _, Nat.le_refl _, Nat.zero_le _, rfl, rfl⟩⟩
    have He := Lib.hid he
    have q1 := Lib.run_eql_slice_nil (P := Tryz.prog) w 22 23 (some a) 0 cap 0 0 Tryz.underlying22
    simp only [Option.isNone_some] at q1
    clear he
    go_enter Tryz.func17, Tryz.ntmps17
    go_wp2_with (at_builtin; refine wpList_plain rfl fun K hK => ?_; go_loud (refine wp_append_own _ (.tmp 5) (.tmp 6) 22 rfl w.heap.size 23 i0 _ 1 24 Tryz.underlying22 hi hz0 hz1 hz2 rfl (by decide) _ 0 [] rfl He.out a 0 cap [] rfl rfl (fun j u hu => by cases hu) (fun u hu => by cases hu) (by unfold maxLen; omega) (by omega) (by simp) ?_); intro v' w' h2 h3 _; refine hK _ _ ?_; have H2 := Lib.hid h2; have H3 := Lib.hid (Below.grown ((Below.refl _ w).alloc (Nat.le_refl _) _) h3 (by simp) (own_base_le He.out)); clear h2 h3)
    go_ret
    exact ⟨_, rfl, .inl H2.out, H3.out⟩
set_option maxRecDepth 100000 in
theorem clone_gath {w : World} {A : Option Addr} {rows : List (Option Addr × Nat × List Int)} (cap : Nat) (h : Grid w A rows) :
    Calls Tryz.prog 17 #[.slice A rows.length cap] w fun e w' => ∃ v, e = .returned v ∧ Gath w' w.heap.size v rows ∧ Below w.heap.size w w' := by
  rcases Nat.eq_zero_or_pos rows.length with h0 | h0
  · obtain rfl := List.eq_nil_of_length_eq_zero h0
    exact clone_zero A cap
  · refine (clone_grid cap h h0).mono ?_
    rintro e w' ⟨v, rfl, ho, hb⟩
    exact ⟨v, rfl, .inl ho, hb⟩

theorem Gath.alloc {w : World} {base : Nat} {v : Value} {rows : List (Option Addr × Nat × List Int)} (h : Gath w base v rows) (o : Obj) : Gath (w.alloc o) base v rows :=
  h.kept (S := fun _ => False) ((Kept.refl _ w).alloc o) (fun _ _ h => h)
set_option maxRecDepth 100000 in
theorem wp_gath {o : Oper} {a : Act} {K : Act → World → Prop} {Q : Exit → Act → World → Prop} (w : World) (s x : Operand) (t : TypeId)
    (ho : o.op = .call { callee := .builtin .append, args := #[s, x], argTypes := #[t, t] })
    (base : Nat) (v : Value) (rows : List (Option Addr × Nat × List Int)) (hs : a.eval s = v) (hga : Gath w base v rows) (r : Option Addr × Nat × List Int) (g0 : Nat) (hx : a.eval x = .slice (some ⟨g0, 0, none⟩) 1 1) (hb : Blk w g0 23 #[encR r])
    (ht : Tryz.prog.underlying t = some (.slice 23)) (hl : rows.length + 1 ≤ 1000000) (hbase : base ≤ w.heap.size)
    (h : ∀ v' w', Gath w' base v' (rows ++ [r]) → Below base w w' → K (a.put o.dst v') w') : o.wp Tryz.prog a w K Q := by
  obtain ⟨v', w', hr, h2, h3⟩ := gath_push hga t o.type ht r hb hl hbase
  unfold Oper.wp execOp
  simp only [ho, resolve, invoke, builtin, Sem.run_bind, Sem.run_pure, Result.andThen_ok, List.map_toArray, List.map_cons, List.map_nil, hs, hx, hr]
  exact h v' w' h2 h3
theorem list_gath {ops : Array Oper} {rest : List Oper} {o : Oper} {a : Act} {Q : Exit → Act → World → Prop} (w : World) (hgd : o.guard = none) (s x : Operand) (t : TypeId)
    (ho : o.op = .call { callee := .builtin .append, args := #[s, x], argTypes := #[t, t] })
    (base : Nat) (v : Value) (rows : List (Option Addr × Nat × List Int)) (hs : a.eval s = v) (hga : Gath w base v rows) (r : Option Addr × Nat × List Int) (g0 : Nat) (hx : a.eval x = .slice (some ⟨g0, 0, none⟩) 1 1) (hb : Blk w g0 23 #[encR r])
    (ht : Tryz.prog.underlying t = some (.slice 23)) (hl : rows.length + 1 ≤ 1000000) (hbase : base ≤ w.heap.size)
    (h : ∀ v' w', Gath w' base v' (rows ++ [r]) → Below base w w' → wpList Tryz.prog ops Q rest (a.put o.dst v') w') : wpList Tryz.prog ops Q (o :: rest) a w :=
  wpList_plain hgd fun _ hK => wp_gath w s x t ho base v rows hs hga r g0 hx hb ht hl hbase fun v' w' h2 h3 => hK _ _ (h v' w' h2 h3)

theorem row_at (L S : List (Option Addr × Nat × List Int)) {k : Nat} (h : k < S.length) (i : Int) :
    rowM (rowsOf (L ++ S.take k)) (rowsOf (S.drop k)) i = if followsM (rowsOf (L ++ S.take k)) S[k].2.2 = true then rowM (rowsOf (L ++ S.take (k + 1))) (rowsOf (S.drop (k + 1))) (i + 1) else i := by
  rw [List.drop_eq_getElem_cons h]
  show rowM _ (S[k].2.2 :: rowsOf (S.drop (k + 1))) i = _
  rw [row_cons]
  have : rowsOf (L ++ S.take (k + 1)) = rowsOf (L ++ S.take k) ++ [S[k].2.2] := by
    rw [List.take_succ_eq_append_getElem h, ← List.append_assoc]
    unfold rowsOf
    rw [List.map_append (l₂ := [S[k]])]
    rfl
  rw [this]
end
section
open Go.RowKit Go.Lib
attribute [local go_sem] Oper.semAt_some
/-- What Row's loop holds behind k steps; the result's cell lies at B, the count's at B + 1, the two boxes at B + 2, B + 3, the loop's blocks at B + 4, B + 5. -/
structure RX (w : World) (B : Nat) (LA SA : Option Addr) (nl cl ns cs : Nat) (r : Loop) (q : Int) (k : Int) (W : World) : Prop where
  loop : LoopAt W (B + 5) (B + 4) r
  res : Blk W B 3 #[.int .i64 q]
  at_ : Blk W (B + 1) 3 #[.int .i64 k]
  x1 : Blk W (B + 2) 22 #[.slice LA nl cl]
  x2 : Blk W (B + 3) 22 #[.slice SA ns cs]
  kept : Below B w W
theorem RX.below {w W W' : World} {B : Nat} {LA SA : Option Addr} {nl cl ns cs : Nat} {r : Loop} {q k : Int} (h : RX w B LA SA nl cl ns cs r q k W) (hb : Below (B + 6) W W') : RX w B LA SA nl cl ns cs r q k W' :=
  ⟨⟨(hb.block _ (by omega)).trans h.loop.rec_, (hb.block _ (by omega)).trans h.loop.def_, h.loop.ne_⟩, h.res.below hb (by omega), h.at_.below hb (by omega), h.x1.below hb (by omega), h.x2.below hb (by omega), h.kept.trans (hb.mono (by omega))⟩

theorem Grid.putObj {W : World} {A : Option Addr} {rows : List (Option Addr × Nat × List Int)} (h : Grid W A rows) {l : Nat} {r : Loop} (hl : W.heap[l]? = some (.loop r)) (o : Obj) : Grid (W.putObj l o) A rows :=
  ⟨h.len, h.at_.imp id fun ⟨b, off, h1, h2, h3⟩ => ⟨b, off, h1, Nat.lt_of_lt_of_le h2 (Kept.putObj W l o).size, fun i hi => ⟨cell_putObj hl o (h3 i hi).1, (h3 i hi).2.1.putObj hl o, (h3 i hi).2.2⟩⟩⟩
theorem RX.put {w W : World} {B : Nat} {LA SA : Option Addr} {nl cl ns cs : Nat} {r : Loop} {q k : Int} (h : RX w B LA SA nl cl ns cs r q k W) (r' : Loop) : RX w B LA SA nl cl ns cs r' q k (W.putObj (B + 5) (.loop r')) := by
  have hk := Kept.putObj W (B + 5) (.loop r')
  have := h.loop.lt
  exact ⟨h.loop.put r', h.res.kept hk (by omega), h.at_.kept hk (by omega), h.x1.kept hk (by omega), h.x2.kept hk (by omega), h.kept.trans (hk.below (by omega) (fun k hk => by omega))⟩
theorem RX.at_set {w W : World} {B : Nat} {LA SA : Option Addr} {nl cl ns cs : Nat} {r : Loop} {q k : Int} (h : RX w B LA SA nl cl ns cs r q k W) (j : Int) : RX w B LA SA nl cl ns cs r q j (W.setCell ⟨B + 1, 0, none⟩ (.int .i64 j)) := by
  have hk := Kept.set1 W (B + 1) 0 (.int .i64 j)
  have := h.loop.lt
  exact ⟨h.loop.kept hk (by omega) (by omega), h.res.kept hk (by omega), h.at_.set_ 0 _, h.x1.kept hk (by omega), h.x2.kept hk (by omega), h.kept.trans (hk.below (by omega) (fun k hk => by omega))⟩
theorem RX.res_set {w W : World} {B : Nat} {LA SA : Option Addr} {nl cl ns cs : Nat} {r : Loop} {q k : Int} (h : RX w B LA SA nl cl ns cs r q k W) (j : Int) : RX w B LA SA nl cl ns cs r j k (W.setCell ⟨B, 0, none⟩ (.int .i64 j)) := by
  have hk := Kept.set1 W B 0 (.int .i64 j)
  have := h.loop.lt
  exact ⟨h.loop.kept hk (by omega) (by omega), h.res.set_ 0 _, h.at_.kept hk (by omega), h.x1.kept hk (by omega), h.x2.kept hk (by omega), h.kept.trans (hk.below (by omega) (fun k hk => by omega))⟩
end
section
open Go.RowKit Go.Lib
def refutesM (l s : List (List Int)) : Bool := decide (0 < s.length) && (s.getD (s.length - 1) [0]).isEmpty && decide (rowM l s 0 < 0)
end
end Go.Proofs.YtmbekchnfbmhbaaGreat
